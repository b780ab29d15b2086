import Derived.Test.YtchdmofoaokpjaaGreatDoorM30Bs
namespace Go.Aw
open Go Go.RowKit Go.Extern.Stop Go.Stop Go.Extern
open Go.Proofs.Tryz (prog)
open Go.Proofs
set_option linter.all false
abbrev asW (ta : Addr) (w : World) : World := (w.alloc (.cells #[.pointer (some ta)] 147)).alloc (.cells #[.pointer (some ⟨1, 147, none⟩), .pointer (some ⟨w.heap.size, 0, none⟩), .int .u64 150] 182)
theorem Chain.alloc {w : World} {o : Obj} : ∀ {e : Value} {n : Int} {k : Nat}, Chain w e n k -> Chain (w.alloc o) e n k
 | _, _, _, .num n => .num n
 | _, _, _, .flt a u n k h c => .flt a u n k (by rw [World.cell?_alloc_lt _ _ _ (World.block_lt_of_cell? _ _ h)]; exact h) c.alloc
set_option maxHeartbeats 4000000 in
set_option maxRecDepth 1000000 in
theorem z2m (ta : Addr) (old : Value) (n : Int) (k : Nat) (e : Value) (w : World) (hc : Chain w e n k) (ht : w.cell? ta = some old) (hf : w.frozen? ta = false) (hg : w.cell? ⟨0, 0, none⟩ = some (.iface 221 (.agg #[.pointer (some ⟨1, 115, none⟩)]))) :
  Calls prog 52 #[e, .iface 147 (.pointer (some ta))] w
   fun ev w' => ev = .returned (.bool true) /\ w' = ((qje ⟨w.heap.size, 0, none⟩ (asW ta w)).alloc (.cells #[.int .i64 n] 26)).setCell ta (.int .i64 n) := by
 have h6 := @run_callFunc_extern prog 83 _ (fun args => ReflectliteValue.unpack (args.getD 0 (.tuple #[]))) Tryz.func83 (by kernel_rfl) (by kernel_rfl) (by kernel_rfl) (by kernel_rfl)
 have h7 := @run_callFunc_extern prog 84 _ (ReflectliteValue.methodAny (ReflectliteValue.valueError "reflectlite.Value.Type" 0) (fun t _ _ _ => ReflectliteType.toType t)) Tryz.func84 (by kernel_rfl) (by kernel_rfl) (by kernel_rfl) (by kernel_rfl)
 have h8 := @run_callFunc_extern prog 85 _ (ReflectliteValue.method (ReflectliteValue.valueError "reflectlite.Value.IsNil" 0) ReflectliteValue.isNil) Tryz.func85 (by kernel_rfl) (by kernel_rfl) (by kernel_rfl) (by kernel_rfl)
 have h27 := @run_callFunc_extern prog 183 _ (ReflectliteType.abiMethod fun t => do pure (.int .u8 (<- Rtype.kind t))) Tryz.func183 (by kernel_rfl) (by kernel_rfl) (by kernel_rfl) (by kernel_rfl)
 have h37 := @run_callFunc_extern prog 196 _ (ReflectliteType.method ReflectliteType.elem) Tryz.func196 (by kernel_rfl) (by kernel_rfl) (by kernel_rfl) (by kernel_rfl)
 have h38 := @run_callFunc_extern prog 197 _ (ReflectliteType.relation "Implements" ReflectliteType.implements_) Tryz.func197 (by kernel_rfl) (by kernel_rfl) (by kernel_rfl) (by kernel_rfl)
 obtain ⟨te, ve, rfl⟩ : ∃ t v, e = .iface t v := by cases hc <;> exact ⟨_, _, rfl⟩
 have f6 := qw7
 have f7 := z5s
 have mK := z2b
 have mE := z2c
 have mI := z2d
 have k27 := z2e
 have k25 := z2f
 have e27 := z2g
 have i25 := z2h
 have htl : ta.block < w.heap.size := World.block_lt_of_cell? _ _ ht
 have hlt : 0 < w.heap.size := World.block_lt_of_cell? _ _ hg
 have n8 := z2i ⟨w.heap.size, 0, none⟩ ta (asW ta w) (by rw [World.cell?_alloc_lt _ _ ⟨w.heap.size, 0, none⟩ (by simp)]; simp)
 have hg2 : (asW ta w).cell? ⟨0, 0, none⟩ = some (.iface 221 (.agg #[.pointer (some ⟨1, 115, none⟩)])) := by
  rw [World.cell?_alloc_lt _ _ ⟨0, 0, none⟩ (by simp), World.cell?_alloc_lt _ _ ⟨0, 0, none⟩ hlt]; exact hg
 have ac := z2l ta ⟨w.heap.size, 0, none⟩ old n k (.iface te ve) (asW ta w) hc.alloc.alloc (by rw [World.cell?_alloc_lt _ _ ⟨w.heap.size, 0, none⟩ (by simp)]; simp)
  (by rw [World.cell?_alloc_lt _ _ ta (by simp; omega), World.cell?_alloc_lt _ _ ta htl]; exact ht) (by rw [World.frozen?_alloc_old _ _ ta (by simp; omega), World.frozen?_alloc_old _ _ ta (Nat.ne_of_lt htl)]; exact hf)
 clear hc ht hf hg
 go_enter Tryz.func52, Tryz.ntmps52
 go_wp2_with (go_at_call 86; refine ac.mono ?_; rintro e w' ⟨rfl, rfl⟩)
 go_ret
 exact ⟨rfl, rfl⟩
end Go.Aw
