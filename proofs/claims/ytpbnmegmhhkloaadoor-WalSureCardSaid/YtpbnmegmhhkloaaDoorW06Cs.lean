import Derived.Test.YtpbnmegmhhkloaaDoorW06Bs
namespace Go.Aw
open Go Go.RowKit Go.Extern.Stop Go.Stop Go.Extern
open Go.Proofs.Tryd (prog)
open Go.Proofs
set_option linter.all false
abbrev asW (ta : Addr) (w : World) : World := (w.alloc (.cells #[.pointer (some ta)] 101)).alloc (.cells #[.pointer (some ⟨1, 101, none⟩), .pointer (some ⟨w.heap.size, 0, none⟩), .int .u64 150] 108)
theorem Chain.alloc {w : World} {o : Obj} : ∀ {e : Value} {n : Int} {k : Nat}, Chain w e n k -> Chain (w.alloc o) e n k
 | _, _, _, .num n => .num n
 | _, _, _, .flt a u n k h c => .flt a u n k (by rw [World.cell?_alloc_lt _ _ _ (World.block_lt_of_cell? _ _ h)]; exact h) c.alloc
set_option maxHeartbeats 4000000 in
set_option maxRecDepth 1000000 in
theorem qmk (ta : Addr) (old : Value) (n : Int) (k : Nat) (e : Value) (w : World) (hc : Chain w e n k) (ht : w.cell? ta = some old) (hf : w.frozen? ta = false) (hg : w.cell? ⟨0, 0, none⟩ = some (.iface 118 (.agg #[.pointer (some ⟨1, 77, none⟩)]))) :
  Calls prog 57 #[e, .iface 101 (.pointer (some ta))] w
   fun ev w' => ev = .returned (.bool true) /\ w' = ((q8l ⟨w.heap.size, 0, none⟩ (asW ta w)).alloc (.cells #[.int .i64 n] 25)).setCell ta (.int .i64 n) := by
 have h6 := @run_callFunc_extern prog 62 _ (fun args => ReflectliteValue.unpack (args.getD 0 (.tuple #[]))) Tryd.func62 (by kernel_rfl) (by kernel_rfl) (by kernel_rfl) (by kernel_rfl)
 have h7 := @run_callFunc_extern prog 63 _ (ReflectliteValue.methodAny (ReflectliteValue.valueError "reflectlite.Value.Type" 0) (fun t _ _ _ => ReflectliteType.toType t)) Tryd.func63 (by kernel_rfl) (by kernel_rfl) (by kernel_rfl) (by kernel_rfl)
 have h8 := @run_callFunc_extern prog 64 _ (ReflectliteValue.method (ReflectliteValue.valueError "reflectlite.Value.IsNil" 0) ReflectliteValue.isNil) Tryd.func64 (by kernel_rfl) (by kernel_rfl) (by kernel_rfl) (by kernel_rfl)
 have h27 := @run_callFunc_extern prog 83 _ (ReflectliteType.abiMethod fun t => do pure (.int .u8 (<- Rtype.kind t))) Tryd.func83 (by kernel_rfl) (by kernel_rfl) (by kernel_rfl) (by kernel_rfl)
 have h37 := @run_callFunc_extern prog 95 _ (ReflectliteType.method ReflectliteType.elem) Tryd.func95 (by kernel_rfl) (by kernel_rfl) (by kernel_rfl) (by kernel_rfl)
 have h38 := @run_callFunc_extern prog 96 _ (ReflectliteType.relation "Implements" ReflectliteType.implements_) Tryd.func96 (by kernel_rfl) (by kernel_rfl) (by kernel_rfl) (by kernel_rfl)
 obtain ⟨te, ve, rfl⟩ : ∃ t v, e = .iface t v := by cases hc <;> exact ⟨_, _, rfl⟩
 have f6 := qh1
 have f7 := qod
 have mK := qm9
 have mE := qma
 have mI := qmb
 have k27 := qmc
 have k25 := qmd
 have e27 := qme
 have i25 := qmf
 have htl : ta.block < w.heap.size := World.block_lt_of_cell? _ _ ht
 have hlt : 0 < w.heap.size := World.block_lt_of_cell? _ _ hg
 have n8 := qmg ⟨w.heap.size, 0, none⟩ ta (asW ta w) (by rw [World.cell?_alloc_lt _ _ ⟨w.heap.size, 0, none⟩ (by simp)]; simp)
 have hg2 : (asW ta w).cell? ⟨0, 0, none⟩ = some (.iface 118 (.agg #[.pointer (some ⟨1, 77, none⟩)])) := by
  rw [World.cell?_alloc_lt _ _ ⟨0, 0, none⟩ (by simp), World.cell?_alloc_lt _ _ ⟨0, 0, none⟩ hlt]; exact hg
 have ac := qmj ta ⟨w.heap.size, 0, none⟩ old n k (.iface te ve) (asW ta w) hc.alloc.alloc (by rw [World.cell?_alloc_lt _ _ ⟨w.heap.size, 0, none⟩ (by simp)]; simp)
  (by rw [World.cell?_alloc_lt _ _ ta (by simp; omega), World.cell?_alloc_lt _ _ ta htl]; exact ht) (by rw [World.frozen?_alloc_old _ _ ta (by simp; omega), World.frozen?_alloc_old _ _ ta (Nat.ne_of_lt htl)]; exact hf)
 clear hc ht hf hg
 go_enter Tryd.func57, Tryd.ntmps57
 go_wp2_with (go_at_call 65; refine ac.mono ?_; rintro e w' ⟨rfl, rfl⟩)
 go_ret
 exact ⟨rfl, rfl⟩
end Go.Aw
