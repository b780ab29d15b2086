import Derived.Test.YtchdmofoaokpjaaGreatDoorM30As
namespace Go.Aw
open Go Go.RowKit Go.Extern.Stop Go.Stop Go.Extern
open Go.Proofs.Tryz (prog)
open Go.Proofs
set_option linter.all false
theorem qir (a : Addr) (u : Value) (w : World) (hu : w.cell? ⟨a.block, a.off + 1, none⟩ = some u) : Calls prog 189 #[.pointer (some a)] w fun e w' => e = .returned u /\ w' = w := by
 go_enter Tryz.func189, Tryz.ntmps189
 go_wp2
 go_ret
 exact ⟨rfl, rfl⟩
theorem z5u (v : Value) (w : World) : (Instr.typeAssert (.iface 167 v) 115 226 true).run prog w = .ok (.tuple #[.nilIface, .bool false]) w :=
 run_typeAssert_lacksB (want := #[("As", 228)]) (by kernel_rfl) (by kernel_rfl) (by kernel_rfl) v 115 w
theorem z2k (v : Value) (w : World) : (Instr.typeAssert (.iface 167 v) 115 229 true).run prog w = .ok (.tuple #[.iface 167 v, .bool true]) w :=
 run_typeAssert_hasB (want := #[("Unwrap", 230)]) (by kernel_rfl) (by kernel_rfl) v 115 w
abbrev qje (va : Addr) (w : World) : World := w.alloc (.cells #[.pointer (some ⟨1, 147, none⟩), .pointer (some va), .int .u64 150] 182)
set_option maxHeartbeats 4000000 in
set_option maxRecDepth 1000000 in
theorem z2l (ta va : Addr) (old : Value) (n : Int) (k : Nat) (e : Value) (w : World) (hc : Chain w e n k) (hv : w.cell? va = some (.pointer (some ta))) (ht : w.cell? ta = some old) (hf : w.frozen? ta = false) :
  Calls prog 86 #[e, .iface 147 (.pointer (some ta)), .agg #[.pointer (some ⟨1, 147, none⟩), .pointer (some va), .int .u64 150], .iface 221 (.agg #[.pointer (some ⟨1, 26, none⟩)])] w
   fun ev w' => ev = .returned (.bool true) /\ w' = ((qje va w).alloc (.cells #[.int .i64 n] 26)).setCell ta (.int .i64 n) := by
 have h10 := @run_callFunc_extern prog 117 _ ReflectliteType.typeOf Tryz.func117 (by kernel_rfl) (by kernel_rfl) (by kernel_rfl) (by kernel_rfl)
 have h35 := @run_callFunc_extern prog 194 _ (ReflectliteType.relation "AssignableTo" ReflectliteType.assignableTo) Tryz.func194 (by kernel_rfl) (by kernel_rfl) (by kernel_rfl) (by kernel_rfl)
 have h11 := @run_callFunc_extern prog 118 _ (ReflectliteValue.method (ReflectliteValue.valueError "reflectlite.Value.Elem" 0) ReflectliteValue.elem) Tryz.func118 (by kernel_rfl) (by kernel_rfl) (by kernel_rfl) (by kernel_rfl)
 have h6 := @run_callFunc_extern prog 83 _ (fun args => ReflectliteValue.unpack (args.getD 0 (.tuple #[]))) Tryz.func83 (by kernel_rfl) (by kernel_rfl) (by kernel_rfl) (by kernel_rfl)
 have h12 := @run_callFunc_extern prog 119 _ ReflectliteValue.set Tryz.func119 (by kernel_rfl) (by kernel_rfl) (by kernel_rfl) (by kernel_rfl)
 have tN := qwa
 have tF := qwb
 have aN := qwc
 have aF := qwd
 have mA := qw8
 have mU := qw9
 have nA := z5u
 have hU := z2k
 have vN := qsv
 have hvl : va.block < w.heap.size := World.block_lt_of_cell? _ _ hv
 have htl : ta.block < w.heap.size := World.block_lt_of_cell? _ _ ht
 have el := z2j va ta (qje va w) (by rw [World.cell?_alloc_lt _ _ va hvl]; exact hv)
 have st := za8 ta ⟨w.heap.size + 1, 0, none⟩ n old ((qje va w).alloc (.cells #[.int .i64 n] 26)) (by rw [World.cell?_alloc_at _ _ _ _ (by simp)]; rfl)
  (by rw [World.cell?_alloc_lt _ _ ta (by simp; omega), World.cell?_alloc_lt _ _ ta htl]; exact ht) (by rw [World.frozen?_alloc_old _ _ ta (by simp; omega), World.frozen?_alloc_old _ _ ta (Nat.ne_of_lt htl)]; exact hf)
 have hch : ∀ a u, w.cell? a = some u -> (qje va w).cell? a = some u := fun a u h => by rw [World.cell?_alloc_lt _ _ a (World.block_lt_of_cell? _ _ h)]; exact h
 have hc' := hc
 clear hc hv ht hf
 go_enter Tryz.func86, Tryz.ntmps86
 go_wp2
 go_loopg [0] (k + 1) (fun g t wr => qje va w = wr /\ ∃ j, g = j + 1 /\ Chain w t n j)
 case atStart => exact ⟨rfl, k, rfl, hc'⟩
 case round =>
  obtain ⟨rfl, j, hg, hcc⟩ := hrel
  clear hc'
  cases hcc with
  | num =>
   clear hch
   go_wp2
   go_ret
   exact ⟨rfl, rfl⟩
  | flt a u n' k' hu hc2 =>
   have hu' := hch _ _ hu
   have uw := qir a u (qje va w) hu'
   obtain ⟨tu, vu, rfl⟩ : ∃ t v, u = .iface t v := by cases hc2 <;> exact ⟨_, _, rfl⟩
   have A : Aside (gk = k' + 1 + 1 /\ Chain w (.iface tu vu) n k') := ⟨hg, hc2⟩
   clear hch hu hc2 hg
   go_wp2_with (go_at_call 189; refine (qir a (.iface tu vu) _ ?_).mono ?_; exact hu'; rintro e w' ⟨rfl, rfl⟩)
   go_roundg (k' + 1)
   case measure => obtain ⟨h1, h2⟩ := A.out; omega
   case rel => exact ⟨rfl, k', rfl, A.out.2⟩
end Go.Aw
