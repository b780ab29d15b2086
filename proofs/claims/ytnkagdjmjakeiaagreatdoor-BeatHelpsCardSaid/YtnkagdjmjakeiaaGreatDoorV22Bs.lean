import Derived.Test.YtnkagdjmjakeiaaGreatDoorV22As
namespace Go.Aw
open Go Go.RowKit Go.Extern.Stop Go.Stop Go.Extern
open Go.Proofs.Tryz (prog)
open Go.Proofs
set_option linter.all false
theorem qbw (a : Addr) (u : Value) (w : World) (hu : w.cell? ⟨a.block, a.off + 1, none⟩ = some u) : Calls prog 130 #[.pointer (some a)] w fun e w' => e = .returned u /\ w' = w := by
 go_enter Tryz.func130, Tryz.ntmps130
 go_wp2
 go_ret
 exact ⟨rfl, rfl⟩
theorem qrp (v : Value) (w : World) : (Instr.typeAssert (.iface 148 v) 106 176 true).run prog w = .ok (.tuple #[.nilIface, .bool false]) w :=
 run_typeAssert_lacksB (want := #[("As", 178)]) (by kernel_rfl) (by kernel_rfl) (by kernel_rfl) v 106 w
theorem qpf (v : Value) (w : World) : (Instr.typeAssert (.iface 148 v) 106 179 true).run prog w = .ok (.tuple #[.iface 148 v, .bool true]) w :=
 run_typeAssert_hasB (want := #[("Unwrap", 180)]) (by kernel_rfl) (by kernel_rfl) v 106 w
abbrev qca (va : Addr) (w : World) : World := w.alloc (.cells #[.pointer (some ⟨1, 139, none⟩), .pointer (some va), .int .u64 150] 154)
set_option maxHeartbeats 4000000 in
set_option maxRecDepth 1000000 in
theorem qpg (ta va : Addr) (old : Value) (n : Int) (k : Nat) (e : Value) (w : World) (hc : Chain w e n k) (hv : w.cell? va = some (.pointer (some ta))) (ht : w.cell? ta = some old) (hf : w.frozen? ta = false) :
  Calls prog 95 #[e, .iface 139 (.pointer (some ta)), .agg #[.pointer (some ⟨1, 139, none⟩), .pointer (some va), .int .u64 150], .iface 171 (.agg #[.pointer (some ⟨1, 38, none⟩)])] w
   fun ev w' => ev = .returned (.bool true) /\ w' = ((qca va w).alloc (.cells #[.int .i64 n] 38)).setCell ta (.int .i64 n) := by
 have h10 := @run_callFunc_extern prog 104 _ ReflectliteType.typeOf Tryz.func104 (by kernel_rfl) (by kernel_rfl) (by kernel_rfl) (by kernel_rfl)
 have h35 := @run_callFunc_extern prog 135 _ (ReflectliteType.relation "AssignableTo" ReflectliteType.assignableTo) Tryz.func135 (by kernel_rfl) (by kernel_rfl) (by kernel_rfl) (by kernel_rfl)
 have h11 := @run_callFunc_extern prog 105 _ (ReflectliteValue.method (ReflectliteValue.valueError "reflectlite.Value.Elem" 0) ReflectliteValue.elem) Tryz.func105 (by kernel_rfl) (by kernel_rfl) (by kernel_rfl) (by kernel_rfl)
 have h6 := @run_callFunc_extern prog 92 _ (fun args => ReflectliteValue.unpack (args.getD 0 (.tuple #[]))) Tryz.func92 (by kernel_rfl) (by kernel_rfl) (by kernel_rfl) (by kernel_rfl)
 have h12 := @run_callFunc_extern prog 106 _ ReflectliteValue.set Tryz.func106 (by kernel_rfl) (by kernel_rfl) (by kernel_rfl) (by kernel_rfl)
 have tN := qkr
 have tF := qks
 have aN := qkt
 have aF := qku
 have mA := qkp
 have mU := qkq
 have nA := qrp
 have hU := qpf
 have vN := qiw
 have hvl : va.block < w.heap.size := World.block_lt_of_cell? _ _ hv
 have htl : ta.block < w.heap.size := World.block_lt_of_cell? _ _ ht
 have el := qpe va ta (qca va w) (by rw [World.cell?_alloc_lt _ _ va hvl]; exact hv)
 have st := qvp ta ⟨w.heap.size + 1, 0, none⟩ n old ((qca va w).alloc (.cells #[.int .i64 n] 38)) (by rw [World.cell?_alloc_at _ _ _ _ (by simp)]; rfl)
  (by rw [World.cell?_alloc_lt _ _ ta (by simp; omega), World.cell?_alloc_lt _ _ ta htl]; exact ht) (by rw [World.frozen?_alloc_old _ _ ta (by simp; omega), World.frozen?_alloc_old _ _ ta (Nat.ne_of_lt htl)]; exact hf)
 have hch : ∀ a u, w.cell? a = some u -> (qca va w).cell? a = some u := fun a u h => by rw [World.cell?_alloc_lt _ _ a (World.block_lt_of_cell? _ _ h)]; exact h
 have hc' := hc
 clear hc hv ht hf
 go_enter Tryz.func95, Tryz.ntmps95
 go_wp2
 go_loopg [0] (k + 1) (fun g t wr => qca va w = wr /\ ∃ j, g = j + 1 /\ Chain w t n j)
 case atStart => exact ⟨rfl, k, rfl, hc'⟩
 case round =>
  obtain ⟨rfl, j, hg, hcc⟩ := hrel
  clear hc'
  cases hcc with
  | num =>
   clear hch
   go_wp2
   go_ret
   exact ⟨rfl, rfl⟩
  | flt a u n' k' hu hc2 =>
   have hu' := hch _ _ hu
   have uw := qbw a u (qca va w) hu'
   obtain ⟨tu, vu, rfl⟩ : ∃ t v, u = .iface t v := by cases hc2 <;> exact ⟨_, _, rfl⟩
   have A : Aside (gk = k' + 1 + 1 /\ Chain w (.iface tu vu) n k') := ⟨hg, hc2⟩
   clear hch hu hc2 hg
   go_wp2_with (go_at_call 130; refine (qbw a (.iface tu vu) _ ?_).mono ?_; exact hu'; rintro e w' ⟨rfl, rfl⟩)
   go_roundg (k' + 1)
   case measure => obtain ⟨h1, h2⟩ := A.out; omega
   case rel => exact ⟨rfl, k', rfl, A.out.2⟩
end Go.Aw
