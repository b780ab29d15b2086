import Derived.Test.YtpbnmegmhhkloaaDoorW06As
namespace Go.Aw
open Go Go.RowKit Go.Extern.Stop Go.Stop Go.Extern
open Go.Proofs.Tryd (prog)
open Go.Proofs
set_option linter.all false
theorem q86 (a : Addr) (u : Value) (w : World) (hu : w.cell? ⟨a.block, a.off + 1, none⟩ = some u) : Calls prog 88 #[.pointer (some a)] w fun e w' => e = .returned u /\ w' = w := by
 go_enter Tryd.func88, Tryd.ntmps88
 go_wp2
 go_ret
 exact ⟨rfl, rfl⟩
theorem qof (v : Value) (w : World) : (Instr.typeAssert (.iface 93 v) 77 123 true).run prog w = .ok (.tuple #[.nilIface, .bool false]) w :=
 run_typeAssert_lacksB (want := #[("As", 125)]) (by kernel_rfl) (by kernel_rfl) (by kernel_rfl) v 77 w
theorem qmi (v : Value) (w : World) : (Instr.typeAssert (.iface 93 v) 77 126 true).run prog w = .ok (.tuple #[.iface 93 v, .bool true]) w :=
 run_typeAssert_hasB (want := #[("Unwrap", 127)]) (by kernel_rfl) (by kernel_rfl) v 77 w
abbrev q8l (va : Addr) (w : World) : World := w.alloc (.cells #[.pointer (some ⟨1, 101, none⟩), .pointer (some va), .int .u64 150] 108)
set_option maxHeartbeats 4000000 in
set_option maxRecDepth 1000000 in
theorem qmj (ta va : Addr) (old : Value) (n : Int) (k : Nat) (e : Value) (w : World) (hc : Chain w e n k) (hv : w.cell? va = some (.pointer (some ta))) (ht : w.cell? ta = some old) (hf : w.frozen? ta = false) :
  Calls prog 65 #[e, .iface 101 (.pointer (some ta)), .agg #[.pointer (some ⟨1, 101, none⟩), .pointer (some va), .int .u64 150], .iface 118 (.agg #[.pointer (some ⟨1, 25, none⟩)])] w
   fun ev w' => ev = .returned (.bool true) /\ w' = ((q8l va w).alloc (.cells #[.int .i64 n] 25)).setCell ta (.int .i64 n) := by
 have h10 := @run_callFunc_extern prog 66 _ ReflectliteType.typeOf Tryd.func66 (by kernel_rfl) (by kernel_rfl) (by kernel_rfl) (by kernel_rfl)
 have h35 := @run_callFunc_extern prog 93 _ (ReflectliteType.relation "AssignableTo" ReflectliteType.assignableTo) Tryd.func93 (by kernel_rfl) (by kernel_rfl) (by kernel_rfl) (by kernel_rfl)
 have h11 := @run_callFunc_extern prog 67 _ (ReflectliteValue.method (ReflectliteValue.valueError "reflectlite.Value.Elem" 0) ReflectliteValue.elem) Tryd.func67 (by kernel_rfl) (by kernel_rfl) (by kernel_rfl) (by kernel_rfl)
 have h6 := @run_callFunc_extern prog 62 _ (fun args => ReflectliteValue.unpack (args.getD 0 (.tuple #[]))) Tryd.func62 (by kernel_rfl) (by kernel_rfl) (by kernel_rfl) (by kernel_rfl)
 have h12 := @run_callFunc_extern prog 68 _ ReflectliteValue.set Tryd.func68 (by kernel_rfl) (by kernel_rfl) (by kernel_rfl) (by kernel_rfl)
 have tN := qh4
 have tF := qh5
 have aN := qh6
 have aF := qh7
 have mA := qh2
 have mU := qh3
 have nA := qof
 have hU := qmi
 have vN := qer
 have hvl : va.block < w.heap.size := World.block_lt_of_cell? _ _ hv
 have htl : ta.block < w.heap.size := World.block_lt_of_cell? _ _ ht
 have el := qmh va ta (q8l va w) (by rw [World.cell?_alloc_lt _ _ va hvl]; exact hv)
 have st := qsi ta ⟨w.heap.size + 1, 0, none⟩ n old ((q8l va w).alloc (.cells #[.int .i64 n] 25)) (by rw [World.cell?_alloc_at _ _ _ _ (by simp)]; rfl)
  (by rw [World.cell?_alloc_lt _ _ ta (by simp; omega), World.cell?_alloc_lt _ _ ta htl]; exact ht) (by rw [World.frozen?_alloc_old _ _ ta (by simp; omega), World.frozen?_alloc_old _ _ ta (Nat.ne_of_lt htl)]; exact hf)
 have hch : ∀ a u, w.cell? a = some u -> (q8l va w).cell? a = some u := fun a u h => by rw [World.cell?_alloc_lt _ _ a (World.block_lt_of_cell? _ _ h)]; exact h
 have hc' := hc
 clear hc hv ht hf
 go_enter Tryd.func65, Tryd.ntmps65
 go_wp2
 go_loopg [0] (k + 1) (fun g t wr => q8l va w = wr /\ ∃ j, g = j + 1 /\ Chain w t n j)
 case atStart => exact ⟨rfl, k, rfl, hc'⟩
 case round =>
  obtain ⟨rfl, j, hg, hcc⟩ := hrel
  clear hc'
  cases hcc with
  | num =>
   clear hch
   go_wp2
   go_ret
   exact ⟨rfl, rfl⟩
  | flt a u n' k' hu hc2 =>
   have hu' := hch _ _ hu
   have uw := q86 a u (q8l va w) hu'
   obtain ⟨tu, vu, rfl⟩ : ∃ t v, u = .iface t v := by cases hc2 <;> exact ⟨_, _, rfl⟩
   have A : Aside (gk = k' + 1 + 1 /\ Chain w (.iface tu vu) n k') := ⟨hg, hc2⟩
   clear hch hu hc2 hg
   go_wp2_with (go_at_call 88; refine (q86 a (.iface tu vu) _ ?_).mono ?_; exact hu'; rintro e w' ⟨rfl, rfl⟩)
   go_roundg (k' + 1)
   case measure => obtain ⟨h1, h2⟩ := A.out; omega
   case rel => exact ⟨rfl, k', rfl, A.out.2⟩
end Go.Aw
