import Derived.Test.YtoeaikcebjideaaDoorE03As
namespace Go.Aw
open Go Go.RowKit Go.Extern.Stop Go.Stop Go.Extern
open Go.Proofs.Tryd (prog)
open Go.Proofs
set_option linter.all false

theorem unwrap_calls (a : Addr) (u : Value) (w : World) (hu : w.cell? ⟨a.block, a.off + 1, none⟩ = some u) : Calls prog 15 #[.pointer (some a)] w fun e w' => e = .returned u ∧ w' = w := by
  go_enter Tryd.func15, Tryd.ntmps15
  go_wp2
  go_ret
  exact ⟨rfl, rfl⟩

theorem as_noAs (v : Value) (w : World) : (Instr.typeAssert (.iface 33 v) 27 74 true).run prog w = .ok (.tuple #[.nilIface, .bool false]) w :=
  run_typeAssert_lacksB (want := #[("As", 76)]) (by kernel_rfl) (by kernel_rfl) (by kernel_rfl) v 27 w
theorem as_hasUn (v : Value) (w : World) : (Instr.typeAssert (.iface 33 v) 27 77 true).run prog w = .ok (.tuple #[.iface 33 v, .bool true]) w :=
  run_typeAssert_hasB (want := #[("Unwrap", 37)]) (by kernel_rfl) (by kernel_rfl) v 27 w

/-- The world behind it. -/
abbrev asBox (va : Addr) (w : World) : World := w.alloc (.cells #[.pointer (some ⟨2, 44, none⟩), .pointer (some va), .int .u64 150] 51)

set_option maxHeartbeats 4000000 in
set_option maxRecDepth 1000000 in
theorem as_calls (ta va : Addr) (old : Value) (n : Int) (k : Nat) (e : Value) (w : World) (hc : Chain w e n k) (hv : w.cell? va = some (.pointer (some ta))) (ht : w.cell? ta = some old) (hf : w.frozen? ta = false) :
    Calls prog 25 #[e, .iface 44 (.pointer (some ta)), .agg #[.pointer (some ⟨2, 44, none⟩), .pointer (some va), .int .u64 150], .iface 70 (.agg #[.pointer (some ⟨2, 25, none⟩)])] w
      fun ev w' => ev = .returned (.bool true) ∧ w' = ((asBox va w).alloc (.cells #[.int .i64 n] 25)).setCell ta (.int .i64 n) := by
  have h10 := @run_callFunc_extern prog 29 _ ReflectliteType.typeOf Tryd.func29 (by kernel_rfl) (by kernel_rfl) (by kernel_rfl) (by kernel_rfl)
  have h35 := @run_callFunc_extern prog 59 _ (ReflectliteType.relation "AssignableTo" ReflectliteType.assignableTo) Tryd.func59 (by kernel_rfl) (by kernel_rfl) (by kernel_rfl) (by kernel_rfl)
  have h11 := @run_callFunc_extern prog 31 _ (ReflectliteValue.method (ReflectliteValue.valueError "reflectlite.Value.Elem" 0) ReflectliteValue.elem) Tryd.func31 (by kernel_rfl) (by kernel_rfl) (by kernel_rfl) (by kernel_rfl)
  have h6 := @run_callFunc_extern prog 22 _ (fun args => ReflectliteValue.unpack (args.getD 0 (.tuple #[]))) Tryd.func22 (by kernel_rfl) (by kernel_rfl) (by kernel_rfl) (by kernel_rfl)
  have h12 := @run_callFunc_extern prog 32 _ ReflectliteValue.set Tryd.func32 (by kernel_rfl) (by kernel_rfl) (by kernel_rfl) (by kernel_rfl)
  have tN := as_typeOfN
  have tF := as_typeOfF
  have aN := as_assignN
  have aF := as_assignF
  have mA := as_mAssign
  have mU := as_mUnwrap
  have nA := as_noAs
  have hU := as_hasUn
  have vN := as_valueOfN
  have hvl : va.block < w.heap.size := World.block_lt_of_cell? _ _ hv
  have htl : ta.block < w.heap.size := World.block_lt_of_cell? _ _ ht
  have el := as_elemV va ta (asBox va w) (by rw [World.cell?_alloc_lt _ _ va hvl]; exact hv)
  have st := as_set ta ⟨w.heap.size + 1, 0, none⟩ n old ((asBox va w).alloc (.cells #[.int .i64 n] 25)) (by rw [World.cell?_alloc_at _ _ _ _ (by simp)]; rfl)
    (by rw [World.cell?_alloc_lt _ _ ta (by simp; omega), World.cell?_alloc_lt _ _ ta htl]; exact ht) (by rw [World.frozen?_alloc_old _ _ ta (by simp; omega), World.frozen?_alloc_old _ _ ta (Nat.ne_of_lt htl)]; exact hf)
  have hch : ∀ a u, w.cell? a = some u → (asBox va w).cell? a = some u := fun a u h => by rw [World.cell?_alloc_lt _ _ a (World.block_lt_of_cell? _ _ h)]; exact h
  have hc' := hc
  clear hc hv ht hf
  go_enter Tryd.func25, Tryd.ntmps25
  go_wp2
  go_loopg [0] (k + 1) (fun g t wr => asBox va w = wr ∧ ∃ j, g = j + 1 ∧ Chain w t n j)
  case atStart => exact ⟨rfl, k, rfl, hc'⟩
  case round =>
    obtain ⟨rfl, j, hg, hcc⟩ := hrel
    clear hc'
    cases hcc with
    | num =>
      clear hch
      go_wp2
      go_ret
      exact ⟨rfl, rfl⟩
    | flt a u n' k' hu hc2 =>
      have hu' := hch _ _ hu
      have uw := unwrap_calls a u (asBox va w) hu'
      obtain ⟨tu, vu, rfl⟩ : ∃ t v, u = .iface t v := by cases hc2 <;> exact ⟨_, _, rfl⟩
      have A : Aside (gk = k' + 1 + 1 ∧ Chain w (.iface tu vu) n k') := ⟨hg, hc2⟩
      clear hch hu hc2 hg
      go_wp2_with (go_at_call 15; refine (unwrap_calls a (.iface tu vu) _ ?_).mono ?_; exact hu'; rintro e w' ⟨rfl, rfl⟩)
      go_roundg (k' + 1)
      case measure => obtain ⟨h1, h2⟩ := A.out; omega
      case rel => exact ⟨rfl, k', rfl, A.out.2⟩
end Go.Aw
