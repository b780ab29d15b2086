/- The law BeatNil answers true for every input and leaves its arguments as they were: a watch that is not there hears nothing; nothing is advised without one. No condition. -/
import Derived.Test.YtnkagdjmjakeiaaB22Q
import Derived.Test.YtnkagdjmjakeiaaAwD
import Derived.Test.YtnkagdjmjakeiaaRows


namespace Go.Proofs.Ytnkagdjmjakeiaa
open Go.ChangeShapes Go.WideShapes Go.ChangeAt Go.RowKit Go.Aw
set_option linter.all false

theorem Try.own : ownKnob Try.prog.godebug = none := by kernel_rfl
theorem Try.laidOut : laidOutB Try.prog = true := by kernel_rfl

theorem beatNil_calls (l : List AV) (h : FitsVs [.int .i64] l) : PCalls Try.prog 4 l (.b true) := by
  simp only [FitsVs] at h
  obtain ⟨a, _, rfl, h1, rfl⟩ := h
  obtain ⟨m, rfl, _⟩ := int_of h1
  exact pc_BeatNil m

set_option maxRecDepth 100000 in
theorem beatNil_lifted (os : Os) (started : os.Started) (H : Type) (enc : TypeId × Value → H) :
    ReturnsInHanded {} Try.checked os 4 .any (Rows.beatNilSpec.pre6 enc Try.prog Try.f4 Rows.beatNilRow.domain false) (Rows.beatNilSpec.post enc Try.prog Try.f4 false true false false) := by
  refine returnsInHanded_of_change (C := Try.checked) Try.own started (by kernel_rfl) Try.func4
    (ChangeSpec.witness6 (enc := enc) (C := Try.checked) false ⟨#[], #[.int .i64 0], []⟩ 8 (by kernel_rfl) (by kernel_rfl) (by kernel_rfl) (by kernel_rfl)) ?_
  intro W base args ds gs before hval hW _ _
  exact true_of (P := Try.prog) (tb := 4) [.int .i64] (by kernel_rfl) (by kernel_rfl) (by kernel_rfl) rfl (fun ds h => by
      match ds, h with
      | [_], _ => rfl) Try.laidOut (by
      rw [Try.params4]; decide +kernel) (fun zs hz => beatNil_calls zs hz Tab.nil) W (fun p hp => by cases hp) base args ds gs before hval hW

theorem beatNil_holds : Rows.BeatNilSaid :=
  OpenClaim.holds_of_wide 4 Try.f4 rfl rfl rfl rfl rfl rfl rfl ⟨rfl, rfl, rfl, rfl, rfl⟩ rfl rfl rfl rfl rfl (by kernel_rfl) Try.func4 (by kernel_rfl)
    (of_decide_eq_true (by kernel_rfl)) (by unfold Func.isWrapper; first | (rw [if_pos (by decide +kernel)]; kernel_rfl) | (rw [if_neg (by decide +kernel)]; exact ⟨rfl, rfl⟩))
    (fun os started H enc _ => beatNil_lifted os started H enc)

end Go.Proofs.Ytnkagdjmjakeiaa
