/- The law LetterRight answers true for every input and leaves its arguments as they were: which letters are right is as the chapter says. No condition. -/
import Derived.Test.YteiamcnjlpbihaaM17T
import Derived.Test.YteiamcnjlpbihaaRows


namespace Go.Proofs.Yteiamcnjlpbihaa
open Go.ChangeShapes Go.WideShapes Go.ChangeAt Go.RowKit Go.Aw
set_option linter.all false

theorem Try.own : ownKnob Try.prog.godebug = none := by kernel_rfl
theorem Try.laidOut : laidOutB Try.prog = true := by kernel_rfl

theorem letterRight_calls (l : List AV) (h : FitsVs [tyLetter] l) : PCalls Try.prog 3 l (.b true) := by
  simp only [FitsVs] at h
  obtain ⟨a, _, rfl, h1, rfl⟩ := h
  obtain ⟨l, hw, ha⟩ := letter_of h1
  exact PCalls.wk (Wks.one hw) (pc_LetterRight l ha)

set_option maxRecDepth 100000 in
theorem letterRight_lifted (os : Os) (started : os.Started) (H : Type) (enc : TypeId × Value → H) :
    ReturnsInHanded {} Try.checked os 3 .any (Rows.letterRightSpec.pre6 enc Try.prog Try.f3 Rows.letterRightRow.domain false) (Rows.letterRightSpec.post enc Try.prog Try.f3 false true false false) := by
  refine returnsInHanded_of_change (C := Try.checked) Try.own started (by kernel_rfl) Try.func3
    (ChangeSpec.witness6 (enc := enc) (C := Try.checked) false ⟨#[], #[.agg #[.int .i64 0, .int .i64 0, .int .i64 0, .int .i64 0, .int .i64 0, .int .i64 0, .int .u64 0, .int .i64 0, .int .i64 0, .int .i64 0, .bool false, .int .u64 0, .int .i64 0, .slice none 0 0, .slice none 0 0, .slice none 0 0, .int .i64 0, .int .u64 0, .bool false, .slice none 0 0, .slice none 0 0, .int .i64 0, .int .u64 0, .string ⟨#[]⟩, .int .u64 0, .int .i64 0]], []⟩ 8 (by kernel_rfl) (by kernel_rfl) (by kernel_rfl) (by kernel_rfl)) ?_
  intro W base args ds gs before hval hW _ _
  exact true_of (P := Try.prog) (tb := 4) [tyLetter] (by kernel_rfl) (by kernel_rfl) (by kernel_rfl) rfl (fun ds h => by
      match ds, h with
      | [_], _ => rfl) Try.laidOut (by
      rw [Try.params3]; decide +kernel) (fun zs hz => letterRight_calls zs hz Tab.nil) W (fun p hp => by cases hp) base args ds gs before hval hW

theorem letterRight_holds : Rows.LetterRightSaid :=
  OpenClaim.holds_of_wide 3 Try.f3 rfl rfl rfl rfl rfl rfl rfl ⟨rfl, rfl, rfl, rfl, rfl⟩ rfl rfl rfl rfl rfl (by kernel_rfl) Try.func3 (by kernel_rfl)
    (of_decide_eq_true (by kernel_rfl)) (by unfold Func.isWrapper; first | (rw [if_pos (by decide +kernel)]; kernel_rfl) | (rw [if_neg (by decide +kernel)]; exact ⟨rfl, rfl⟩))
    (fun os started H enc _ => letterRight_lifted os started H enc)

end Go.Proofs.Yteiamcnjlpbihaa
