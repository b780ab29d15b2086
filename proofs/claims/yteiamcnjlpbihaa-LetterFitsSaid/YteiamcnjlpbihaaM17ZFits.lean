/- The law LetterFits answers true for every input and leaves its arguments as they were: a letter with as many votes, or entries, as may be has a frame. No condition. -/
import Derived.Test.YteiamcnjlpbihaaM17V
import Derived.Test.YteiamcnjlpbihaaRows


namespace Go.Proofs.Yteiamcnjlpbihaa
open Go.ChangeShapes Go.WideShapes Go.ChangeAt Go.RowKit Go.Aw
set_option linter.all false

theorem Try.own : ownKnob Try.prog.godebug = none := by kernel_rfl
theorem Try.laidOut : laidOutB Try.prog = true := by kernel_rfl

theorem letterFits_calls (l : List AV) (h : FitsVs [tyVote, tyLetter, .int .u16] l) : PCalls Try.prog 4 l (.b true) := by
  simp only [FitsVs] at h
  obtain ⟨a, _, rfl, h1, b, _, rfl, h2, c, _, rfl, h3, rfl⟩ := h
  obtain ⟨l, hw, ha⟩ := letter_of h2
  obtain ⟨n, rfl, hn⟩ := int_of h3
  have hn := wf_u16 hn
  obtain ⟨m, rfl⟩ := Int.eq_ofNat_of_zero_le hn.1
  obtain ⟨cells, rfl, h1⟩ := h1
  have h1' : Fits tyVote cells := by simp only [Fits]; exact h1
  obtain ⟨v, rfl, hv⟩ := vote_of1 h1'
  exact PCalls.wk (Wks.cons (.refl _) (Wks.cons hw (Wks.refl _))) (pc_LetterFits v hv l ha m (by omega))

set_option maxRecDepth 100000 in
theorem letterFits_lifted (os : Os) (started : os.Started) (H : Type) (enc : TypeId × Value → H) :
    ReturnsInHanded {} Try.checked os 4 .any (Rows.letterFitsSpec.pre6 enc Try.prog Try.f4 Rows.letterFitsRow.domain false) (Rows.letterFitsSpec.post enc Try.prog Try.f4 false true false false) := by
  refine returnsInHanded_of_change (C := Try.checked) Try.own started (by kernel_rfl) Try.func4
    (ChangeSpec.witness6 (enc := enc) (C := Try.checked) false ⟨#[], #[.agg #[.int .i64 0, .int .u64 0, .int .i64 0, .string ⟨#[]⟩], .agg #[.int .i64 0, .int .i64 0, .int .i64 0, .int .i64 0, .int .i64 0, .int .i64 0, .int .u64 0, .int .i64 0, .int .i64 0, .int .i64 0, .bool false, .int .u64 0, .int .i64 0, .slice none 0 0, .slice none 0 0, .slice none 0 0, .int .i64 0, .int .u64 0, .bool false, .slice none 0 0, .slice none 0 0, .int .i64 0, .int .u64 0, .string ⟨#[]⟩, .int .u64 0, .int .i64 0], .int .u16 0], []⟩ 8 (by kernel_rfl) (by kernel_rfl) (by kernel_rfl) (by kernel_rfl)) ?_
  intro W base args ds gs before hval hW _ _
  exact true_of (P := Try.prog) (tb := 4) [tyVote, tyLetter, .int .u16] (by kernel_rfl) (by kernel_rfl) (by kernel_rfl) rfl (fun ds h => by
      match ds, h with
      | [_, _, _], _ => rfl) Try.laidOut (by
      rw [Try.params4]; decide +kernel) (fun zs hz => letterFits_calls zs hz Tab.nil) W (fun p hp => by cases hp) base args ds gs before hval hW

theorem letterFits_holds : Rows.LetterFitsSaid :=
  OpenClaim.holds_of_wide 4 Try.f4 rfl rfl rfl rfl rfl rfl rfl ⟨rfl, rfl, rfl, rfl, rfl⟩ rfl rfl rfl rfl rfl (by kernel_rfl) Try.func4 (by kernel_rfl)
    (of_decide_eq_true (by kernel_rfl)) (by unfold Func.isWrapper; first | (rw [if_pos (by decide +kernel)]; kernel_rfl) | (rw [if_neg (by decide +kernel)]; exact ⟨rfl, rfl⟩))
    (fun os started H enc _ => letterFits_lifted os started H enc)

end Go.Proofs.Yteiamcnjlpbihaa
