/- The law ClientMay answers true for every input and leaves its arguments as they were: which ops may be asked, and what their transactions are, is as the chapter says. No condition. -/
import Derived.Test.YtmicojcojlgefaaC29L
import Derived.Test.YtmicojcojlgefaaC29Arg
import Derived.Test.YtmicojcojlgefaaRows


namespace Go.Proofs.Ytmicojcojlgefaa
open Go.ChangeShapes Go.WideShapes Go.ChangeAt Go.RowKit Go.Aw
set_option linter.all false

theorem Try.own : ownKnob Try.prog.godebug = none := by kernel_rfl
theorem Try.laidOut : laidOutB Try.prog = true := by kernel_rfl

theorem clientMay_calls (l : List AV) (h : FitsVs [tyOp, tyID] l) : PCalls Try.prog 3 l (.b true) := by
  simp only [FitsVs] at h
  obtain ⟨a, _, rfl, h1, b, _, rfl, h2, rfl⟩ := h
  obtain ⟨o, hw, ho⟩ := op_of h1
  obtain ⟨cl, sq, rfl⟩ := id_of h2
  exact PCalls.wk (Wks.cons hw (Wks.refl _)) (pc_ClientMay o ho.w cl sq)

set_option maxRecDepth 100000 in
theorem clientMay_lifted (os : Os) (started : os.Started) (H : Type) (enc : TypeId × Value → H) :
    ReturnsInHanded {} Try.checked os 3 .any (Rows.clientMaySpec.pre6 enc Try.prog Try.f3 Rows.clientMayRow.domain false) (Rows.clientMaySpec.post enc Try.prog Try.f3 false true false false) := by
  refine returnsInHanded_of_change (C := Try.checked) Try.own started (by kernel_rfl) Try.func3
    (ChangeSpec.witness6 (enc := enc) (C := Try.checked) false ⟨#[], #[.agg #[.int .i64 0, .string ⟨#[]⟩, .string ⟨#[]⟩, .slice none 0 0, .slice none 0 0], .agg #[.int .i64 0, .int .u64 0]], []⟩ 8 (by kernel_rfl) (by kernel_rfl) (by kernel_rfl) (by kernel_rfl)) ?_
  intro W base args ds gs before hval hW _ _
  exact true_of (P := Try.prog) (tb := 4) [tyOp, tyID] (by kernel_rfl) (by kernel_rfl) (by kernel_rfl) rfl (fun ds h => by
      match ds, h with
      | [_, _], _ => rfl) Try.laidOut (by
      rw [Try.params3]; decide +kernel) (fun zs hz => clientMay_calls zs hz Tab.nil) W (fun p hp => by cases hp) base args ds gs before hval hW

theorem clientMay_holds : Rows.ClientMaySaid :=
  OpenClaim.holds_of_wide 3 Try.f3 rfl rfl rfl rfl rfl rfl rfl ⟨rfl, rfl, rfl, rfl, rfl⟩ rfl rfl rfl rfl rfl (by kernel_rfl) Try.func3 (by kernel_rfl)
    (of_decide_eq_true (by kernel_rfl)) (by unfold Func.isWrapper; first | (rw [if_pos (by decide +kernel)]; kernel_rfl) | (rw [if_neg (by decide +kernel)]; exact ⟨rfl, rfl⟩))
    (fun os started H enc _ => clientMay_lifted os started H enc)

end Go.Proofs.Ytmicojcojlgefaa

