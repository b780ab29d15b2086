/- The law ClientPlays answers true for every input and leaves its arguments as they were: whatever is asked, heard, and however time goes on, a client sends, and stands, as the chapter says. No condition. -/
import Derived.Test.YtmicojcojlgefaaGreatZ29H
import Derived.Test.YtmicojcojlgefaaGreatZ29C29X
import Derived.Test.YtmicojcojlgefaaGreatRows
namespace Go.Proofs.YtmicojcojlgefaaGreat
open Go.ChangeShapes Go.WideShapes Go.ChangeAt Go.RowKit Go.Aw
set_option linter.all false
theorem Tryz.own : ownKnob Tryz.prog.godebug = none := by kernel_rfl
theorem Tryz.laidOut : laidOutB Tryz.prog = true := by kernel_rfl
theorem clientPlays_calls (l : List AV) (h : qpw [.int .i64, .int .i64, ze1, .sl qqn] l) : PCalls Tryz.prog 3 l (.b true) := by
  simp only [qpw] at h
  obtain ⟨a1, _, rfl, g1, a2, _, rfl, g2, a, _, rfl, h1, b, _, rfl, h2, rfl⟩ := h
  obtain ⟨me, rfl, _⟩ := z4p g1
  obtain ⟨ma, rfl, _⟩ := z4p g2
  obtain ⟨s, l0, v, rfl⟩ := z47 h1
  obtain ⟨es, hw, hl, hx⟩ := zap h2
  exact PCalls.wk (Wks.cons (.refl _) (Wks.cons (.refl _) (Wks.cons (.refl _) (Wks.one hw)))) (qrc me ma s l0 v es hl hx)
set_option maxRecDepth 100000 in
theorem clientPlays_lifted (os : Os) (started : os.Started) (H : Type) (enc : TypeId × Value → H) :
    ReturnsInHanded {} Tryz.checked os 3 .any (Rows.clientPlaysSpec.pre6 enc Tryz.prog Tryz.f3 Rows.clientPlaysRow.domain false) (Rows.clientPlaysSpec.post enc Tryz.prog Tryz.f3 false true false false) := by
  refine returnsInHanded_of_change (C := Tryz.checked) Tryz.own started (by kernel_rfl) Tryz.func3
    (ChangeSpec.witness6 (enc := enc) (C := Tryz.checked) false ⟨#[], #[.int .i64 0, .int .i64 0, .agg #[.int .i64 0, .int .i64 0, .int .i64 0], .slice none 0 0], []⟩ 8 (by kernel_rfl) (by kernel_rfl) (by kernel_rfl) (by kernel_rfl)) ?_
  intro W base args ds gs before hval hW _ _
  exact z5s (P := Tryz.prog) (tb := 4) [.int .i64, .int .i64, ze1, .sl qqn] (by kernel_rfl) (by kernel_rfl) (by kernel_rfl) rfl (fun ds h => by
      match ds, h with
      | [_, _, _, _], _ => rfl) Tryz.laidOut (by
      rw [Tryz.params3]; decide +kernel) (fun zs hz => clientPlays_calls zs hz Tab.nil) W (fun p hp => by cases hp) base args ds gs before hval hW
theorem clientPlays_holds : Rows.ClientPlaysSaid :=
  OpenClaim.holds_of_wide 3 Tryz.f3 rfl rfl rfl rfl rfl rfl rfl ⟨rfl, rfl, rfl, rfl, rfl⟩ rfl rfl rfl rfl rfl (by kernel_rfl) Tryz.func3 (by kernel_rfl)
    (of_decide_eq_true (by kernel_rfl)) (by unfold Func.isWrapper; first | (rw [if_pos (by decide +kernel)]; kernel_rfl) | (rw [if_neg (by decide +kernel)]; exact ⟨rfl, rfl⟩))
    (fun os started H enc _ => clientPlays_lifted os started H enc)
end Go.Proofs.YtmicojcojlgefaaGreat
