/- The law ClientOnce answers true for every input and leaves its arguments as they were: it asks one thing at a time, with Seqs that rise by one; each is answered once. No condition. -/
import Derived.Test.YtmicojcojlgefaaC29YA
import Derived.Test.YtmicojcojlgefaaC29V
import Derived.Test.YtmicojcojlgefaaRows


namespace Go.Proofs.Ytmicojcojlgefaa
open Go.ChangeShapes Go.WideShapes Go.ChangeAt Go.RowKit Go.Aw
set_option linter.all false

theorem Try.own : ownKnob Try.prog.godebug = none := by kernel_rfl
theorem Try.laidOut : laidOutB Try.prog = true := by kernel_rfl

theorem clientOnce_calls (l : List AV) (h : FitsVs [tySt, .sl tyEvent] l) : PCalls Try.prog 5 l (.b true) := by
  simp only [FitsVs] at h
  obtain ⟨a, _, rfl, h1, b, _, rfl, h2, rfl⟩ := h
  obtain ⟨s, l0, v, rfl⟩ := setup_of h1
  obtain ⟨es, hw, hl, hx⟩ := evs_of h2
  exact PCalls.wk (Wks.cons (.refl _) (Wks.one hw)) (pc_ClientOnce s l0 v es hl hx)

set_option maxRecDepth 100000 in
theorem clientOnce_lifted (os : Os) (started : os.Started) (H : Type) (enc : TypeId × Value → H) :
    ReturnsInHanded {} Try.checked os 5 .any (Rows.clientOnceSpec.pre6 enc Try.prog Try.f5 Rows.clientOnceRow.domain false) (Rows.clientOnceSpec.post enc Try.prog Try.f5 false true false false) := by
  refine returnsInHanded_of_change (C := Try.checked) Try.own started (by kernel_rfl) Try.func5
    (ChangeSpec.witness6 (enc := enc) (C := Try.checked) false ⟨#[], #[.agg #[.int .i64 0, .int .i64 0, .int .i64 0], .slice none 0 0], []⟩ 8 (by kernel_rfl) (by kernel_rfl) (by kernel_rfl) (by kernel_rfl)) ?_
  intro W base args ds gs before hval hW _ _
  exact true_of (P := Try.prog) (tb := 4) [tySt, .sl tyEvent] (by kernel_rfl) (by kernel_rfl) (by kernel_rfl) rfl (fun ds h => by
      match ds, h with
      | [_, _], _ => rfl) Try.laidOut (by
      rw [Try.params5]; decide +kernel) (fun zs hz => clientOnce_calls zs hz Tab.nil) W (fun p hp => by cases hp) base args ds gs before hval hW

theorem clientOnce_holds : Rows.ClientOnceSaid :=
  OpenClaim.holds_of_wide 5 Try.f5 rfl rfl rfl rfl rfl rfl rfl ⟨rfl, rfl, rfl, rfl, rfl⟩ rfl rfl rfl rfl rfl (by kernel_rfl) Try.func5 (by kernel_rfl)
    (of_decide_eq_true (by kernel_rfl)) (by unfold Func.isWrapper; first | (rw [if_pos (by decide +kernel)]; kernel_rfl) | (rw [if_neg (by decide +kernel)]; exact ⟨rfl, rfl⟩))
    (fun os started H enc _ => clientOnce_lifted os started H enc)

end Go.Proofs.Ytmicojcojlgefaa

