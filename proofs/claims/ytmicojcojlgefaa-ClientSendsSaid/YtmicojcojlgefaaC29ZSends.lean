/- The law ClientSends answers true for every input and leaves its arguments as they were: what a client sends is right, and from itself, to a server or a master. No condition. -/
import Derived.Test.YtmicojcojlgefaaC29V
import Derived.Test.YtmicojcojlgefaaRows


namespace Go.Proofs.Ytmicojcojlgefaa
open Go.ChangeShapes Go.WideShapes Go.ChangeAt Go.RowKit Go.Aw
set_option linter.all false

theorem Try.own : ownKnob Try.prog.godebug = none := by kernel_rfl
theorem Try.laidOut : laidOutB Try.prog = true := by kernel_rfl

theorem clientSends_calls (l : List AV) (h : FitsVs [tySt, .sl tyEvent, .int .u8] l) : PCalls Try.prog 4 l (.b true) := by
  simp only [FitsVs] at h
  obtain ⟨a, _, rfl, h1, b, _, rfl, h2, c, _, rfl, h3, rfl⟩ := h
  obtain ⟨s, l0, v, rfl⟩ := setup_of h1
  obtain ⟨es, hw, hl, hx⟩ := evs_of h2
  obtain ⟨n, rfl, hn⟩ := int_of h3
  have a1 : IntKind.u8.min = 0 := rfl
  have a2 : IntKind.u8.max = 255 := rfl
  have hn2 : 0 ≤ n ∧ n < 256 := by simp [Lit.wf, a1, a2] at hn; omega
  obtain ⟨n, rfl⟩ := Int.eq_ofNat_of_zero_le hn2.1
  exact PCalls.wk (Wks.cons (.refl _) (Wks.cons hw (Wks.refl _))) (pc_ClientSends s l0 v es n hl hx (by omega))

set_option maxRecDepth 100000 in
theorem clientSends_lifted (os : Os) (started : os.Started) (H : Type) (enc : TypeId × Value → H) :
    ReturnsInHanded {} Try.checked os 4 .any (Rows.clientSendsSpec.pre6 enc Try.prog Try.f4 Rows.clientSendsRow.domain false) (Rows.clientSendsSpec.post enc Try.prog Try.f4 false true false false) := by
  refine returnsInHanded_of_change (C := Try.checked) Try.own started (by kernel_rfl) Try.func4
    (ChangeSpec.witness6 (enc := enc) (C := Try.checked) false ⟨#[], #[.agg #[.int .i64 0, .int .i64 0, .int .i64 0], .slice none 0 0, .int .u8 0], []⟩ 8 (by kernel_rfl) (by kernel_rfl) (by kernel_rfl) (by kernel_rfl)) ?_
  intro W base args ds gs before hval hW _ _
  exact true_of (P := Try.prog) (tb := 4) [tySt, .sl tyEvent, .int .u8] (by kernel_rfl) (by kernel_rfl) (by kernel_rfl) rfl (fun ds h => by
      match ds, h with
      | [_, _, _], _ => rfl) Try.laidOut (by
      rw [Try.params4]; decide +kernel) (fun zs hz => clientSends_calls zs hz Tab.nil) W (fun p hp => by cases hp) base args ds gs before hval hW

theorem clientSends_holds : Rows.ClientSendsSaid :=
  OpenClaim.holds_of_wide 4 Try.f4 rfl rfl rfl rfl rfl rfl rfl ⟨rfl, rfl, rfl, rfl, rfl⟩ rfl rfl rfl rfl rfl (by kernel_rfl) Try.func4 (by kernel_rfl)
    (of_decide_eq_true (by kernel_rfl)) (by unfold Func.isWrapper; first | (rw [if_pos (by decide +kernel)]; kernel_rfl) | (rw [if_neg (by decide +kernel)]; exact ⟨rfl, rfl⟩))
    (fun os started H enc _ => clientSends_lifted os started H enc)

end Go.Proofs.Ytmicojcojlgefaa

