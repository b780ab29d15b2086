/- The law ClientNil answers true for every input and leaves its arguments as they were: a client that is not there does nothing. No condition. -/
import Derived.Test.YtmicojcojlgefaaC29L
import Derived.Test.YtmicojcojlgefaaC29Arg
import Derived.Test.YtmicojcojlgefaaRows


namespace Go.Proofs.Ytmicojcojlgefaa
open Go.ChangeShapes Go.WideShapes Go.ChangeAt Go.RowKit Go.Aw
set_option linter.all false

theorem Try.own : ownKnob Try.prog.godebug = none := by kernel_rfl
theorem Try.laidOut : laidOutB Try.prog = true := by kernel_rfl

theorem clientNil_calls (l : List AV) (h : FitsVs [tyEvent] l) : PCalls Try.prog 6 l (.b true) := by
  simp only [FitsVs] at h
  obtain ⟨a, _, rfl, h1, rfl⟩ := h
  obtain ⟨e, hw, ho, hl⟩ := ev_of h1
  exact PCalls.wk (Wks.one hw) (pc_ClientNil e ⟨ho.w, hl⟩)

set_option maxRecDepth 100000 in
theorem clientNil_lifted (os : Os) (started : os.Started) (H : Type) (enc : TypeId × Value → H) :
    ReturnsInHanded {} Try.checked os 6 .any (Rows.clientNilSpec.pre6 enc Try.prog Try.f6 Rows.clientNilRow.domain false) (Rows.clientNilSpec.post enc Try.prog Try.f6 false true false false) := by
  refine returnsInHanded_of_change (C := Try.checked) Try.own started (by kernel_rfl) Try.func6
    (ChangeSpec.witness6 (enc := enc) (C := Try.checked) false ⟨#[], #[.agg #[.int .i64 0, .int .i64 0, .string ⟨#[]⟩, .string ⟨#[]⟩, .slice none 0 0, .slice none 0 0, .int .i64 0, .int .i64 0, .int .i64 0, .int .i64 0, .int .i64 0, .int .i64 0, .int .u64 0, .int .i64 0, .int .i64 0, .int .i64 0, .bool false, .int .u64 0, .int .i64 0, .slice none 0 0, .slice none 0 0, .slice none 0 0, .int .i64 0, .int .u64 0, .bool false, .slice none 0 0, .slice none 0 0, .int .i64 0, .int .u64 0, .string ⟨#[]⟩, .int .u64 0, .int .i64 0]], []⟩ 8 (by kernel_rfl) (by kernel_rfl) (by kernel_rfl) (by kernel_rfl)) ?_
  intro W base args ds gs before hval hW _ _
  exact true_of (P := Try.prog) (tb := 4) [tyEvent] (by kernel_rfl) (by kernel_rfl) (by kernel_rfl) rfl (fun ds h => by
      match ds, h with
      | [_], _ => rfl) Try.laidOut (by
      rw [Try.params6]; decide +kernel) (fun zs hz => clientNil_calls zs hz Tab.nil) W (fun p hp => by cases hp) base args ds gs before hval hW

theorem clientNil_holds : Rows.ClientNilSaid :=
  OpenClaim.holds_of_wide 6 Try.f6 rfl rfl rfl rfl rfl rfl rfl ⟨rfl, rfl, rfl, rfl, rfl⟩ rfl rfl rfl rfl rfl (by kernel_rfl) Try.func6 (by kernel_rfl)
    (of_decide_eq_true (by kernel_rfl)) (by unfold Func.isWrapper; first | (rw [if_pos (by decide +kernel)]; kernel_rfl) | (rw [if_neg (by decide +kernel)]; exact ⟨rfl, rfl⟩))
    (fun os started H enc _ => clientNil_lifted os started H enc)

end Go.Proofs.Ytmicojcojlgefaa

