/- The law ConfTurns answers true for every input and leaves its arguments as they were: what a change makes of a configuration, or why it can't be. No condition. -/
import Derived.Test.YtchkfbfbhaldfaaT16P
import Derived.Test.YtchkfbfbhaldfaaT16ZRight
namespace Go.Proofs.Ytchkfbfbhaldfaa
open Go.ChangeShapes Go.WideShapes Go.ChangeAt Go.RowKit Go.Aw
set_option linter.all false

theorem int_of {k : IntKind} {b : AV} (h : FitsV (.int k) b) : ∃ n, b = .i k n ∧ (Lit.int k n).wf = true := by
  simp only [FitsV, Fits] at h
  obtain ⟨n, hn, hw⟩ := h
  injection hn with hn
  exact ⟨n, hn, hw⟩

theorem confTurns_calls (l : List AV) (h : FitsVs [tyConf, .int .i64, .int .i64, .int .u64] l) : PCalls Try.prog 4 l (.b true) := by
  simp only [FitsVs] at h
  obtain ⟨a, _, rfl, h1, b, _, rfl, h2, b3, _, rfl, h3, b4, _, rfl, h4, rfl⟩ := h
  obtain ⟨c, k, rfl, hl⟩ := conf_of h1
  obtain ⟨n2, rfl, _⟩ := int_of h2
  obtain ⟨n3, rfl, _⟩ := int_of h3
  obtain ⟨n4, rfl, _⟩ := int_of h4
  exact pc_ConfTurns c k n2 n3 n4 hl

set_option maxRecDepth 100000 in
theorem confTurns_lifted (os : Os) (started : os.Started) (H : Type) (enc : TypeId × Value → H) :
    ReturnsInHanded {} Try.checked os 4 .any (Rows.confTurnsSpec.pre6 enc Try.prog Try.f4 Rows.confTurnsRow.domain false) (Rows.confTurnsSpec.post enc Try.prog Try.f4 false true false false) := by
  refine returnsInHanded_of_change (C := Try.checked) Try.own started (by kernel_rfl) Try.func4
    (ChangeSpec.witness6 (enc := enc) (C := Try.checked) false ⟨#[], #[.agg #[.int .u64 0, .int .i64 0, .slice none 0 0, .int .i64 0], .int .i64 0, .int .i64 0, .int .u64 0], []⟩ 8 (by kernel_rfl) (by kernel_rfl) (by kernel_rfl) (by kernel_rfl)) ?_
  intro W base args ds gs before hval hW _ _
  exact true_of (P := Try.prog) (tb := 4) [tyConf, .int .i64, .int .i64, .int .u64] (by kernel_rfl) (by kernel_rfl) (by kernel_rfl) rfl (fun ds h => by
      match ds, h with
      | [_, _, _, _], _ => rfl) Try.laidOut (by
      rw [Try.params4]; decide +kernel) confTurns_calls W base args ds gs before hval hW

theorem confTurns_holds : Rows.ConfTurnsSaid :=
  OpenClaim.holds_of_wide 4 Try.f4 rfl rfl rfl rfl rfl rfl rfl ⟨rfl, rfl, rfl, rfl, rfl⟩ rfl rfl rfl rfl rfl (by kernel_rfl) Try.func4 (by kernel_rfl)
    (of_decide_eq_true (by kernel_rfl)) (by unfold Func.isWrapper; first | (rw [if_pos (by decide +kernel)]; kernel_rfl) | (rw [if_neg (by decide +kernel)]; exact ⟨rfl, rfl⟩))
    (fun os started H enc _ => confTurns_lifted os started H enc)

end Go.Proofs.Ytchkfbfbhaldfaa
