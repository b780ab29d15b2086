/- The laws DiskPlays and DiskKeeps answer true for every input and leave their arguments as they were: whatever is written, armed and lost, a disk answers, and has, what the chapter says; behind a crash each area has at least what was sure, and its bytes begin what it had. No condition. -/
import Derived.Test.YtllfhndfbpkpnaaD05K
import Derived.Test.YtllfhndfbpkpnaaD05ZNil
namespace Go.Aw
open Go
set_option linter.all false

abbrev tyU16s : Ty := .ar 2 (.int .u16)
abbrev tyOp : Ty := .st [.int .i64, .int .i64, .str, .int .i64, tyU16s]

theorem u16s_of {p : List AV} (h : Fits tyU16s p) : ∃ k0 k1 : Int, p = [.i .u16 k0, .i .u16 k1] ∧ (0 ≤ k0 ∧ k0 < 65536) ∧ (0 ≤ k1 ∧ k1 < 65536) := by
  simp only [Fits] at h
  obtain ⟨ps, h1, h2, rfl⟩ := h
  match ps, h1 with
  | [a, b], _ =>
    obtain ⟨n, rfl, hw⟩ := h2 a (by simp)
    obtain ⟨m, rfl, hw'⟩ := h2 b (by simp)
    exact ⟨n, m, rfl, wf_u16 hw, wf_u16 hw'⟩

theorem op_of {p : List AV} (h : Fits tyOp p) : ∃ o : Op, p = o.cells ∧ o.Ok := by
  unfold tyOp at h
  rw [Fits] at h
  simp only [FitsL] at h
  obtain ⟨a1, b1, rfl, h1, a2, b2, rfl, h2, a3, b3, rfl, h3, a4, b4, rfl, h4, a5, b5, rfl, h5, rfl⟩ := h
  obtain ⟨k0, k1, rfl, q0, q1⟩ := u16s_of h5
  simp only [Fits] at h1 h2 h3 h4
  obtain ⟨x1, rfl, _⟩ := h1
  obtain ⟨x2, rfl, _⟩ := h2
  obtain ⟨x3, rfl, _⟩ := h3
  obtain ⟨x4, rfl, w4⟩ := h4
  exact ⟨⟨x1, x2, x3, x4, k0, k1⟩, rfl, ⟨wf_i64 w4, q0, q1⟩⟩
end Go.Aw
namespace Go.Proofs.Ytllfhndfbpkpnaa
open Go.ChangeShapes Go.WideShapes Go.ChangeAt Go.RowKit Go.Aw

theorem diskPlays_calls (l : List AV) (h : FitsVs [.int .i64, .sl tyOp, .int .i64] l) : PCalls Try.prog 4 l (.b true) := by
  simp only [FitsVs] at h
  obtain ⟨a, _, rfl, h1, b, _, rfl, h2, c, _, rfl, h3, rfl⟩ := h
  obtain ⟨n1, rfl, _⟩ := int_of h1
  obtain ⟨n3, rfl, _⟩ := int_of h3
  obtain ⟨xs, k, rfl, hl, hx⟩ := slice_ofV (cells := Op.cells) (ok := Op.Ok) (fun p hp => op_of hp) h2
  exact pc_DiskPlays n1 xs k hl hx n3

theorem diskKeeps_calls (l : List AV) (h : FitsVs [.int .i64, .sl tyOp, tyU16s] l) : PCalls Try.prog 5 l (.b true) := by
  simp only [FitsVs] at h
  obtain ⟨a, _, rfl, h1, b, _, rfl, h2, c, _, rfl, h3, rfl⟩ := h
  obtain ⟨n1, rfl, _⟩ := int_of h1
  obtain ⟨cells, rfl, h3⟩ := h3
  obtain ⟨k0, k1, rfl, q0, q1⟩ := u16s_of h3
  obtain ⟨xs, k, rfl, hl, hx⟩ := slice_ofV (cells := Op.cells) (ok := Op.Ok) (fun p hp => op_of hp) h2
  exact pc_DiskKeeps n1 xs k hl hx k0 k1 q0 q1

set_option maxRecDepth 100000 in
theorem diskPlays_lifted (os : Os) (started : os.Started) (H : Type) (enc : TypeId × Value → H) :
    ReturnsInHanded {} Try.checked os 4 .any (Rows.diskPlaysSpec.pre6 enc Try.prog Try.f4 Rows.diskPlaysRow.domain false) (Rows.diskPlaysSpec.post enc Try.prog Try.f4 false true false false) := by
  refine returnsInHanded_of_change (C := Try.checked) Try.own started (by kernel_rfl) Try.func4
    (ChangeSpec.witness6 (enc := enc) (C := Try.checked) false ⟨#[], #[.int .i64 0, .slice none 0 0, .int .i64 0], []⟩ 8 (by kernel_rfl) (by kernel_rfl) (by kernel_rfl) (by kernel_rfl)) ?_
  intro W base args ds gs before hval hW _ _
  exact true_of (P := Try.prog) (tb := 4) [.int .i64, .sl tyOp, .int .i64] (by kernel_rfl) (by kernel_rfl) (by kernel_rfl) rfl (fun ds h => by
      match ds, h with
      | [_, _, _], _ => rfl) Try.laidOut (by
      rw [Try.params4]; decide +kernel) diskPlays_calls W base args ds gs before hval hW

theorem diskPlays_holds : Rows.DiskPlaysSaid :=
  OpenClaim.holds_of_wide 4 Try.f4 rfl rfl rfl rfl rfl rfl rfl ⟨rfl, rfl, rfl, rfl, rfl⟩ rfl rfl rfl rfl rfl (by kernel_rfl) Try.func4 (by kernel_rfl)
    (of_decide_eq_true (by kernel_rfl)) (by unfold Func.isWrapper; first | (rw [if_pos (by decide +kernel)]; kernel_rfl) | (rw [if_neg (by decide +kernel)]; exact ⟨rfl, rfl⟩))
    (fun os started H enc _ => diskPlays_lifted os started H enc)

set_option maxRecDepth 100000 in
theorem diskKeeps_lifted (os : Os) (started : os.Started) (H : Type) (enc : TypeId × Value → H) :
    ReturnsInHanded {} Try.checked os 5 .any (Rows.diskKeepsSpec.pre6 enc Try.prog Try.f5 Rows.diskKeepsRow.domain false) (Rows.diskKeepsSpec.post enc Try.prog Try.f5 false true false false) := by
  refine returnsInHanded_of_change (C := Try.checked) Try.own started (by kernel_rfl) Try.func5
    (ChangeSpec.witness6 (enc := enc) (C := Try.checked) false ⟨#[], #[.int .i64 0, .slice none 0 0, .agg #[.int .u16 0, .int .u16 0]], []⟩ 8 (by kernel_rfl) (by kernel_rfl) (by kernel_rfl) (by kernel_rfl)) ?_
  intro W base args ds gs before hval hW _ _
  exact true_of (P := Try.prog) (tb := 4) [.int .i64, .sl tyOp, tyU16s] (by kernel_rfl) (by kernel_rfl) (by kernel_rfl) rfl (fun ds h => by
      match ds, h with
      | [_, _, _], _ => rfl) Try.laidOut (by
      rw [Try.params5]; decide +kernel) diskKeeps_calls W base args ds gs before hval hW

theorem diskKeeps_holds : Rows.DiskKeepsSaid :=
  OpenClaim.holds_of_wide 5 Try.f5 rfl rfl rfl rfl rfl rfl rfl ⟨rfl, rfl, rfl, rfl, rfl⟩ rfl rfl rfl rfl rfl (by kernel_rfl) Try.func5 (by kernel_rfl)
    (of_decide_eq_true (by kernel_rfl)) (by unfold Func.isWrapper; first | (rw [if_pos (by decide +kernel)]; kernel_rfl) | (rw [if_neg (by decide +kernel)]; exact ⟨rfl, rfl⟩))
    (fun os started H enc _ => diskKeeps_lifted os started H enc)

end Go.Proofs.Ytllfhndfbpkpnaa
