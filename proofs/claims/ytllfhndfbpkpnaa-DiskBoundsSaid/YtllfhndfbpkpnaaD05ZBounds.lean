/- The law DiskBounds answers true for every input and leaves its arguments as they were: there are never more bytes than room, whatever is asked; and what did not fit has changed nothing. No condition. -/
import Derived.Test.YtllfhndfbpkpnaaD05F
import Derived.Test.YtllfhndfbpkpnaaD05ZNil
namespace Go.Proofs.Ytllfhndfbpkpnaa
open Go.ChangeShapes Go.WideShapes Go.ChangeAt Go.RowKit Go.Aw
set_option linter.all false

theorem diskBounds_calls (l : List AV) (h : FitsVs [.int .u8, .sl (.sl (.int .u8))] l) : PCalls Try.prog 3 l (.b true) := by
  simp only [FitsVs] at h
  obtain ⟨a, _, rfl, h1, b, _, rfl, h2, rfl⟩ := h
  obtain ⟨n1, rfl, hw⟩ := int_of h1
  obtain ⟨xs, k, rfl, hl, hx⟩ := slice_ofV (cells := fun r : List UInt8 × Option Nat => [.fz r.1.length (byteCells r.1) r.2]) (ok := fun r => Len r.1.length) (fun p hp => by
    obtain ⟨l, k, h1, h2⟩ := bytes_of hp
    exact ⟨(l, k), h1, h2⟩) h2
  exact pc_DiskBounds n1 (wf_u8 hw) xs k hl hx

set_option maxRecDepth 100000 in
theorem diskBounds_lifted (os : Os) (started : os.Started) (H : Type) (enc : TypeId × Value → H) :
    ReturnsInHanded {} Try.checked os 3 .any (Rows.diskBoundsSpec.pre6 enc Try.prog Try.f3 Rows.diskBoundsRow.domain false) (Rows.diskBoundsSpec.post enc Try.prog Try.f3 false true false false) := by
  refine returnsInHanded_of_change (C := Try.checked) Try.own started (by kernel_rfl) Try.func3
    (ChangeSpec.witness6 (enc := enc) (C := Try.checked) false ⟨#[], #[.int .u8 0, .slice none 0 0], []⟩ 8 (by kernel_rfl) (by kernel_rfl) (by kernel_rfl) (by kernel_rfl)) ?_
  intro W base args ds gs before hval hW _ _
  exact true_of (P := Try.prog) (tb := 4) [.int .u8, .sl (.sl (.int .u8))] (by kernel_rfl) (by kernel_rfl) (by kernel_rfl) rfl (fun ds h => by
      match ds, h with
      | [_, _], _ => rfl) Try.laidOut (by
      rw [Try.params3]; decide +kernel) diskBounds_calls W base args ds gs before hval hW

theorem diskBounds_holds : Rows.DiskBoundsSaid :=
  OpenClaim.holds_of_wide 3 Try.f3 rfl rfl rfl rfl rfl rfl rfl ⟨rfl, rfl, rfl, rfl, rfl⟩ rfl rfl rfl rfl rfl (by kernel_rfl) Try.func3 (by kernel_rfl)
    (of_decide_eq_true (by kernel_rfl)) (by unfold Func.isWrapper; first | (rw [if_pos (by decide +kernel)]; kernel_rfl) | (rw [if_neg (by decide +kernel)]; exact ⟨rfl, rfl⟩))
    (fun os started H enc _ => diskBounds_lifted os started H enc)

end Go.Proofs.Ytllfhndfbpkpnaa
