/- The law DiskNil answers true for every input and leaves its arguments as they were: a disk that is not there has nothing. No condition. -/
import Derived.Test.YtllfhndfbpkpnaaD05E
import Derived.Test.YtllfhndfbpkpnaaAwFit
import Derived.Test.YtllfhndfbpkpnaaRows
namespace Go.Proofs.Ytllfhndfbpkpnaa
open Go.ChangeShapes Go.WideShapes Go.ChangeAt Go.RowKit Go.Aw
set_option linter.all false

theorem Try.own : ownKnob Try.prog.godebug = none := by kernel_rfl
theorem Try.laidOut : laidOutB Try.prog = true := by kernel_rfl

theorem diskNil_calls (l : List AV) (h : FitsVs [.int .i64, .int .i64] l) : PCalls Try.prog 6 l (.b true) := by
  simp only [FitsVs] at h
  obtain ⟨a, _, rfl, h1, b, _, rfl, h2, rfl⟩ := h
  obtain ⟨n1, rfl, _⟩ := int_of h1
  obtain ⟨n2, rfl, _⟩ := int_of h2
  exact pc_DiskNil n1 n2

set_option maxRecDepth 100000 in
theorem diskNil_lifted (os : Os) (started : os.Started) (H : Type) (enc : TypeId × Value → H) :
    ReturnsInHanded {} Try.checked os 6 .any (Rows.diskNilSpec.pre6 enc Try.prog Try.f6 Rows.diskNilRow.domain false) (Rows.diskNilSpec.post enc Try.prog Try.f6 false true false false) := by
  refine returnsInHanded_of_change (C := Try.checked) Try.own started (by kernel_rfl) Try.func6
    (ChangeSpec.witness6 (enc := enc) (C := Try.checked) false ⟨#[], #[.int .i64 0, .int .i64 0], []⟩ 8 (by kernel_rfl) (by kernel_rfl) (by kernel_rfl) (by kernel_rfl)) ?_
  intro W base args ds gs before hval hW _ _
  exact true_of (P := Try.prog) (tb := 4) [.int .i64, .int .i64] (by kernel_rfl) (by kernel_rfl) (by kernel_rfl) rfl (fun ds h => by
      match ds, h with
      | [_, _], _ => rfl) Try.laidOut (by
      rw [Try.params6]; decide +kernel) diskNil_calls W base args ds gs before hval hW

theorem diskNil_holds : Rows.DiskNilSaid :=
  OpenClaim.holds_of_wide 6 Try.f6 rfl rfl rfl rfl rfl rfl rfl ⟨rfl, rfl, rfl, rfl, rfl⟩ rfl rfl rfl rfl rfl (by kernel_rfl) Try.func6 (by kernel_rfl)
    (of_decide_eq_true (by kernel_rfl)) (by unfold Func.isWrapper; first | (rw [if_pos (by decide +kernel)]; kernel_rfl) | (rw [if_neg (by decide +kernel)]; exact ⟨rfl, rfl⟩))
    (fun os started H enc _ => diskNil_lifted os started H enc)

end Go.Proofs.Ytllfhndfbpkpnaa
