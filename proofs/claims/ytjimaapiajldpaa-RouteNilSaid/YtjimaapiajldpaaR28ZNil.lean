/- The law RouteNil answers true for every input and leaves its arguments as they were: a route that is not there knows nothing. No condition. -/
import Derived.Test.YtjimaapiajldpaaR28M
import Derived.Test.YtjimaapiajldpaaAwFit
import Derived.Test.YtjimaapiajldpaaRows


namespace Go.Proofs.Ytjimaapiajldpaa
open Go.ChangeShapes Go.WideShapes Go.ChangeAt Go.RowKit Go.Aw
set_option linter.all false

theorem Try.own : ownKnob Try.prog.godebug = none := by kernel_rfl
theorem Try.laidOut : laidOutB Try.prog = true := by kernel_rfl

theorem routeNil_calls (l : List AV) (h : FitsVs [.str, .int .i64] l) : PCalls Try.prog 5 l (.b true) := by
  simp only [FitsVs] at h
  obtain ⟨a, _, rfl, h1, b, _, rfl, h2, rfl⟩ := h
  obtain ⟨k, rfl, _⟩ := str_of h1
  obtain ⟨n, rfl, _⟩ := int_of h2
  exact pc_RouteNil k n

set_option maxRecDepth 100000 in
theorem routeNil_lifted (os : Os) (started : os.Started) (H : Type) (enc : TypeId × Value → H) :
    ReturnsInHanded {} Try.checked os 5 .any (Rows.routeNilSpec.pre6 enc Try.prog Try.f5 Rows.routeNilRow.domain false) (Rows.routeNilSpec.post enc Try.prog Try.f5 false true false false) := by
  refine returnsInHanded_of_change (C := Try.checked) Try.own started (by kernel_rfl) Try.func5
    (ChangeSpec.witness6 (enc := enc) (C := Try.checked) false ⟨#[], #[.string ⟨#[]⟩, .int .i64 0], []⟩ 8 (by kernel_rfl) (by kernel_rfl) (by kernel_rfl) (by kernel_rfl)) ?_
  intro W base args ds gs before hval hW _ _
  exact true_of (P := Try.prog) (tb := 4) [.str, .int .i64] (by kernel_rfl) (by kernel_rfl) (by kernel_rfl) rfl (fun ds h => by
      match ds, h with
      | [_, _], _ => rfl) Try.laidOut (by
      rw [Try.params5]; decide +kernel) routeNil_calls W base args ds gs before hval hW

theorem routeNil_holds : Rows.RouteNilSaid :=
  OpenClaim.holds_of_wide 5 Try.f5 rfl rfl rfl rfl rfl rfl rfl ⟨rfl, rfl, rfl, rfl, rfl⟩ rfl rfl rfl rfl rfl (by kernel_rfl) Try.func5 (by kernel_rfl)
    (of_decide_eq_true (by kernel_rfl)) (by unfold Func.isWrapper; first | (rw [if_pos (by decide +kernel)]; kernel_rfl) | (rw [if_neg (by decide +kernel)]; exact ⟨rfl, rfl⟩))
    (fun os started H enc _ => routeNil_lifted os started H enc)

end Go.Proofs.Ytjimaapiajldpaa
