/- The law BeatWatches answers true for every input and leaves its arguments as they were: whatever is heard, and however many ticks there are, a watch has, and suspects, what the chapter says. No condition. -/
import Derived.Test.YtnkagdjmjakeiaaB22Q
import Derived.Test.YtnkagdjmjakeiaaAwD
import Derived.Test.YtnkagdjmjakeiaaRows
namespace Go.Aw
open Go
set_option linter.all false

abbrev tyEv : Ty := .st [.int .i64, .int .i64, .st [.int .i64, .int .u64, .bool, .int .i64]]
theorem ev_of1 {p : List AV} (h : Fits tyEv p) : ∃ e : Ev, p = evC e ∧ True := by
  simp only [Fits, FitsL] at h
  obtain ⟨a1, b1, rfl, ⟨k, rfl, _⟩, a2, b2, rfl, ⟨n, rfl, _⟩, a3, b3, rfl, ⟨a4, b4, rfl, ⟨a, rfl, _⟩, a5, b5, rfl, ⟨b, rfl, _⟩, a6, b6, rfl, ⟨c, rfl⟩, a7, b7, rfl, ⟨d, rfl, _⟩, rfl⟩, rfl⟩ := h
  exact ⟨⟨k, n, ⟨a, b, c, d⟩⟩, rfl, trivial⟩
end Go.Aw

namespace Go.Proofs.Ytnkagdjmjakeiaa
open Go.ChangeShapes Go.WideShapes Go.ChangeAt Go.RowKit Go.Aw
set_option linter.all false

theorem Try.own : ownKnob Try.prog.godebug = none := by kernel_rfl
theorem Try.laidOut : laidOutB Try.prog = true := by kernel_rfl

theorem beatWatches_calls (l : List AV) (h : FitsVs [.int .i64, .sl tyEv, .int .i64] l) : PCalls Try.prog 3 l (.b true) := by
  simp only [FitsVs] at h
  obtain ⟨a, _, rfl, h1, b, _, rfl, h2, c, _, rfl, h3, rfl⟩ := h
  obtain ⟨m, rfl, _⟩ := int_of h1
  obtain ⟨xs, cap, rfl, hl, _⟩ := slice_ofV (fun p hp => ev_of1 hp) h2
  obtain ⟨n, rfl, _⟩ := int_of h3
  exact pc_BeatWatches m xs cap n hl

set_option maxRecDepth 100000 in
theorem beatWatches_lifted (os : Os) (started : os.Started) (H : Type) (enc : TypeId × Value → H) :
    ReturnsInHanded {} Try.checked os 3 .any (Rows.beatWatchesSpec.pre6 enc Try.prog Try.f3 Rows.beatWatchesRow.domain false) (Rows.beatWatchesSpec.post enc Try.prog Try.f3 false true false false) := by
  refine returnsInHanded_of_change (C := Try.checked) Try.own started (by kernel_rfl) Try.func3
    (ChangeSpec.witness6 (enc := enc) (C := Try.checked) false ⟨#[], #[.int .i64 0, .slice none 0 0, .int .i64 0], []⟩ 8 (by kernel_rfl) (by kernel_rfl) (by kernel_rfl) (by kernel_rfl)) ?_
  intro W base args ds gs before hval hW _ _
  exact true_of (P := Try.prog) (tb := 4) [.int .i64, .sl tyEv, .int .i64] (by kernel_rfl) (by kernel_rfl) (by kernel_rfl) rfl (fun ds h => by
      match ds, h with
      | [_, _, _], _ => rfl) Try.laidOut (by
      rw [Try.params3]; decide +kernel) (fun zs hz => beatWatches_calls zs hz Tab.nil) W (fun p hp => by cases hp) base args ds gs before hval hW

theorem beatWatches_holds : Rows.BeatWatchesSaid :=
  OpenClaim.holds_of_wide 3 Try.f3 rfl rfl rfl rfl rfl rfl rfl ⟨rfl, rfl, rfl, rfl, rfl⟩ rfl rfl rfl rfl rfl (by kernel_rfl) Try.func3 (by kernel_rfl)
    (of_decide_eq_true (by kernel_rfl)) (by unfold Func.isWrapper; first | (rw [if_pos (by decide +kernel)]; kernel_rfl) | (rw [if_neg (by decide +kernel)]; exact ⟨rfl, rfl⟩))
    (fun os started H enc _ => beatWatches_lifted os started H enc)

end Go.Proofs.Ytnkagdjmjakeiaa
