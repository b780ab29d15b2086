import Derived.Test.YtmicojcojlgefaaK29R28G
namespace Go.Aw
open Go
open Go.Proofs.Try (prog)
set_option linter.all false
set_option maxHeartbeats 4000000
def sok (s l v : Int) : Bool := decide (1 <= s /\ s <= 4 /\ 1 <= v /\ v <= 8 /\ 1 <= l /\ l <= v /\ s * l <= v)
theorem qs2 {s l : Int} (h1 : 1 <= s) (h2 : s <= 4) (h3 : 1 <= l) (h4 : l <= 8) : IntKind.i64.wrap (s * l) = s * l := by
 have a1 : s * l <= 4 * 8 := Int.mul_le_mul h2 h4 (by omega) (by omega)
 have a2 : 0 <= s * l := Int.mul_nonneg (by omega) (by omega)
 exact q15 (by unfold I64; omega)
def stC (s l v : Int) : List AV := [.i .i64 s, .i .i64 l, .i .i64 v]
theorem q9i (s l v : Int) : PCalls prog q0p [.agg (stC s l v)] (.b (sok s l v)) := by
 refine K4 U6 qdm (by simp) fun T => ?_
 unfold q7s
 simp -implicitDefEqProofs -dsimp only [go_sem, seval, stC]
 have no : ¬ (1 <= s /\ s <= 4 /\ 1 <= v /\ v <= 8 /\ 1 <= l /\ l <= v /\ s * l <= v) -> qil (.b false) (fun x T' => x = .b (sok s l v) /\ T' = T) T := fun h => by
  rw [sok, decide_eq_false h]; exact K2 rfl
 refine J7 (fun h1 => ?_) (fun h1 => ?_)
 ·simp -implicitDefEqProofs -dsimp only [go_sem, seval, h1]
  exact no (by have := of_decide_eq_true h1; omega)
 have d1 := of_decide_eq_false h1
 simp -implicitDefEqProofs -dsimp only [go_sem, seval, h1]
 refine J7 (fun h2 => ?_) (fun h2 => ?_)
 ·simp -implicitDefEqProofs -dsimp only [go_sem, seval, h2]
  exact no (by have := of_decide_eq_true h2; omega)
 have d2 := of_decide_eq_false h2
 simp -implicitDefEqProofs -dsimp only [go_sem, seval, h2]
 refine J7 (fun h3 => ?_) (fun h3 => ?_)
 ·simp -implicitDefEqProofs -dsimp only [go_sem, seval, h3]
  exact no (by have := of_decide_eq_true h3; omega)
 have d3 := of_decide_eq_false h3
 simp -implicitDefEqProofs -dsimp only [go_sem, seval, h3]
 refine J7 (fun h4 => ?_) (fun h4 => ?_)
 ·simp -implicitDefEqProofs -dsimp only [go_sem, seval, h4]
  exact no (by have := of_decide_eq_true h4; omega)
 have d4 := of_decide_eq_false h4
 simp -implicitDefEqProofs -dsimp only [go_sem, seval, h4]
 refine J7 (fun h5 => ?_) (fun h5 => ?_)
 ·simp -implicitDefEqProofs -dsimp only [go_sem, seval, h5]
  exact no (by have := of_decide_eq_true h5; omega)
 have d5 := of_decide_eq_false h5
 simp -implicitDefEqProofs -dsimp only [go_sem, seval, h5]
 refine J7 (fun h6 => ?_) (fun h6 => ?_)
 ·simp -implicitDefEqProofs -dsimp only [go_sem, seval, h6]
  exact no (by have := of_decide_eq_true h6; omega)
 have d6 := of_decide_eq_false h6
 simp -implicitDefEqProofs -dsimp only [go_sem, seval, h6, qs2 (s := s) (l := l) (by omega) (by omega) (by omega) (by omega)]
 refine K2 ?_
 congr 1
 rw [sok, decide_eq_decide]
 constructor
 ·intro h; exact ⟨by omega, by omega, by omega, by omega, by omega, by omega, h⟩
 ·intro h; exact h.2.2.2.2.2.2
end Go.Aw
