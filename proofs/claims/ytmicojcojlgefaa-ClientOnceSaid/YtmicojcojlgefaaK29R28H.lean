import Derived.Test.YtmicojcojlgefaaK29R28G
namespace Go.Aw
open Go
open Go.Proofs.Try (prog)
set_option linter.all false
set_option maxHeartbeats 4000000

def sok (s l v : Int) : Bool := decide (1 ≤ s ∧ s ≤ 4 ∧ 1 ≤ v ∧ v ≤ 8 ∧ 1 ≤ l ∧ l ≤ v ∧ s * l ≤ v)
theorem wrap_mul {s l : Int} (h1 : 1 ≤ s) (h2 : s ≤ 4) (h3 : 1 ≤ l) (h4 : l ≤ 8) : IntKind.i64.wrap (s * l) = s * l := by
  have a1 : s * l ≤ 4 * 8 := Int.mul_le_mul h2 h4 (by omega) (by omega)
  have a2 : 0 ≤ s * l := Int.mul_nonneg (by omega) (by omega)
  exact wrap_i64 (by unfold I64; omega)
def stC (s l v : Int) : List AV := [.i .i64 s, .i .i64 l, .i .i64 v]

theorem pc_RightSetup (s l v : Int) : PCalls prog f_order_RightSetup [.agg (stC s l v)] (.b (sok s l v)) := by
  refine pcalls_of mixed t_order_RightSetup (by simp) fun T => ?_
  unfold s_order_RightSetup
  simp -implicitDefEqProofs -dsimp only [go_sem, seval, stC]
  have no : ¬ (1 ≤ s ∧ s ≤ 4 ∧ 1 ≤ v ∧ v ≤ 8 ∧ 1 ≤ l ∧ l ≤ v ∧ s * l ≤ v) → finL (.b false) (fun x T' => x = .b (sok s l v) ∧ T' = T) T := fun h => by
    rw [sok, decide_eq_false h]; exact finL_pure rfl
  refine br_split (fun h1 => ?_) (fun h1 => ?_)
  · simp -implicitDefEqProofs -dsimp only [go_sem, seval, h1]
    exact no (by have := of_decide_eq_true h1; omega)
  have d1 := of_decide_eq_false h1
  simp -implicitDefEqProofs -dsimp only [go_sem, seval, h1]
  refine br_split (fun h2 => ?_) (fun h2 => ?_)
  · simp -implicitDefEqProofs -dsimp only [go_sem, seval, h2]
    exact no (by have := of_decide_eq_true h2; omega)
  have d2 := of_decide_eq_false h2
  simp -implicitDefEqProofs -dsimp only [go_sem, seval, h2]
  refine br_split (fun h3 => ?_) (fun h3 => ?_)
  · simp -implicitDefEqProofs -dsimp only [go_sem, seval, h3]
    exact no (by have := of_decide_eq_true h3; omega)
  have d3 := of_decide_eq_false h3
  simp -implicitDefEqProofs -dsimp only [go_sem, seval, h3]
  refine br_split (fun h4 => ?_) (fun h4 => ?_)
  · simp -implicitDefEqProofs -dsimp only [go_sem, seval, h4]
    exact no (by have := of_decide_eq_true h4; omega)
  have d4 := of_decide_eq_false h4
  simp -implicitDefEqProofs -dsimp only [go_sem, seval, h4]
  refine br_split (fun h5 => ?_) (fun h5 => ?_)
  · simp -implicitDefEqProofs -dsimp only [go_sem, seval, h5]
    exact no (by have := of_decide_eq_true h5; omega)
  have d5 := of_decide_eq_false h5
  simp -implicitDefEqProofs -dsimp only [go_sem, seval, h5]
  refine br_split (fun h6 => ?_) (fun h6 => ?_)
  · simp -implicitDefEqProofs -dsimp only [go_sem, seval, h6]
    exact no (by have := of_decide_eq_true h6; omega)
  have d6 := of_decide_eq_false h6
  simp -implicitDefEqProofs -dsimp only [go_sem, seval, h6, wrap_mul (s := s) (l := l) (by omega) (by omega) (by omega) (by omega)]
  refine finL_pure ?_
  congr 1
  rw [sok, decide_eq_decide]
  constructor
  · intro h; exact ⟨by omega, by omega, by omega, by omega, by omega, by omega, h⟩
  · intro h; exact h.2.2.2.2.2.2

theorem pc_refSetup (s l v : Int) : PCalls prog f_sautoirref21_RightSetup [.agg (stC s l v)] (.b (sok s l v)) := by
  refine pcalls_of mixed t_sautoirref21_RightSetup (by simp) fun T => ?_
  unfold s_sautoirref21_RightSetup
  have no : ¬ (1 ≤ s ∧ s ≤ 4 ∧ 1 ≤ v ∧ v ≤ 8 ∧ 1 ≤ l ∧ l ≤ v ∧ s * l ≤ v) → finL (.b false) (fun x T' => x = .b (sok s l v) ∧ T' = T) T := fun h => by
    rw [sok, decide_eq_false h]; exact finL_pure rfl
  simp -implicitDefEqProofs -dsimp only [go_sem, seval, stC]
  refine br_split (fun h1 => ?_) (fun h1 => ?_)
  · simp -implicitDefEqProofs -dsimp only [go_sem, seval, h1]
    exact no (by have := of_decide_eq_true h1; omega)
  have d1 := of_decide_eq_false h1
  simp -implicitDefEqProofs -dsimp only [go_sem, seval, h1]
  refine br_split (fun h2 => ?_) (fun h2 => ?_)
  · simp -implicitDefEqProofs -dsimp only [go_sem, seval, h2]
    exact no (by have := of_decide_eq_true h2; omega)
  have d2 := of_decide_eq_false h2
  simp -implicitDefEqProofs -dsimp only [go_sem, seval, h2]
  refine br_split (fun h3 => ?_) (fun h3 => ?_)
  · simp -implicitDefEqProofs -dsimp only [go_sem, seval, h3]
    exact no (by have := of_decide_eq_true h3; omega)
  have d3 := of_decide_eq_false h3
  simp -implicitDefEqProofs -dsimp only [go_sem, seval, h3]
  refine br_split (fun h4 => ?_) (fun h4 => ?_)
  · simp -implicitDefEqProofs -dsimp only [go_sem, seval, h4]
    refine no ?_
    have := of_decide_eq_true h4
    rintro ⟨q1, q2, q3, q4, q5, q6, q7⟩
    omega
  have d4 := of_decide_eq_false h4
  simp -implicitDefEqProofs -dsimp only [go_sem, seval, h4]
  refine br_split (fun h5 => ?_) (fun h5 => ?_)
  · simp -implicitDefEqProofs -dsimp only [go_sem, seval, h5]
    exact no (by have := of_decide_eq_true h5; omega)
  have d5 := of_decide_eq_false h5
  simp -implicitDefEqProofs -dsimp only [go_sem, seval, h5]
  refine br_split (fun h6 => ?_) (fun h6 => ?_)
  · simp -implicitDefEqProofs -dsimp only [go_sem, seval, h6]
    exact no (by have := of_decide_eq_true h6; omega)
  have d6 := of_decide_eq_false h6
  simp -implicitDefEqProofs -dsimp only [go_sem, seval, h6, wrap_mul (s := s) (l := l) (by omega) (by omega) (by omega) (by omega)]
  refine finL_pure ?_
  congr 1
  rw [sok, decide_eq_decide]
  constructor
  · intro h
    have hsl : l ≤ s * l := by
      have := Int.mul_le_mul_of_nonneg_right (show (1 : Int) ≤ s by omega) (show (0 : Int) ≤ l by omega)
      omega
    exact ⟨by omega, by omega, by omega, by omega, by omega, by omega, h⟩
  · intro h; exact h.2.2.2.2.2.2

theorem pc_Setup (s l v : Int) : PCalls prog f_sautoirlaw21_Setup [.agg (stC s l v)] (.agg (stC s l v)) := by
  refine pcalls_of mixed t_sautoirlaw21_Setup (by simp) fun T => ?_
  unfold s_sautoirlaw21_Setup
  simp -implicitDefEqProofs -dsimp only [go_sem, seval, stC]
  exact finL_pure rfl

/-! The key "a". -/
end Go.Aw

