import Derived.Test.YtmicojcojlgefaaK29M17A
namespace Go.Aw
open Go
open Go.Proofs.Try (prog)
set_option linter.all false
set_option maxHeartbeats 4000000

/-! Which fields a kind has. -/
def sgnR (k : Int) : Bs :=
  if k = 3 then [] else if k = 8 then [98] else if k = 10 then [110] else if k = 20 then [120] else if k = 2 then [110, 99] else if k = 9 then [110, 116] else if k = 5 then [110, 98, 118] else
  if k = 6 then [110, 98, 116] else if k = 4 ∨ k = 7 ∨ k = 11 then [110, 98] else if k = 1 ∨ k = 13 then [115, 101, 110, 102] else if k = 14 then [115, 101, 110] else if k = 15 then [115, 101, 110, 111, 105, 116] else
  if k = 12 then [115, 101, 110, 109, 113, 108] else if k = 16 then [115, 110, 105, 116] else if k = 17 then [115, 120] else if k = 18 then [115, 105, 114] else if k = 19 then [105, 116] else if k = 21 then [110, 105, 116, 113, 114] else []
def kdOk (k : Int) : Bool := decide (1 ≤ k ∧ k ≤ 21)
theorem kinds (k : Int) : (k = 1 ∨ k = 2 ∨ k = 3 ∨ k = 4 ∨ k = 5 ∨ k = 6 ∨ k = 7 ∨ k = 8 ∨ k = 9 ∨ k = 10 ∨ k = 11 ∨ k = 12 ∨ k = 13 ∨ k = 14 ∨ k = 15 ∨ k = 16 ∨ k = 17 ∨ k = 18 ∨ k = 19 ∨ k = 20 ∨ k = 21) ∨ kdOk k = false := by
  simp only [kdOk, decide_eq_false_iff_not]; omega
theorem kd_ne {k : Int} (h : kdOk k = false) (j : Int) (hj : 1 ≤ j ∧ j ≤ 21 := by decide) : decide (k = j) = false := by
  simp only [kdOk, decide_eq_false_iff_not] at h ⊢; omega
theorem pc_later (k : Int) (h : k = 12 ∨ k = 16 ∨ k = 17 ∨ k = 18 ∨ k = 19 ∨ k = 21 ∨ kdOk k = false) : PCalls prog f_letter_later [.i .i64 k] (.tup [.s (sgnR k), .b (kdOk k)]) := by
  refine pcalls_of mixed t_letter_later (by simp) fun T => ?_
  unfold s_letter_later
  rcases h with rfl | rfl | rfl | rfl | rfl | rfl | h
  any_goals (simp -implicitDefEqProofs -dsimp only [go_sem, seval, decide_true, decide_false, reduceCtorEq]; refine finL_pure ?_; simp [sgnR, kdOk]; done)

  have hn : sgnR k = [] := by
    simp only [kdOk, decide_eq_false_iff_not] at h
    unfold sgnR
    repeat' rw [if_neg (by omega)]
  simp -implicitDefEqProofs -dsimp only [go_sem, seval, kd_ne h 12, kd_ne h 16, kd_ne h 17, kd_ne h 18, kd_ne h 19, kd_ne h 21]
  refine finL_pure ?_
  rw [hn, h]
theorem pc_fields (k : Int) : PCalls prog f_letter_fields [.i .i64 k] (.tup [.s (sgnR k), .b (kdOk k)]) := by
  refine pcalls_of mixed t_letter_fields (by simp) fun T => ?_
  unfold s_letter_fields
  rcases kinds k with (rfl | rfl | rfl | rfl | rfl | rfl | rfl | rfl | rfl | rfl | rfl | rfl | rfl | rfl | rfl | rfl | rfl | rfl | rfl | rfl | rfl) | h
  any_goals (simp -implicitDefEqProofs -dsimp only [go_sem, seval, decide_true, decide_false, reduceCtorEq]; refine finL_pure ?_; simp [sgnR, kdOk]; done)
  any_goals (simp -implicitDefEqProofs -dsimp only [go_sem, seval, decide_true, decide_false, reduceCtorEq, ↓g_call _ _ c_letter_later]; refine CallK.pure (pc_later _ (by simp)) (aft_nil ?_); simp -implicitDefEqProofs -dsimp only [go_sem, seval]; exact finL_pure rfl)
  simp -implicitDefEqProofs -dsimp only [go_sem, seval, kd_ne h 1, kd_ne h 2, kd_ne h 3, kd_ne h 4, kd_ne h 5, kd_ne h 6, kd_ne h 7, kd_ne h 8, kd_ne h 9, kd_ne h 10, kd_ne h 11, kd_ne h 12, kd_ne h 13, kd_ne h 14, kd_ne h 15, kd_ne h 16, kd_ne h 17, kd_ne h 18, kd_ne h 19, kd_ne h 20, kd_ne h 21, ↓g_call _ _ c_letter_later]
  refine CallK.pure (pc_later _ (by simp [h])) (aft_nil ?_)
  simp -implicitDefEqProofs -dsimp only [go_sem, seval]
  exact finL_pure rfl

/-! What the kinds of fields may be. -/
def mostA (k : Int) : Int := if k = 1 then 5 else if k = 2 then 8 else if k = 3 then 6 else 0
def adOk (k n : Int) : Bool := decide (0 ≤ n) && decide (n < mostA k)
theorem pc_RightAddr (k n : Int) : PCalls prog f_letter_RightAddr [.agg [.i .i64 k, .i .i64 n]] (.b (adOk k n)) := by
  refine pcalls_of mixed t_letter_RightAddr (by simp) fun T => ?_
  unfold s_letter_RightAddr
  simp -implicitDefEqProofs -dsimp only [go_sem, seval]
  (first | (apply br_split <;> intro h_1 <;> simp -implicitDefEqProofs -dsimp only [go_sem, seval, h_1]) | (have h_1 := trivial)) <;>
    (first | (apply br_split <;> intro h_2 <;> simp -implicitDefEqProofs -dsimp only [go_sem, seval, h_1, h_2]) | (have h_2 := trivial)) <;>
    (first | (apply br_split <;> intro h_3 <;> simp -implicitDefEqProofs -dsimp only [go_sem, seval, h_1, h_2, h_3]) | (have h_3 := trivial)) <;>
    (first | (apply br_split <;> intro h_4 <;> simp -implicitDefEqProofs -dsimp only [go_sem, seval, h_1, h_2, h_3, h_4]) | (have h_4 := trivial)) <;>
    (first | (apply br_split <;> intro h_5 <;> simp -implicitDefEqProofs -dsimp only [go_sem, seval, h_1, h_2, h_3, h_4, h_5]) | (have h_5 := trivial))
  all_goals (refine finL_pure ?_; simp_all [adOk, mostA] <;> omega)
def shOk (n : Int) : Bool := decide (0 ≤ n) && decide (n ≤ 1048576)
theorem pc_short (n : Int) : PCalls prog f_letter_short [.i .i64 n] (.b (shOk n)) := by
  refine pcalls_of mixed t_letter_short (by simp) fun T => ?_
  unfold s_letter_short
  simp -implicitDefEqProofs -dsimp only [go_sem, seval]
  (first | (apply br_split <;> intro h_1 <;> simp -implicitDefEqProofs -dsimp only [go_sem, seval, h_1]) | (have h_1 := trivial)) <;>
    (first | (apply br_split <;> intro h_2 <;> simp -implicitDefEqProofs -dsimp only [go_sem, seval, h_1, h_2]) | (have h_2 := trivial)) <;>
    (first | (apply br_split <;> intro h_3 <;> simp -implicitDefEqProofs -dsimp only [go_sem, seval, h_1, h_2, h_3]) | (have h_3 := trivial))
  all_goals (refine finL_pure ?_; simp_all [shOk] <;> omega)
def baOk (n : Int) : Bool := decide (0 ≤ n) && decide (n < 5)
theorem pc_rightBallot (r n : Int) : PCalls prog f_letter_rightBallot [.agg [.i .u64 r, .i .i64 n]] (.b (baOk n)) := by
  refine pcalls_of mixed t_letter_rightBallot (by simp) fun T => ?_
  unfold s_letter_rightBallot
  simp -implicitDefEqProofs -dsimp only [go_sem, seval]
  (first | (apply br_split <;> intro h_1 <;> simp -implicitDefEqProofs -dsimp only [go_sem, seval, h_1]) | (have h_1 := trivial)) <;>
    (first | (apply br_split <;> intro h_2 <;> simp -implicitDefEqProofs -dsimp only [go_sem, seval, h_1, h_2]) | (have h_2 := trivial)) <;>
    (first | (apply br_split <;> intro h_3 <;> simp -implicitDefEqProofs -dsimp only [go_sem, seval, h_1, h_2, h_3]) | (have h_3 := trivial))
  all_goals (refine finL_pure ?_; simp_all [baOk] <;> omega)
def vtOk (v : Vt) : Bool := shOk v.sl && (baOk v.nd && decide ((v.v.length : Int) ≤ 64))
theorem pc_rightVote (v : Vt) : PCalls prog f_letter_rightVote [.agg (vtC v)] (.b (vtOk v)) := by
  refine pcalls_of mixed t_letter_rightVote (by simp) fun T => ?_
  unfold s_letter_rightVote
  simp -implicitDefEqProofs -dsimp only [go_sem, seval, vtC]
  (first | (apply br_split <;> intro h_1 <;> simp -implicitDefEqProofs -dsimp only [go_sem, seval, ↓g_call _ _ c_letter_rightBallot, h_1]) | (refine CallK.pure (pc_rightBallot _ _) (aft_nil ?_); simp -implicitDefEqProofs -dsimp only [go_sem, seval, ↓g_call _ _ c_letter_rightBallot]; have h_1 := trivial) | (have h_1 := trivial)) <;>
    (first | (apply br_split <;> intro h_2 <;> simp -implicitDefEqProofs -dsimp only [go_sem, seval, ↓g_call _ _ c_letter_rightBallot, h_1, h_2]) | (refine CallK.pure (pc_rightBallot _ _) (aft_nil ?_); simp -implicitDefEqProofs -dsimp only [go_sem, seval, ↓g_call _ _ c_letter_rightBallot, h_1]; have h_2 := trivial) | (have h_2 := trivial)) <;>
    (first | (apply br_split <;> intro h_3 <;> simp -implicitDefEqProofs -dsimp only [go_sem, seval, ↓g_call _ _ c_letter_rightBallot, h_1, h_2, h_3]) | (refine CallK.pure (pc_rightBallot _ _) (aft_nil ?_); simp -implicitDefEqProofs -dsimp only [go_sem, seval, ↓g_call _ _ c_letter_rightBallot, h_1, h_2]; have h_3 := trivial) | (have h_3 := trivial)) <;>
    (first | (apply br_split <;> intro h_4 <;> simp -implicitDefEqProofs -dsimp only [go_sem, seval, ↓g_call _ _ c_letter_rightBallot, h_1, h_2, h_3, h_4]) | (refine CallK.pure (pc_rightBallot _ _) (aft_nil ?_); simp -implicitDefEqProofs -dsimp only [go_sem, seval, ↓g_call _ _ c_letter_rightBallot, h_1, h_2, h_3]; have h_4 := trivial) | (have h_4 := trivial)) <;>
    (first | (apply br_split <;> intro h_5 <;> simp -implicitDefEqProofs -dsimp only [go_sem, seval, ↓g_call _ _ c_letter_rightBallot, h_1, h_2, h_3, h_4, h_5]) | (refine CallK.pure (pc_rightBallot _ _) (aft_nil ?_); simp -implicitDefEqProofs -dsimp only [go_sem, seval, ↓g_call _ _ c_letter_rightBallot, h_1, h_2, h_3, h_4]; have h_5 := trivial) | (have h_5 := trivial)) <;>
    (first | (apply br_split <;> intro h_6 <;> simp -implicitDefEqProofs -dsimp only [go_sem, seval, ↓g_call _ _ c_letter_rightBallot, h_1, h_2, h_3, h_4, h_5, h_6]) | (refine CallK.pure (pc_rightBallot _ _) (aft_nil ?_); simp -implicitDefEqProofs -dsimp only [go_sem, seval, ↓g_call _ _ c_letter_rightBallot, h_1, h_2, h_3, h_4, h_5]; have h_6 := trivial) | (have h_6 := trivial))
  all_goals (refine finL_pure ?_; simp_all [vtOk, shOk, baOk] <;> omega)
end Go.Aw

