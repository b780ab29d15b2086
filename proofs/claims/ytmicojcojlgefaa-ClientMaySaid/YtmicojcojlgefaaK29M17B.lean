import Derived.Test.YtmicojcojlgefaaK29M17A
namespace Go.Aw
open Go
open Go.Proofs.Try (prog)
set_option linter.all false
set_option maxHeartbeats 4000000
def qmd (k : Int) : Bs :=
 if k = 3 then [] else if k = 8 then [98] else if k = 10 then [110] else if k = 20 then [120] else if k = 2 then [110, 99] else if k = 9 then [110, 116] else if k = 5 then [110, 98, 118] else
 if k = 6 then [110, 98, 116] else if k = 4 \/ k = 7 \/ k = 11 then [110, 98] else if k = 1 \/ k = 13 then [115, 101, 110, 102] else if k = 14 then [115, 101, 110] else if k = 15 then [115, 101, 110, 111, 105, 116] else
 if k = 12 then [115, 101, 110, 109, 113, 108] else if k = 16 then [115, 110, 105, 116] else if k = 17 then [115, 120] else if k = 18 then [115, 105, 114] else if k = 19 then [105, 116] else if k = 21 then [110, 105, 116, 113, 114] else []
def qoa (k : Int) : Bool := decide (1 <= k /\ k <= 21)
theorem qxn (k : Int) : (k = 1 \/ k = 2 \/ k = 3 \/ k = 4 \/ k = 5 \/ k = 6 \/ k = 7 \/ k = 8 \/ k = 9 \/ k = 10 \/ k = 11 \/ k = 12 \/ k = 13 \/ k = 14 \/ k = 15 \/ k = 16 \/ k = 17 \/ k = 18 \/ k = 19 \/ k = 20 \/ k = 21) \/ qoa k = false := by
 simp only [qoa, decide_eq_false_iff_not]; omega
theorem q5y {k : Int} (h : qoa k = false) (j : Int) (hj : 1 <= j /\ j <= 21 := by decide) : decide (k = j) = false := by
 simp only [qoa, decide_eq_false_iff_not] at h ⊢; omega
theorem qna (k : Int) (h : k = 12 \/ k = 16 \/ k = 17 \/ k = 18 \/ k = 19 \/ k = 21 \/ qoa k = false) : PCalls prog q60 [.i .i64 k] (.tup [.s (qmd k), .b (qoa k)]) := by
 refine K4 U6 qhx (by simp) fun T => ?_
 unfold qc9
 rcases h with rfl | rfl | rfl | rfl | rfl | rfl | h
 any_goals (simp -implicitDefEqProofs -dsimp only [go_sem, seval, decide_true, decide_false, reduceCtorEq]; refine K2 ?_; simp [qmd, qoa]; done)
 have hn : qmd k = [] := by
  simp only [qoa, decide_eq_false_iff_not] at h
  unfold qmd
  repeat' rw [if_neg (by omega)]
 simp -implicitDefEqProofs -dsimp only [go_sem, seval, q5y h 12, q5y h 16, q5y h 17, q5y h 18, q5y h 19, q5y h 21]
 refine K2 ?_
 rw [hn, h]
theorem qqb (k : Int) : PCalls prog q5d [.i .i64 k] (.tup [.s (qmd k), .b (qoa k)]) := by
 refine K4 U6 qh0 (by simp) fun T => ?_
 unfold qai
 rcases qxn k with (rfl | rfl | rfl | rfl | rfl | rfl | rfl | rfl | rfl | rfl | rfl | rfl | rfl | rfl | rfl | rfl | rfl | rfl | rfl | rfl | rfl) | h
 any_goals (simp -implicitDefEqProofs -dsimp only [go_sem, seval, decide_true, decide_false, reduceCtorEq]; refine K2 ?_; simp [qmd, qoa]; done)
 any_goals (simp -implicitDefEqProofs -dsimp only [go_sem, seval, decide_true, decide_false, reduceCtorEq, ↓J0 _ _ qca]; refine CallK.pure (qna _ (by simp)) (J1 ?_); simp -implicitDefEqProofs -dsimp only [go_sem, seval]; exact K2 rfl)
 simp -implicitDefEqProofs -dsimp only [go_sem, seval, q5y h 1, q5y h 2, q5y h 3, q5y h 4, q5y h 5, q5y h 6, q5y h 7, q5y h 8, q5y h 9, q5y h 10, q5y h 11, q5y h 12, q5y h 13, q5y h 14, q5y h 15, q5y h 16, q5y h 17, q5y h 18, q5y h 19, q5y h 20, q5y h 21, ↓J0 _ _ qca]
 refine cpn (qna _ (by simp [h])) ?_
 simp -implicitDefEqProofs -dsimp only [go_sem, seval]
 exact K2 rfl
def qxo (k : Int) : Int := if k = 1 then 5 else if k = 2 then 8 else if k = 3 then 6 else 0
def qyc (k n : Int) : Bool := decide (0 <= n) && decide (n < qxo k)
theorem q1q (k n : Int) : PCalls prog q1n [.agg [.i .i64 k, .i .i64 n]] (.b (qyc k n)) := by
 refine K4 U6 qdo (by simp) fun T => ?_
 unfold q7t
 simp -implicitDefEqProofs -dsimp only [go_sem, seval]
 (first | (apply J7 <;> intro h_1 <;> simp -implicitDefEqProofs -dsimp only [go_sem, seval, h_1]) | (have h_1 := trivial)) <;>
  (first | (apply J7 <;> intro h_2 <;> simp -implicitDefEqProofs -dsimp only [go_sem, seval, h_1, h_2]) | (have h_2 := trivial)) <;>
  (first | (apply J7 <;> intro h_3 <;> simp -implicitDefEqProofs -dsimp only [go_sem, seval, h_1, h_2, h_3]) | (have h_3 := trivial)) <;>
  (first | (apply J7 <;> intro h_4 <;> simp -implicitDefEqProofs -dsimp only [go_sem, seval, h_1, h_2, h_3, h_4]) | (have h_4 := trivial)) <;>
  (first | (apply J7 <;> intro h_5 <;> simp -implicitDefEqProofs -dsimp only [go_sem, seval, h_1, h_2, h_3, h_4, h_5]) | (have h_5 := trivial))
 all_goals (refine K2 ?_; simp_all [qyc, qxo] <;> omega)
def qup (n : Int) : Bool := decide (0 <= n) && decide (n <= 1048576)
theorem q4w (n : Int) : PCalls prog q4j [.i .i64 n] (.b (qup n)) := by
 refine K4 U6 qhz (by simp) fun T => ?_
 unfold qcb
 simp -implicitDefEqProofs -dsimp only [go_sem, seval]
 (first | (apply J7 <;> intro h_1 <;> simp -implicitDefEqProofs -dsimp only [go_sem, seval, h_1]) | (have h_1 := trivial)) <;>
  (first | (apply J7 <;> intro h_2 <;> simp -implicitDefEqProofs -dsimp only [go_sem, seval, h_1, h_2]) | (have h_2 := trivial)) <;>
  (first | (apply J7 <;> intro h_3 <;> simp -implicitDefEqProofs -dsimp only [go_sem, seval, h_1, h_2, h_3]) | (have h_3 := trivial))
 all_goals (refine K2 ?_; simp_all [qup] <;> omega)
def qxp (n : Int) : Bool := decide (0 <= n) && decide (n < 5)
theorem Q8 (r n : Int) : PCalls prog q12 [.agg [.i .u64 r, .i .i64 n]] (.b (qxp n)) := by
 refine K4 U6 qby (by simp) fun T => ?_
 unfold q6v
 simp -implicitDefEqProofs -dsimp only [go_sem, seval]
 (first | (apply J7 <;> intro h_1 <;> simp -implicitDefEqProofs -dsimp only [go_sem, seval, h_1]) | (have h_1 := trivial)) <;>
  (first | (apply J7 <;> intro h_2 <;> simp -implicitDefEqProofs -dsimp only [go_sem, seval, h_1, h_2]) | (have h_2 := trivial)) <;>
  (first | (apply J7 <;> intro h_3 <;> simp -implicitDefEqProofs -dsimp only [go_sem, seval, h_1, h_2, h_3]) | (have h_3 := trivial))
 all_goals (refine K2 ?_; simp_all [qxp] <;> omega)
def z0h (v : Vt) : Bool := qup v.sl && (qxp v.nd && decide ((v.v.length : Int) <= 64))
theorem ql3 (v : Vt) : PCalls prog q3p [.agg (vtC v)] (.b (z0h v)) := by
 refine K4 U6 qe1 (by simp) fun T => ?_
 unfold q7x
 simp -implicitDefEqProofs -dsimp only [go_sem, seval, vtC]
 (first | (apply J7 <;> intro h_1 <;> simp -implicitDefEqProofs -dsimp only [go_sem, seval, ↓J0 _ _ K5, h_1]) | (refine CallK.pure (Q8 _ _) (J1 ?_); simp -implicitDefEqProofs -dsimp only [go_sem, seval, ↓J0 _ _ K5]; have h_1 := trivial) | (have h_1 := trivial)) <;>
  (first | (apply J7 <;> intro h_2 <;> simp -implicitDefEqProofs -dsimp only [go_sem, seval, ↓J0 _ _ K5, h_1, h_2]) | (refine CallK.pure (Q8 _ _) (J1 ?_); simp -implicitDefEqProofs -dsimp only [go_sem, seval, ↓J0 _ _ K5, h_1]; have h_2 := trivial) | (have h_2 := trivial)) <;>
  (first | (apply J7 <;> intro h_3 <;> simp -implicitDefEqProofs -dsimp only [go_sem, seval, ↓J0 _ _ K5, h_1, h_2, h_3]) | (refine CallK.pure (Q8 _ _) (J1 ?_); simp -implicitDefEqProofs -dsimp only [go_sem, seval, ↓J0 _ _ K5, h_1, h_2]; have h_3 := trivial) | (have h_3 := trivial)) <;>
  (first | (apply J7 <;> intro h_4 <;> simp -implicitDefEqProofs -dsimp only [go_sem, seval, ↓J0 _ _ K5, h_1, h_2, h_3, h_4]) | (refine CallK.pure (Q8 _ _) (J1 ?_); simp -implicitDefEqProofs -dsimp only [go_sem, seval, ↓J0 _ _ K5, h_1, h_2, h_3]; have h_4 := trivial) | (have h_4 := trivial)) <;>
  (first | (apply J7 <;> intro h_5 <;> simp -implicitDefEqProofs -dsimp only [go_sem, seval, ↓J0 _ _ K5, h_1, h_2, h_3, h_4, h_5]) | (refine CallK.pure (Q8 _ _) (J1 ?_); simp -implicitDefEqProofs -dsimp only [go_sem, seval, ↓J0 _ _ K5, h_1, h_2, h_3, h_4]; have h_5 := trivial) | (have h_5 := trivial)) <;>
  (first | (apply J7 <;> intro h_6 <;> simp -implicitDefEqProofs -dsimp only [go_sem, seval, ↓J0 _ _ K5, h_1, h_2, h_3, h_4, h_5, h_6]) | (refine CallK.pure (Q8 _ _) (J1 ?_); simp -implicitDefEqProofs -dsimp only [go_sem, seval, ↓J0 _ _ K5, h_1, h_2, h_3, h_4, h_5]; have h_6 := trivial) | (have h_6 := trivial))
 all_goals (refine K2 ?_; simp_all [z0h, qup, qxp] <;> omega)
end Go.Aw
