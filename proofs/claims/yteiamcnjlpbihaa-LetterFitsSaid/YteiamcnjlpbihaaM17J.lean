import Derived.Test.YteiamcnjlpbihaaM17I
namespace Go.Aw
open Go
open Go.Proofs.Try (prog)
set_option linter.all false
set_option maxHeartbeats 8000000
set_option maxRecDepth 8000

def inF (is : Bool) (n m : Int) : Bool := if is then decide (0 ≤ n) && decide (n ≤ m) || decide (n = 0) else decide (n = 0)
theorem pc_within (is : Bool) (n m : Int) : PCalls prog f_sautoirref17_within [.b is, .i .i64 n, .i .i64 m] (.b (inF is n m)) := by
  refine pcalls_of mixed t_sautoirref17_within (by simp) fun T => ?_
  unfold s_sautoirref17_within
  simp -implicitDefEqProofs -dsimp only [go_sem, seval]
  (first | (apply br_split <;> intro h_1 <;> simp -implicitDefEqProofs -dsimp only [go_sem, seval, h_1]) | (have h_1 := trivial)) <;>
    (first | (apply br_split <;> intro h_2 <;> simp -implicitDefEqProofs -dsimp only [go_sem, seval, h_1, h_2]) | (have h_2 := trivial)) <;>
    (first | (apply br_split <;> intro h_3 <;> simp -implicitDefEqProofs -dsimp only [go_sem, seval, h_1, h_2, h_3]) | (have h_3 := trivial)) <;>
    (first | (apply br_split <;> intro h_4 <;> simp -implicitDefEqProofs -dsimp only [go_sem, seval, h_1, h_2, h_3, h_4]) | (have h_4 := trivial)) <;>
    (first | (apply br_split <;> intro h_5 <;> simp -implicitDefEqProofs -dsimp only [go_sem, seval, h_1, h_2, h_3, h_4, h_5]) | (have h_5 := trivial))
  all_goals (refine finL_pure ?_; simp_all [inF] <;> omega)
theorem pc_rmaster (r n : Int) : PCalls prog f_sautoirref17_master [.agg [.i .u64 r, .i .i64 n]] (.b (baOk n)) := by
  refine pcalls_of mixed t_sautoirref17_master (by simp) fun T => ?_
  unfold s_sautoirref17_master
  simp -implicitDefEqProofs -dsimp only [go_sem, seval]
  (first | (apply br_split <;> intro h_1 <;> simp -implicitDefEqProofs -dsimp only [go_sem, seval, h_1]) | (have h_1 := trivial)) <;>
    (first | (apply br_split <;> intro h_2 <;> simp -implicitDefEqProofs -dsimp only [go_sem, seval, h_1, h_2]) | (have h_2 := trivial)) <;>
    (first | (apply br_split <;> intro h_3 <;> simp -implicitDefEqProofs -dsimp only [go_sem, seval, h_1, h_2, h_3]) | (have h_3 := trivial))
  all_goals (refine finL_pure ?_; have e : decide (n ≤ 4) = decide (n < 5) := by simp only [decide_eq_decide]; omega)
  all_goals (simp only [baOk, *, Bool.true_and, Bool.false_and])
def adR (k n : Int) : Bool := decide (0 ≤ n) && (decide (k = 1) && decide (n ≤ 4) || (decide (k = 2) && decide (n ≤ 7) || decide (k = 3) && decide (n ≤ 5)))
theorem adR_eq (k n : Int) : adR k n = adOk k n := by
  unfold adR adOk mostA
  by_cases h1 : k = 1
  · subst h1; simp; rw [Bool.eq_iff_iff]; simp; omega
  by_cases h2 : k = 2
  · subst h2; simp; rw [Bool.eq_iff_iff]; simp; omega
  by_cases h3 : k = 3
  · subst h3; simp; rw [Bool.eq_iff_iff]; simp; omega
  simp [h1, h2, h3]
theorem pc_rRightAddr (k n : Int) : PCalls prog f_sautoirref17_RightAddr [.agg [.i .i64 k, .i .i64 n]] (.b (adOk k n)) := by
  rw [← adR_eq]
  refine pcalls_of mixed t_sautoirref17_RightAddr (by simp) fun T => ?_
  unfold s_sautoirref17_RightAddr
  simp -implicitDefEqProofs -dsimp only [go_sem, seval]
  (first | (apply br_split <;> intro h_1 <;> simp -implicitDefEqProofs -dsimp only [go_sem, seval, h_1]) | (have h_1 := trivial)) <;>
    (first | (apply br_split <;> intro h_2 <;> simp -implicitDefEqProofs -dsimp only [go_sem, seval, h_1, h_2]) | (have h_2 := trivial)) <;>
    (first | (apply br_split <;> intro h_3 <;> simp -implicitDefEqProofs -dsimp only [go_sem, seval, h_1, h_2, h_3]) | (have h_3 := trivial)) <;>
    (first | (apply br_split <;> intro h_4 <;> simp -implicitDefEqProofs -dsimp only [go_sem, seval, h_1, h_2, h_3, h_4]) | (have h_4 := trivial)) <;>
    (first | (apply br_split <;> intro h_5 <;> simp -implicitDefEqProofs -dsimp only [go_sem, seval, h_1, h_2, h_3, h_4, h_5]) | (have h_5 := trivial)) <;>
    (first | (apply br_split <;> intro h_6 <;> simp -implicitDefEqProofs -dsimp only [go_sem, seval, h_1, h_2, h_3, h_4, h_5, h_6]) | (have h_6 := trivial)) <;>
    (first | (apply br_split <;> intro h_7 <;> simp -implicitDefEqProofs -dsimp only [go_sem, seval, h_1, h_2, h_3, h_4, h_5, h_6, h_7]) | (have h_7 := trivial)) <;>
    (first | (apply br_split <;> intro h_8 <;> simp -implicitDefEqProofs -dsimp only [go_sem, seval, h_1, h_2, h_3, h_4, h_5, h_6, h_7, h_8]) | (have h_8 := trivial)) <;>
    (first | (apply br_split <;> intro h_9 <;> simp -implicitDefEqProofs -dsimp only [go_sem, seval, h_1, h_2, h_3, h_4, h_5, h_6, h_7, h_8, h_9]) | (have h_9 := trivial))
  all_goals (refine finL_pure ?_; simp only [adR, *, Bool.true_and, Bool.false_and, Bool.true_or, Bool.false_or, Bool.or_false])
theorem pc_SameTxn0 (t : Tx) (k1 k2 k3 k4 : Option Nat) : PCalls prog f_sautoirref12_SameTxn [.agg (t.cells k1 k2), .agg (zT.cells k3 k4)] (.b (txE t zT)) := by
  refine pcalls_of mixed t_sautoirref12_SameTxn (by simp) fun T => ?_
  have hx : txE t zT = (decide (t.cl = 0) && decide (t.sq = 0) && decide (t.pl = false) && decide ((t.rs.length : Int) = ((0 : Nat) : Int)) && decide ((t.ws.length : Int) = ((0 : Nat) : Int))) := by
    simp only [txE, zT, eqL_nil]
    congr 2
    · simp
    · simp
  rw [hx]
  unfold s_sautoirref12_SameTxn
  simp -implicitDefEqProofs -dsimp only [go_sem, seval, Tx.cells, zT, aggEq, scalarEq, Bool.and_true, List.flatMap_nil]
  (first | (apply br_split <;> intro h_1 <;> simp -implicitDefEqProofs -dsimp only [go_sem, seval, aggEq, scalarEq, Bool.and_true, List.flatMap_nil, h_1]) | (have h_1 := trivial)) <;>
    (first | (apply br_split <;> intro h_2 <;> simp -implicitDefEqProofs -dsimp only [go_sem, seval, aggEq, scalarEq, Bool.and_true, List.flatMap_nil, h_1, h_2]) | (have h_2 := trivial)) <;>
    (first | (apply br_split <;> intro h_3 <;> simp -implicitDefEqProofs -dsimp only [go_sem, seval, aggEq, scalarEq, Bool.and_true, List.flatMap_nil, h_1, h_2, h_3]) | (have h_3 := trivial)) <;>
    (first | (apply br_split <;> intro h_4 <;> simp -implicitDefEqProofs -dsimp only [go_sem, seval, aggEq, scalarEq, Bool.and_true, List.flatMap_nil, h_1, h_2, h_3, h_4]) | (have h_4 := trivial))
  any_goals (refine finL_pure ?_; (try simp only [Bool.not_eq_true', Bool.not_eq_false'] at *); simp only [*, Bool.true_and, Bool.and_true, Bool.false_and, Bool.and_false]; done)
  obtain ⟨cl, sq, pl, rs, ws⟩ := t
  (try simp only [Bool.not_eq_true', Bool.not_eq_false'] at *)
  have r0 : rs = [] := List.length_eq_zero_iff.1 (by have := of_decide_eq_true h_3; omega)
  have w0 : ws = [] := List.length_eq_zero_iff.1 (by have := of_decide_eq_true h_4; omega)
  subst r0; subst w0
  have h00 : ¬ ((0 : Int) < ((0 : Nat) : Int)) := by decide
  refine AW_loop (by repeat' (first | exact finX_ext _ _ | assumption | apply blkR_ext | apply thenR_ext | apply AW_ext)) ?_
  unfold sautoirref12_SameTxn_l0b
  simp -implicitDefEqProofs -dsimp only [go_sem, seval, h00]
  refine AW_loop (by repeat' (first | exact finX_ext _ _ | assumption | apply blkR_ext | apply thenR_ext | apply AW_ext)) ?_
  unfold sautoirref12_SameTxn_l1b
  simp -implicitDefEqProofs -dsimp only [go_sem, seval, h00]
  refine finL_pure ?_
  simp only [*, Bool.true_and, Bool.and_true, Bool.false_and, Bool.and_false]
end Go.Aw
