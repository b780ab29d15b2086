import Derived.Test.YtoeaikcebjideaaDoorE03KB
namespace Go.Aw
open Go
open Go.Proofs.Tryd (prog)
open Go.Proofs
set_option linter.all false
set_option maxHeartbeats 4000000

theorem pc_wrap (l : List (List UInt8)) (cap : Option Nat) (n : Int) (hl : Len l.length) (hne : l ≠ []) : PCalls prog f_sautoirlaw03_wrap [.fz l.length (strs l) cap, .i .i64 n] (erAv (wrapL l n)) := by
  refine pcalls_of mixed t_sautoirlaw03_wrap (by simp) fun T => ?_
  obtain ⟨w, r, rfl⟩ : ∃ w r, l = w :: r := by cases l with
    | nil => exact (hne rfl).elim
    | cons w r => exact ⟨w, r, rfl⟩
  have hr : Len r.length := by unfold Len at *; simp only [List.length_cons] at hl; omega
  have cN := pc_New w n
  have e0 : ((strs (w :: r)).drop 0)[0]? = some (.s w) := rfl
  have e1 : ((strs (w :: r)).drop 1).take r.length = strs r := by
    show (strs r).take r.length = strs r
    rw [strs_take, List.take_length]
  have e2 : (w :: r).length - 1 = r.length := rfl
  have d0 : decide ((0 : Int) < (w :: r).length) = true := by simp only [List.length_cons]; exact decide_eq_true (by omega)
  have d1 : 1 ≤ (w :: r).length := by simp only [List.length_cons]; omega
  have lp := fun (R : RPost) (hR : ExtR R) (T : Tab) cap h => lp_wrap (R := R) hR (T := T) (l := r) (cap := cap) hr r 0 rfl (Nat.zero_le _) (erNew w n) h
  rw [show wrapL (w :: r) n = wrapF r (erNew w n) from rfl]
  generalize hN : (w :: r).length = N at e2 d0 d1 ⊢
  generalize hC : strs (w :: r) = C at e0 e1 ⊢
  obtain ⟨p1, p2, p3, p4, p5, p6⟩ := erAv_form (erNew w n)
  unfold s_sautoirlaw03_wrap
  have dN : 0 < N := by omega
  rw [List.drop_zero] at e0
  simp -implicitDefEqProofs -dsimp only [go_sem, Nat.reduceEqDiff, Nat.reduceAdd, Nat.reduceMul, Nat.reduceSub, Nat.reduceLT, Nat.reduceLeDiff, Nat.reduceBEq, reduceIte, reduceCtorEq, Int.reduceLT, Int.reduceLE, Int.reduceEq, Int.reduceNeg, Int.reduceToNat, Int.reduceAdd, Int.reduceSub, d0, e0, dN, Int.natCast_pos, ↓g_call _ _ c_fault_New]
  refine CallK.pure cN (aft_nil ?_)
  simp -implicitDefEqProofs -dsimp only [go_sem, Nat.reduceEqDiff, Nat.reduceAdd, Nat.reduceMul, Nat.reduceSub, Nat.reduceLT, Nat.reduceLeDiff, Nat.reduceBEq, reduceIte, reduceCtorEq, Int.reduceLT, Int.reduceLE, Int.reduceEq, Int.reduceNeg, Int.reduceToNat, Int.reduceAdd, Int.reduceSub, d1, e1, e2, p1, p2, p3, p4, p5, p6, Nat.le_refl]
  refine lp _ (by repeat' (first | exact finX_ext _ _ | assumption | apply blkR_ext | apply thenR_ext | apply AW_ext)) _ _ (fun tail => ?_)
  obtain ⟨q1, q2, q3, q4, q5, q6⟩ := erAv_form (wrapF r (erNew w n))
  simp -implicitDefEqProofs -dsimp only [go_sem, Nat.reduceEqDiff, Nat.reduceAdd, Nat.reduceMul, Nat.reduceSub, Nat.reduceLT, Nat.reduceLeDiff, Nat.reduceBEq, reduceIte, reduceCtorEq, Int.reduceLT, Int.reduceLE, Int.reduceEq, Int.reduceNeg, Int.reduceToNat, Int.reduceAdd, Int.reduceSub, q1, q2, q3, q4, q5, q6]
  exact finL_pure rfl
end Go.Aw
