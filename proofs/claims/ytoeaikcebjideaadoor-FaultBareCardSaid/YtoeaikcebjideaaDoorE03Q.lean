import Derived.Test.YtoeaikcebjideaaDoorE03N
namespace Go.Aw
open Go
open Go.Proofs.Tryd (prog)
open Go.Proofs
set_option linter.all false
set_option maxHeartbeats 4000000

theorem pc_FaultBare (s : List UInt8) (n : Int) (hs : s.length ≤ maxLen) : PCalls prog f_sautoirlaw03_FaultBare [.s s, .i .i64 n] (.b true) := by
  refine pcalls_of mixed t_sautoirlaw03_FaultBare (by simp) fun T => ?_
  unfold s_sautoirlaw03_FaultBare
  by_cases hn : n = 0
  · have dn : decide (n = 0) = true := decide_eq_true hn
    simp -implicitDefEqProofs -dsimp only [go_sem, Nat.reduceEqDiff, Nat.reduceAdd, Nat.reduceMul, Nat.reduceSub, Nat.reduceLT, Nat.reduceLeDiff, Nat.reduceBEq, reduceIte, reduceCtorEq, Int.reduceLT, Int.reduceLE, Int.reduceEq, Int.reduceNeg, Int.reduceToNat, Int.reduceAdd, Int.reduceSub, dn, ↓g_call _ _ c_sautoirlaw03_awake]
    refine CallK.pure pc_awake (aft_nil ?_)
    simp -implicitDefEqProofs -dsimp only [go_sem, Nat.reduceEqDiff, Nat.reduceAdd, Nat.reduceMul, Nat.reduceSub, Nat.reduceLT, Nat.reduceLeDiff, Nat.reduceBEq, reduceIte, reduceCtorEq, Int.reduceLT, Int.reduceLE, Int.reduceEq, Int.reduceNeg, Int.reduceToNat, Int.reduceAdd, Int.reduceSub]
    exact finL_pure rfl
  have dn : decide (n = 0) = false := decide_eq_false hn
  by_cases h4 : 40 < s.length
  · have d4 : decide ((40 : Int) < s.length) = true := decide_eq_true (by omega)
    simp -implicitDefEqProofs -dsimp only [go_sem, Nat.reduceEqDiff, Nat.reduceAdd, Nat.reduceMul, Nat.reduceSub, Nat.reduceLT, Nat.reduceLeDiff, Nat.reduceBEq, reduceIte, reduceCtorEq, Int.reduceLT, Int.reduceLE, Int.reduceEq, Int.reduceNeg, Int.reduceToNat, Int.reduceAdd, Int.reduceSub, dn, d4, ↓g_call _ _ c_sautoirlaw03_awake]
    refine CallK.pure pc_awake (aft_nil ?_)
    simp -implicitDefEqProofs -dsimp only [go_sem, Nat.reduceEqDiff, Nat.reduceAdd, Nat.reduceMul, Nat.reduceSub, Nat.reduceLT, Nat.reduceLeDiff, Nat.reduceBEq, reduceIte, reduceCtorEq, Int.reduceLT, Int.reduceLE, Int.reduceEq, Int.reduceNeg, Int.reduceToNat, Int.reduceAdd, Int.reduceSub]
    exact finL_pure rfl
  have d4 : decide ((40 : Int) < s.length) = false := decide_eq_false (by omega)
  by_cases he : s = []
  · have de : decide (s = []) = true := decide_eq_true he
    simp -implicitDefEqProofs -dsimp only [go_sem, Nat.reduceEqDiff, Nat.reduceAdd, Nat.reduceMul, Nat.reduceSub, Nat.reduceLT, Nat.reduceLeDiff, Nat.reduceBEq, reduceIte, reduceCtorEq, Int.reduceLT, Int.reduceLE, Int.reduceEq, Int.reduceNeg, Int.reduceToNat, Int.reduceAdd, Int.reduceSub, dn, d4, de, ↓g_call _ _ c_sautoirlaw03_awake]
    refine CallK.pure pc_awake (aft_nil ?_)
    simp -implicitDefEqProofs -dsimp only [go_sem, Nat.reduceEqDiff, Nat.reduceAdd, Nat.reduceMul, Nat.reduceSub, Nat.reduceLT, Nat.reduceLeDiff, Nat.reduceBEq, reduceIte, reduceCtorEq, Int.reduceLT, Int.reduceLE, Int.reduceEq, Int.reduceNeg, Int.reduceToNat, Int.reduceAdd, Int.reduceSub]
    exact finL_pure rfl
  have de : decide (s = []) = false := decide_eq_false he
  have c1 := pc_Code (some (.num n))
  have c2 := pc_Path (some (.num n)) (fun x hx => by injection hx with hx; subst hx; exact ⟨by simp [Er.ps], by show (pathL []).length ≤ 1000000; decide⟩)
  have c3 := pc_Is (.num n) n
  have c4 := pc_In s (some (.num n))
  have c5 := pc_Path (some (.flt s (.num n))) (fun x hx => by injection hx with hx; subst hx; exact ⟨by simp [Er.ps], by simp only [Er.ps, pathL_one]; omega⟩)
  have c6 := pc_Code (some (.flt s (.num n)))
  have eP : erPath (some (.num n)) = [] := rfl
  have eP2 : erPath (some (.flt s (.num n))) = s := pathL_one s
  rw [eP] at c2
  rw [eP2] at c5
  simp only [erAv, erIn, erCode, Er.code, Er.av, fault, errno, tFault, tErrno, decide_true] at c1 c2 c3 c4 c5 c6
  simp -implicitDefEqProofs -dsimp only [go_sem, Nat.reduceEqDiff, Nat.reduceAdd, Nat.reduceMul, Nat.reduceSub, Nat.reduceLT, Nat.reduceLeDiff, Nat.reduceBEq, reduceIte, reduceCtorEq, Int.reduceLT, Int.reduceLE, Int.reduceEq, Int.reduceNeg, Int.reduceToNat, Int.reduceAdd, Int.reduceSub, dn, d4, de, ↓g_call _ _ c_fault_Code]
  refine CallK.pure c1 (aft_nil ?_)
  simp -implicitDefEqProofs -dsimp only [go_sem, Nat.reduceEqDiff, Nat.reduceAdd, Nat.reduceMul, Nat.reduceSub, Nat.reduceLT, Nat.reduceLeDiff, Nat.reduceBEq, reduceIte, reduceCtorEq, Int.reduceLT, Int.reduceLE, Int.reduceEq, Int.reduceNeg, Int.reduceToNat, Int.reduceAdd, Int.reduceSub, decide_true, ↓g_gdc, rcOk, true_and, ↓g_call _ _ c_fault_Path]
  refine CallK.pure c2 (aft_nil ?_)
  simp -implicitDefEqProofs -dsimp only [go_sem, Nat.reduceEqDiff, Nat.reduceAdd, Nat.reduceMul, Nat.reduceSub, Nat.reduceLT, Nat.reduceLeDiff, Nat.reduceBEq, reduceIte, reduceCtorEq, Int.reduceLT, Int.reduceLE, Int.reduceEq, Int.reduceNeg, Int.reduceToNat, Int.reduceAdd, Int.reduceSub, decide_true, ↓g_gdc, rcOk, true_and, ↓g_call _ _ c_fault_Is]
  refine CallK.pure c3 (aft_nil ?_)
  simp -implicitDefEqProofs -dsimp only [go_sem, Nat.reduceEqDiff, Nat.reduceAdd, Nat.reduceMul, Nat.reduceSub, Nat.reduceLT, Nat.reduceLeDiff, Nat.reduceBEq, reduceIte, reduceCtorEq, Int.reduceLT, Int.reduceLE, Int.reduceEq, Int.reduceNeg, Int.reduceToNat, Int.reduceAdd, Int.reduceSub, decide_true, ↓g_gdc, rcOk, true_and, ↓g_call _ _ c_fault_In]
  refine CallK.pure c4 (aft_nil ?_)
  simp -implicitDefEqProofs -dsimp only [go_sem, Nat.reduceEqDiff, Nat.reduceAdd, Nat.reduceMul, Nat.reduceSub, Nat.reduceLT, Nat.reduceLeDiff, Nat.reduceBEq, reduceIte, reduceCtorEq, Int.reduceLT, Int.reduceLE, Int.reduceEq, Int.reduceNeg, Int.reduceToNat, Int.reduceAdd, Int.reduceSub, decide_true, ↓g_gdc, rcOk, true_and, ↓g_call _ _ c_fault_Path]
  refine CallK.pure c5 (aft_nil ?_)
  simp -implicitDefEqProofs -dsimp only [go_sem, Nat.reduceEqDiff, Nat.reduceAdd, Nat.reduceMul, Nat.reduceSub, Nat.reduceLT, Nat.reduceLeDiff, Nat.reduceBEq, reduceIte, reduceCtorEq, Int.reduceLT, Int.reduceLE, Int.reduceEq, Int.reduceNeg, Int.reduceToNat, Int.reduceAdd, Int.reduceSub, decide_true, ↓g_gdc, rcOk, true_and, ↓g_call _ _ c_fault_In]
  refine CallK.pure c4 (aft_nil ?_)
  simp -implicitDefEqProofs -dsimp only [go_sem, Nat.reduceEqDiff, Nat.reduceAdd, Nat.reduceMul, Nat.reduceSub, Nat.reduceLT, Nat.reduceLeDiff, Nat.reduceBEq, reduceIte, reduceCtorEq, Int.reduceLT, Int.reduceLE, Int.reduceEq, Int.reduceNeg, Int.reduceToNat, Int.reduceAdd, Int.reduceSub, decide_true, ↓g_gdc, rcOk, true_and, ↓g_call _ _ c_fault_Code]
  refine CallK.pure c6 (aft_nil ?_)
  simp -implicitDefEqProofs -dsimp only [go_sem, Nat.reduceEqDiff, Nat.reduceAdd, Nat.reduceMul, Nat.reduceSub, Nat.reduceLT, Nat.reduceLeDiff, Nat.reduceBEq, reduceIte, reduceCtorEq, Int.reduceLT, Int.reduceLE, Int.reduceEq, Int.reduceNeg, Int.reduceToNat, Int.reduceAdd, Int.reduceSub, decide_true, ↓g_gdc, rcOk, true_and, ↓g_call _ _ c_sautoirlaw03_awake]
  refine CallK.pure pc_awake (aft_nil ?_)
  simp -implicitDefEqProofs -dsimp only [go_sem, Nat.reduceEqDiff, Nat.reduceAdd, Nat.reduceMul, Nat.reduceSub, Nat.reduceLT, Nat.reduceLeDiff, Nat.reduceBEq, reduceIte, reduceCtorEq, Int.reduceLT, Int.reduceLE, Int.reduceEq, Int.reduceNeg, Int.reduceToNat, Int.reduceAdd, Int.reduceSub]
  exact finL_pure rfl
end Go.Aw
