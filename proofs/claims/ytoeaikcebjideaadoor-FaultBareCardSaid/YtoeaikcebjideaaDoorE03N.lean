import Derived.Test.YtoeaikcebjideaaDoorE03KC
import Derived.Test.YtoeaikcebjideaaDoorE03KA
import Derived.Test.YtoeaikcebjideaaDoorE03L
import Derived.Test.YtoeaikcebjideaaDoorE03M
namespace Go.Aw
open Go
open Go.Proofs.Tryd (prog)
open Go.Proofs
set_option linter.all false
set_option maxHeartbeats 4000000

def eNoTxt : List UInt8 := [115, 97, 117, 116, 111, 105, 114, 58, 32, 97, 110, 32, 101, 114, 114, 111, 114]
theorem pc_ErrnoError (n : Int) : PCalls prog f_api_Errno_Error [.i .i64 n] (.s eNoTxt) := by
  refine pcalls_of mixed t_api_Errno_Error (by simp) fun T => ?_
  unfold s_api_Errno_Error
  simp -implicitDefEqProofs -dsimp only [go_sem, Nat.reduceEqDiff, Nat.reduceAdd, Nat.reduceMul, Nat.reduceSub, Nat.reduceLT, Nat.reduceLeDiff, Nat.reduceBEq, reduceIte, reduceCtorEq, Int.reduceLT, Int.reduceLE, Int.reduceEq, Int.reduceNeg, Int.reduceToNat, Int.reduceAdd, Int.reduceSub]
  exact finL_pure rfl
theorem pc_Error (w : List UInt8) (e : Er) (h1 : e.ps.length ≤ 900) (h2 : (pathL (w :: e.ps)).length ≤ 100000) : PCalls prog f_fault_Fault_Error [.fptr [.s w, e.av]] (.s ((pathL (w :: e.ps) ++ [62]) ++ eNoTxt)) := by
  refine pcalls_of mixed t_fault_Fault_Error (by simp) fun T => ?_
  have cP := pc_Path (some (.flt w e)) (fun x hx => by injection hx with hx; subst hx; exact ⟨by simp only [Er.ps, List.length_cons]; omega, by simp only [Er.ps]; omega⟩)
  have cC := pc_Code (some (.flt w e))
  have cE := pc_ErrnoError e.code
  obtain ⟨te, ve, hev⟩ := e.ifc
  have eN : eNoTxt.length = 17 := rfl
  simp only [erAv, erPath, erCode, Er.code, Er.ps, Er.av, fault, tFault, hev] at cP cC ⊢
  generalize pathL (w :: e.ps) = q at cP h2 ⊢
  have b1 : q.length + 1 ≤ 9223372036854775807 := by omega
  have b2 : q.length + 1 + 17 ≤ 9223372036854775807 := by omega
  unfold s_fault_Fault_Error
  generalize eNoTxt = tx at eN cE ⊢
  simp -implicitDefEqProofs -dsimp only [go_sem, Nat.reduceEqDiff, Nat.reduceAdd, Nat.reduceMul, Nat.reduceSub, Nat.reduceLT, Nat.reduceLeDiff, Nat.reduceBEq, reduceIte, reduceCtorEq, Int.reduceLT, Int.reduceLE, Int.reduceEq, Int.reduceNeg, Int.reduceToNat, Int.reduceAdd, Int.reduceSub, ↓g_call _ _ c_fault_Path]
  refine CallK.pure cP (aft_nil ?_)
  simp -implicitDefEqProofs -dsimp only [go_sem, Nat.reduceEqDiff, Nat.reduceAdd, Nat.reduceMul, Nat.reduceSub, Nat.reduceLT, Nat.reduceLeDiff, Nat.reduceBEq, reduceIte, reduceCtorEq, Int.reduceLT, Int.reduceLE, Int.reduceEq, Int.reduceNeg, Int.reduceToNat, Int.reduceAdd, Int.reduceSub, b1, ↓g_call _ _ c_fault_Code]
  refine CallK.pure cC (aft_nil ?_)
  simp -implicitDefEqProofs -dsimp only [go_sem, Nat.reduceEqDiff, Nat.reduceAdd, Nat.reduceMul, Nat.reduceSub, Nat.reduceLT, Nat.reduceLeDiff, Nat.reduceBEq, reduceIte, reduceCtorEq, Int.reduceLT, Int.reduceLE, Int.reduceEq, Int.reduceNeg, Int.reduceToNat, Int.reduceAdd, Int.reduceSub, b1, ↓g_call _ _ c_api_Errno_Error]
  refine CallK.pure cE (aft_nil ?_)
  simp -implicitDefEqProofs -dsimp only [go_sem, Nat.reduceEqDiff, Nat.reduceAdd, Nat.reduceMul, Nat.reduceSub, Nat.reduceLT, Nat.reduceLeDiff, Nat.reduceBEq, reduceIte, reduceCtorEq, Int.reduceLT, Int.reduceLE, Int.reduceEq, Int.reduceNeg, Int.reduceToNat, Int.reduceAdd, Int.reduceSub, b1, List.length_append, eN, b2]
  exact finL_pure rfl
theorem pc_Unwrap (w : List UInt8) (e : Er) : PCalls prog f_fault_Fault_Unwrap [.fptr [.s w, e.av]] e.av := by
  refine pcalls_of mixed t_fault_Fault_Unwrap (by simp) fun T => ?_
  obtain ⟨te, ve, hev⟩ := e.ifc
  rw [hev]
  unfold s_fault_Fault_Unwrap
  simp -implicitDefEqProofs -dsimp only [go_sem, Nat.reduceEqDiff, Nat.reduceAdd, Nat.reduceMul, Nat.reduceSub, Nat.reduceLT, Nat.reduceLeDiff, Nat.reduceBEq, reduceIte, reduceCtorEq, Int.reduceLT, Int.reduceLE, Int.reduceEq, Int.reduceNeg, Int.reduceToNat, Int.reduceAdd, Int.reduceSub, eqAv]
  exact finL_pure rfl
theorem pc_awake : PCalls prog f_sautoirlaw03_awake [] (.b true) := by
  refine pcalls_of mixed t_sautoirlaw03_awake (by simp) fun T => ?_
  have cN : PCalls prog f_fault_New [.s [98], .i .i64 3] (erAv (some (.flt [98] (.num 3)))) := pc_New [98] 3
  have cI := pc_In [97] (some (.flt [98] (.num 3)))
  have cC := pc_Code (some (.flt [97] (.flt [98] (.num 3))))
  have cP := pc_Path (some (.flt [97] (.flt [98] (.num 3)))) (fun x hx => by injection hx with hx; subst hx; exact ⟨by simp [Er.ps], by decide⟩)
  have eP : erPath (some (.flt [97] (.flt [98] (.num 3)))) = [97, 62, 98] := rfl
  rw [eP] at cP
  simp only [erAv, erIn, erCode, Er.code, Er.av, fault, errno, tFault, tErrno] at cN cI cC cP
  unfold s_sautoirlaw03_awake
  simp -implicitDefEqProofs -dsimp only [go_sem, Nat.reduceEqDiff, Nat.reduceAdd, Nat.reduceMul, Nat.reduceSub, Nat.reduceLT, Nat.reduceLeDiff, Nat.reduceBEq, reduceIte, reduceCtorEq, Int.reduceLT, Int.reduceLE, Int.reduceEq, Int.reduceNeg, Int.reduceToNat, Int.reduceAdd, Int.reduceSub, ↓g_call _ _ c_fault_New]
  refine CallK.pure cN (aft_nil ?_)
  simp -implicitDefEqProofs -dsimp only [go_sem, Nat.reduceEqDiff, Nat.reduceAdd, Nat.reduceMul, Nat.reduceSub, Nat.reduceLT, Nat.reduceLeDiff, Nat.reduceBEq, reduceIte, reduceCtorEq, Int.reduceLT, Int.reduceLE, Int.reduceEq, Int.reduceNeg, Int.reduceToNat, Int.reduceAdd, Int.reduceSub, ↓g_call _ _ c_fault_In]
  refine CallK.pure cI (aft_nil ?_)
  simp -implicitDefEqProofs -dsimp only [go_sem, Nat.reduceEqDiff, Nat.reduceAdd, Nat.reduceMul, Nat.reduceSub, Nat.reduceLT, Nat.reduceLeDiff, Nat.reduceBEq, reduceIte, reduceCtorEq, Int.reduceLT, Int.reduceLE, Int.reduceEq, Int.reduceNeg, Int.reduceToNat, Int.reduceAdd, Int.reduceSub, ↓g_call _ _ c_fault_Code]
  refine CallK.pure cC (aft_nil ?_)
  simp -implicitDefEqProofs -dsimp only [go_sem, Nat.reduceEqDiff, Nat.reduceAdd, Nat.reduceMul, Nat.reduceSub, Nat.reduceLT, Nat.reduceLeDiff, Nat.reduceBEq, reduceIte, reduceCtorEq, Int.reduceLT, Int.reduceLE, Int.reduceEq, Int.reduceNeg, Int.reduceToNat, Int.reduceAdd, Int.reduceSub, decide_true, ↓g_gdc, rcOk, true_and, ↓g_call _ _ c_fault_Path]
  refine CallK.pure cP (aft_nil ?_)
  simp -implicitDefEqProofs -dsimp only [go_sem, Nat.reduceEqDiff, Nat.reduceAdd, Nat.reduceMul, Nat.reduceSub, Nat.reduceLT, Nat.reduceLeDiff, Nat.reduceBEq, reduceIte, reduceCtorEq, Int.reduceLT, Int.reduceLE, Int.reduceEq, Int.reduceNeg, Int.reduceToNat, Int.reduceAdd, Int.reduceSub, decide_true]
  exact finL_pure rfl
end Go.Aw
