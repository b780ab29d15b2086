import Derived.Test.YtoeaikcebjideaaDoorE03N
namespace Go.Aw
open Go
open Go.Proofs.Tryd (prog)
open Go.Proofs
set_option linter.all false
set_option maxHeartbeats 4000000

theorem pc_FaultTells (l : List (List UInt8)) (cap : Option Nat) (n : Int) (hl : Len l.length) : PCalls prog f_sautoirlaw03_FaultTells [.fz l.length (strs l) cap, .i .i64 n] (.b true) := by
  refine pcalls_of mixed t_sautoirlaw03_FaultTells (by simp) fun T => ?_
  have cS := pc_short l cap hl
  have h1 := shortL_len l
  have h2 := shortL_s l
  generalize shortL l = q at cS h1 h2
  unfold s_sautoirlaw03_FaultTells
  simp -implicitDefEqProofs -dsimp only [go_sem, Nat.reduceEqDiff, Nat.reduceAdd, Nat.reduceMul, Nat.reduceSub, Nat.reduceLT, Nat.reduceLeDiff, Nat.reduceBEq, reduceIte, reduceCtorEq, Int.reduceLT, Int.reduceLE, Int.reduceEq, Int.reduceNeg, Int.reduceToNat, Int.reduceAdd, Int.reduceSub, ↓g_call _ _ c_sautoirlaw03_short]
  refine CallK.pure cS (aft_nil ?_)
  by_cases hq : q = []
  · have d : decide ((q.length : Int) = 0) = true := by rw [hq]; rfl
    simp -implicitDefEqProofs -dsimp only [go_sem, Nat.reduceEqDiff, Nat.reduceAdd, Nat.reduceMul, Nat.reduceSub, Nat.reduceLT, Nat.reduceLeDiff, Nat.reduceBEq, reduceIte, reduceCtorEq, Int.reduceLT, Int.reduceLE, Int.reduceEq, Int.reduceNeg, Int.reduceToNat, Int.reduceAdd, Int.reduceSub, d, ↓g_call _ _ c_sautoirlaw03_awake]
    refine CallK.pure pc_awake (aft_nil ?_)
    simp -implicitDefEqProofs -dsimp only [go_sem, Nat.reduceEqDiff, Nat.reduceAdd, Nat.reduceMul, Nat.reduceSub, Nat.reduceLT, Nat.reduceLeDiff, Nat.reduceBEq, reduceIte, reduceCtorEq, Int.reduceLT, Int.reduceLE, Int.reduceEq, Int.reduceNeg, Int.reduceToNat, Int.reduceAdd, Int.reduceSub]
    exact finL_pure rfl
  have h0 : q.length ≠ 0 := fun e => hq (List.length_eq_zero_iff.1 e)
  have d : decide ((q.length : Int) = 0) = false := decide_eq_false (by omega)
  by_cases hn : n = 0
  · have dn : decide (n = 0) = true := decide_eq_true hn
    simp -implicitDefEqProofs -dsimp only [go_sem, Nat.reduceEqDiff, Nat.reduceAdd, Nat.reduceMul, Nat.reduceSub, Nat.reduceLT, Nat.reduceLeDiff, Nat.reduceBEq, reduceIte, reduceCtorEq, Int.reduceLT, Int.reduceLE, Int.reduceEq, Int.reduceNeg, Int.reduceToNat, Int.reduceAdd, Int.reduceSub, d, dn, ↓g_call _ _ c_sautoirlaw03_awake]
    refine CallK.pure pc_awake (aft_nil ?_)
    simp -implicitDefEqProofs -dsimp only [go_sem, Nat.reduceEqDiff, Nat.reduceAdd, Nat.reduceMul, Nat.reduceSub, Nat.reduceLT, Nat.reduceLeDiff, Nat.reduceBEq, reduceIte, reduceCtorEq, Int.reduceLT, Int.reduceLE, Int.reduceEq, Int.reduceNeg, Int.reduceToNat, Int.reduceAdd, Int.reduceSub]
    exact finL_pure rfl
  have dn : decide (n = 0) = false := decide_eq_false hn
  have cW := pc_wrap q none n (by unfold Len; omega) hq
  have cR := pc_rPath q none (by omega) h2
  obtain ⟨e, e1, e2, e3⟩ := wrapL_some hq hn
  rw [e1] at cW
  have hpl := pathL_len q.reverse (fun s h => h2 s (List.mem_reverse.1 h))
  rw [List.length_reverse] at hpl
  have hqr : q.reverse ≠ [] := fun e => hq (List.reverse_eq_nil_iff.1 e)
  have hpc := pathL_cons q.reverse [116, 111, 112] hqr
  have cE := pc_Error [116, 111, 112] e (by rw [e3, List.length_reverse]; omega) (by
    rw [e3, hpc]
    simp only [List.length_append, List.length_cons, List.length_nil]
    omega)
  have cU := pc_Unwrap [116, 111, 112] e
  have cN := pc_ErrnoError n
  rw [e3, hpc] at cE
  obtain ⟨te, ve, hev⟩ := e.ifc
  simp only [erAv, hev] at cW cE cU
  generalize pathL q.reverse = P at cE cR hpl
  have eN : eNoTxt.length = 17 := rfl
  generalize eNoTxt = tx at cE cN eN
  simp -implicitDefEqProofs -dsimp only [go_sem, Nat.reduceEqDiff, Nat.reduceAdd, Nat.reduceMul, Nat.reduceSub, Nat.reduceLT, Nat.reduceLeDiff, Nat.reduceBEq, reduceIte, reduceCtorEq, Int.reduceLT, Int.reduceLE, Int.reduceEq, Int.reduceNeg, Int.reduceToNat, Int.reduceAdd, Int.reduceSub, d, dn, ↓g_call _ _ c_sautoirlaw03_wrap]
  refine CallK.pure cW (aft_nil ?_)
  simp -implicitDefEqProofs -dsimp only [go_sem, Nat.reduceEqDiff, Nat.reduceAdd, Nat.reduceMul, Nat.reduceSub, Nat.reduceLT, Nat.reduceLeDiff, Nat.reduceBEq, reduceIte, reduceCtorEq, Int.reduceLT, Int.reduceLE, Int.reduceEq, Int.reduceNeg, Int.reduceToNat, Int.reduceAdd, Int.reduceSub]
  refine fun id hid => aft_nil ?_
  simp -implicitDefEqProofs -dsimp only [go_sem, Nat.reduceEqDiff, Nat.reduceAdd, Nat.reduceMul, Nat.reduceSub, Nat.reduceLT, Nat.reduceLeDiff, Nat.reduceBEq, reduceIte, reduceCtorEq, Int.reduceLT, Int.reduceLE, Int.reduceEq, Int.reduceNeg, Int.reduceToNat, Int.reduceAdd, Int.reduceSub]
  refine gzS_of [id] (by simp) (by simp [Tab.put_same]) ?_
  simp only [frE, frX, frzt, frzv, frz1, List.mem_singleton, if_true, Tab.put_same, List.drop_zero, kill, Tab.put_put, Tab.put_self hid]
  have b1 : 4 + P.length ≤ 9223372036854775807 := by omega
  have b2 : 4 + P.length + 1 ≤ 9223372036854775807 := by omega
  have b3 : 4 + P.length + 1 + 17 ≤ 9223372036854775807 := by omega
  have b4 : P.length + 1 + 1 + 1 + 1 ≤ 9223372036854775807 := by omega
  have b5 : P.length + 1 + 1 + 1 + 1 + 1 ≤ 9223372036854775807 := by omega
  have b6 : P.length + 1 + 1 + 1 + 1 + 1 + 17 ≤ 9223372036854775807 := by omega
  have b7 : P.length + 1 + 17 ≤ 9223372036854775807 := by omega
  simp -implicitDefEqProofs -dsimp only [go_sem, Nat.reduceEqDiff, Nat.reduceAdd, Nat.reduceMul, Nat.reduceSub, Nat.reduceLT, Nat.reduceLeDiff, Nat.reduceBEq, reduceIte, reduceCtorEq, Int.reduceLT, Int.reduceLE, Int.reduceEq, Int.reduceNeg, Int.reduceToNat, Int.reduceAdd, Int.reduceSub, ↓g_call _ _ c_fault_Fault_Error]
  refine CallK.pure cE (aft_nil ?_)
  simp -implicitDefEqProofs -dsimp only [go_sem, Nat.reduceEqDiff, Nat.reduceAdd, Nat.reduceMul, Nat.reduceSub, Nat.reduceLT, Nat.reduceLeDiff, Nat.reduceBEq, reduceIte, reduceCtorEq, Int.reduceLT, Int.reduceLE, Int.reduceEq, Int.reduceNeg, Int.reduceToNat, Int.reduceAdd, Int.reduceSub, ↓g_call _ _ c_sautoirref03_Path]
  refine CallK.pure cR (aft_nil ?_)
  simp -implicitDefEqProofs -dsimp only [go_sem, Nat.reduceEqDiff, Nat.reduceAdd, Nat.reduceMul, Nat.reduceSub, Nat.reduceLT, Nat.reduceLeDiff, Nat.reduceBEq, reduceIte, reduceCtorEq, Int.reduceLT, Int.reduceLE, Int.reduceEq, Int.reduceNeg, Int.reduceToNat, Int.reduceAdd, Int.reduceSub, List.length_append, b1, b2, b3, b4, b5, b6, b7, eN, ↓g_call _ _ c_api_Errno_Error]
  refine CallK.pure cN (aft_nil ?_)
  simp -implicitDefEqProofs -dsimp only [go_sem, Nat.reduceEqDiff, Nat.reduceAdd, Nat.reduceMul, Nat.reduceSub, Nat.reduceLT, Nat.reduceLeDiff, Nat.reduceBEq, reduceIte, reduceCtorEq, Int.reduceLT, Int.reduceLE, Int.reduceEq, Int.reduceNeg, Int.reduceToNat, Int.reduceAdd, Int.reduceSub, List.length_append, b1, b2, b3, b4, b5, b6, b7, eN, List.append_assoc, decide_true, ↓g_gdc, rcOk, true_and, ↓g_call _ _ c_fault_Fault_Unwrap]
  refine CallK.pure cU (aft_nil ?_)
  simp -implicitDefEqProofs -dsimp only [go_sem, Nat.reduceEqDiff, Nat.reduceAdd, Nat.reduceMul, Nat.reduceSub, Nat.reduceLT, Nat.reduceLeDiff, Nat.reduceBEq, reduceIte, reduceCtorEq, Int.reduceLT, Int.reduceLE, Int.reduceEq, Int.reduceNeg, Int.reduceToNat, Int.reduceAdd, Int.reduceSub, decide_true, eqAv, ↓g_gdc, rcOk, true_and, ↓g_call _ _ c_sautoirlaw03_awake]
  refine CallK.pure pc_awake (aft_nil ?_)
  simp -implicitDefEqProofs -dsimp only [go_sem, Nat.reduceEqDiff, Nat.reduceAdd, Nat.reduceMul, Nat.reduceSub, Nat.reduceLT, Nat.reduceLeDiff, Nat.reduceBEq, reduceIte, reduceCtorEq, Int.reduceLT, Int.reduceLE, Int.reduceEq, Int.reduceNeg, Int.reduceToNat, Int.reduceAdd, Int.reduceSub]
  exact finL_pure rfl
end Go.Aw
