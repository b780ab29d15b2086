import Derived.Test.YtoeaikcebjideaaDoorE03N
namespace Go.Aw
open Go
open Go.Proofs.Tryd (prog)
open Go.Proofs
set_option linter.all false
set_option maxHeartbeats 4000000

theorem pc_FaultIs (l : List (List UInt8)) (cap : Option Nat) (n m : Int) (hl : Len l.length) : PCalls prog f_sautoirlaw03_FaultIs [.fz l.length (strs l) cap, .i .i64 n, .i .i64 m] (.b true) := by
  refine pcalls_of mixed t_sautoirlaw03_FaultIs (by simp) fun T => ?_
  have cS := pc_short l cap hl
  have h1 := shortL_len l
  have h2 := shortL_s l
  generalize shortL l = q at cS h1 h2
  unfold s_sautoirlaw03_FaultIs
  simp -implicitDefEqProofs -dsimp only [go_sem, Nat.reduceEqDiff, Nat.reduceAdd, Nat.reduceMul, Nat.reduceSub, Nat.reduceLT, Nat.reduceLeDiff, Nat.reduceBEq, reduceIte, reduceCtorEq, Int.reduceLT, Int.reduceLE, Int.reduceEq, Int.reduceNeg, Int.reduceToNat, Int.reduceAdd, Int.reduceSub, ↓g_call _ _ c_sautoirlaw03_short]
  refine CallK.pure cS (aft_nil ?_)
  by_cases hq : q = []
  · have d : decide ((q.length : Int) = 0) = true := by rw [hq]; rfl
    simp -implicitDefEqProofs -dsimp only [go_sem, Nat.reduceEqDiff, Nat.reduceAdd, Nat.reduceMul, Nat.reduceSub, Nat.reduceLT, Nat.reduceLeDiff, Nat.reduceBEq, reduceIte, reduceCtorEq, Int.reduceLT, Int.reduceLE, Int.reduceEq, Int.reduceNeg, Int.reduceToNat, Int.reduceAdd, Int.reduceSub, d, ↓g_call _ _ c_fault_Is]
    refine CallK.pure (pc_IsNil m) (aft_nil ?_)
    simp -implicitDefEqProofs -dsimp only [go_sem, Nat.reduceEqDiff, Nat.reduceAdd, Nat.reduceMul, Nat.reduceSub, Nat.reduceLT, Nat.reduceLeDiff, Nat.reduceBEq, reduceIte, reduceCtorEq, Int.reduceLT, Int.reduceLE, Int.reduceEq, Int.reduceNeg, Int.reduceToNat, Int.reduceAdd, Int.reduceSub, ↓g_gdc, rcOk, true_and, ↓g_call _ _ c_sautoirlaw03_awake]
    refine CallK.pure pc_awake (aft_nil ?_)
    simp -implicitDefEqProofs -dsimp only [go_sem, Nat.reduceEqDiff, Nat.reduceAdd, Nat.reduceMul, Nat.reduceSub, Nat.reduceLT, Nat.reduceLeDiff, Nat.reduceBEq, reduceIte, reduceCtorEq, Int.reduceLT, Int.reduceLE, Int.reduceEq, Int.reduceNeg, Int.reduceToNat, Int.reduceAdd, Int.reduceSub]
    exact finL_pure rfl
  have h0 : q.length ≠ 0 := fun e => hq (List.length_eq_zero_iff.1 e)
  have d : decide ((q.length : Int) = 0) = false := decide_eq_false (by omega)
  by_cases hn : n = 0
  · have dn : decide (n = 0) = true := decide_eq_true hn
    simp -implicitDefEqProofs -dsimp only [go_sem, Nat.reduceEqDiff, Nat.reduceAdd, Nat.reduceMul, Nat.reduceSub, Nat.reduceLT, Nat.reduceLeDiff, Nat.reduceBEq, reduceIte, reduceCtorEq, Int.reduceLT, Int.reduceLE, Int.reduceEq, Int.reduceNeg, Int.reduceToNat, Int.reduceAdd, Int.reduceSub, d, dn, ↓g_call _ _ c_fault_Is]
    refine CallK.pure (pc_IsNil m) (aft_nil ?_)
    simp -implicitDefEqProofs -dsimp only [go_sem, Nat.reduceEqDiff, Nat.reduceAdd, Nat.reduceMul, Nat.reduceSub, Nat.reduceLT, Nat.reduceLeDiff, Nat.reduceBEq, reduceIte, reduceCtorEq, Int.reduceLT, Int.reduceLE, Int.reduceEq, Int.reduceNeg, Int.reduceToNat, Int.reduceAdd, Int.reduceSub, ↓g_gdc, rcOk, true_and, ↓g_call _ _ c_sautoirlaw03_awake]
    refine CallK.pure pc_awake (aft_nil ?_)
    simp -implicitDefEqProofs -dsimp only [go_sem, Nat.reduceEqDiff, Nat.reduceAdd, Nat.reduceMul, Nat.reduceSub, Nat.reduceLT, Nat.reduceLeDiff, Nat.reduceBEq, reduceIte, reduceCtorEq, Int.reduceLT, Int.reduceLE, Int.reduceEq, Int.reduceNeg, Int.reduceToNat, Int.reduceAdd, Int.reduceSub]
    exact finL_pure rfl
  have dn : decide (n = 0) = false := decide_eq_false hn
  have cW := pc_wrap q none n (by unfold Len; omega) hq
  obtain ⟨e, e1, e2, e3⟩ := wrapL_some hq hn
  rw [e1] at cW
  have cI := pc_Is e m
  obtain ⟨te, ve, hev⟩ := e.ifc
  simp only [erAv, e2, hev] at cW cI
  generalize hb : decide (n = m) = b at cI
  simp -implicitDefEqProofs -dsimp only [go_sem, Nat.reduceEqDiff, Nat.reduceAdd, Nat.reduceMul, Nat.reduceSub, Nat.reduceLT, Nat.reduceLeDiff, Nat.reduceBEq, reduceIte, reduceCtorEq, Int.reduceLT, Int.reduceLE, Int.reduceEq, Int.reduceNeg, Int.reduceToNat, Int.reduceAdd, Int.reduceSub, d, dn, ↓g_call _ _ c_sautoirlaw03_wrap]
  refine CallK.pure cW (aft_nil ?_)
  simp -implicitDefEqProofs -dsimp only [go_sem, Nat.reduceEqDiff, Nat.reduceAdd, Nat.reduceMul, Nat.reduceSub, Nat.reduceLT, Nat.reduceLeDiff, Nat.reduceBEq, reduceIte, reduceCtorEq, Int.reduceLT, Int.reduceLE, Int.reduceEq, Int.reduceNeg, Int.reduceToNat, Int.reduceAdd, Int.reduceSub, ↓g_call _ _ c_fault_Is]
  refine CallK.pure cI (aft_nil ?_)
  simp -implicitDefEqProofs -dsimp only [go_sem, Nat.reduceEqDiff, Nat.reduceAdd, Nat.reduceMul, Nat.reduceSub, Nat.reduceLT, Nat.reduceLeDiff, Nat.reduceBEq, reduceIte, reduceCtorEq, Int.reduceLT, Int.reduceLE, Int.reduceEq, Int.reduceNeg, Int.reduceToNat, Int.reduceAdd, Int.reduceSub, hb, eqAv, decide_true, BEq.rfl, beq_self_eq_true, ↓g_gdc, rcOk, true_and, ↓g_call _ _ c_sautoirlaw03_awake]
  refine CallK.pure pc_awake (aft_nil ?_)
  simp -implicitDefEqProofs -dsimp only [go_sem, Nat.reduceEqDiff, Nat.reduceAdd, Nat.reduceMul, Nat.reduceSub, Nat.reduceLT, Nat.reduceLeDiff, Nat.reduceBEq, reduceIte, reduceCtorEq, Int.reduceLT, Int.reduceLE, Int.reduceEq, Int.reduceNeg, Int.reduceToNat, Int.reduceAdd, Int.reduceSub]
  exact finL_pure rfl
end Go.Aw
