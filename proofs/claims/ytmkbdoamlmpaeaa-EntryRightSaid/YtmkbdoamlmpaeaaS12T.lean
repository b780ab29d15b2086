import Derived.Test.YtmkbdoamlmpaeaaS12S
namespace Go.Aw
open Go
open Go.Proofs.Try (prog)
set_option linter.all false
set_option maxHeartbeats 4000000

theorem pc_EntryRight (e : En) (k1 k2 : Option Nat) (hf : e.t.Wide) (h01 : 0 ≤ e.t.sq) (h02 : 0 ≤ e.sq) : PCalls prog f_sautoirlaw12_EntryRight [.agg (e.cells k1 k2)] (.b true) := by
  refine pcalls_of mixed t_sautoirlaw12_EntryRight (by simp) fun T => ?_
  have c1 := pc_Ours12 e k1 k2 hf
  have c2 := pc_Plain12 e.our none none hf.our
  have c3 := pc_RightTxn e.our.t none none hf.our
  have c4 := pc_rRightTxn e.our.t none none hf.our h01
  have c5 := pc_enRight e.our none none hf.our
  have c6 := pc_rEnRight e.our none none hf.our h01 h02
  simp only [Tx.cells, En.cells] at c1 c2 c3 c4 c5 c6
  have hcl : e.our.t.cl = e.t.cl := rfl
  have hsq : e.our.t.sq = e.t.sq := rfl
  unfold s_sautoirlaw12_EntryRight
  simp -implicitDefEqProofs -dsimp only [go_sem, Nat.reduceEqDiff, Nat.reduceAdd, Nat.reduceMul, Nat.reduceSub, Nat.reduceLT, Nat.reduceLeDiff, Nat.reduceBEq, reduceIte, reduceCtorEq, Int.reduceLT, Int.reduceLE, Int.reduceEq, Int.reduceNeg, Int.reduceToNat, Int.reduceAdd, Int.reduceSub, En.cells, ↓g_call _ _ c_sautoirlaw12_Ours]
  refine CallK.pure c1 (aft_nil ?_)
  simp -implicitDefEqProofs -dsimp only [go_sem, Nat.reduceEqDiff, Nat.reduceAdd, Nat.reduceMul, Nat.reduceSub, Nat.reduceLT, Nat.reduceLeDiff, Nat.reduceBEq, reduceIte, reduceCtorEq, Int.reduceLT, Int.reduceLE, Int.reduceEq, Int.reduceNeg, Int.reduceToNat, Int.reduceAdd, Int.reduceSub, ↓g_call _ _ c_sautoirlaw12_Plain]
  refine CallK.pure c2 (aft_nil ?_)
  simp -implicitDefEqProofs -dsimp only [go_sem, Nat.reduceEqDiff, Nat.reduceAdd, Nat.reduceMul, Nat.reduceSub, Nat.reduceLT, Nat.reduceLeDiff, Nat.reduceBEq, reduceIte, reduceCtorEq, Int.reduceLT, Int.reduceLE, Int.reduceEq, Int.reduceNeg, Int.reduceToNat, Int.reduceAdd, Int.reduceSub, ↓g_call _ _ c_entry_RightID]
  refine CallK.pure (pc_RightID e.our.t.cl e.our.t.sq) (aft_nil ?_)
  simp -implicitDefEqProofs -dsimp only [go_sem, Nat.reduceEqDiff, Nat.reduceAdd, Nat.reduceMul, Nat.reduceSub, Nat.reduceLT, Nat.reduceLeDiff, Nat.reduceBEq, reduceIte, reduceCtorEq, Int.reduceLT, Int.reduceLE, Int.reduceEq, Int.reduceNeg, Int.reduceToNat, Int.reduceAdd, Int.reduceSub, ↓g_call _ _ c_sautoirref12_RightID]
  refine CallK.pure (pc_rRightID e.our.t.cl e.our.t.sq h01) (aft_nil ?_)
  have hb : ∀ b : Bool, (b == b) = true := fun b => by cases b <;> rfl
  simp -implicitDefEqProofs -dsimp only [go_sem, Nat.reduceEqDiff, Nat.reduceAdd, Nat.reduceMul, Nat.reduceSub, Nat.reduceLT, Nat.reduceLeDiff, Nat.reduceBEq, reduceIte, reduceCtorEq, Int.reduceLT, Int.reduceLE, Int.reduceEq, Int.reduceNeg, Int.reduceToNat, Int.reduceAdd, Int.reduceSub, hb, decide_true, ↓g_gdc, rcOk, true_and, ↓g_call _ _ c_entry_RightTxn]
  refine CallK.pure c3 (aft_nil ?_)
  simp -implicitDefEqProofs -dsimp only [go_sem, Nat.reduceEqDiff, Nat.reduceAdd, Nat.reduceMul, Nat.reduceSub, Nat.reduceLT, Nat.reduceLeDiff, Nat.reduceBEq, reduceIte, reduceCtorEq, Int.reduceLT, Int.reduceLE, Int.reduceEq, Int.reduceNeg, Int.reduceToNat, Int.reduceAdd, Int.reduceSub, hb, decide_true, ↓g_gdc, rcOk, true_and, ↓g_call _ _ c_sautoirref12_RightTxn]
  refine CallK.pure c4 (aft_nil ?_)
  simp -implicitDefEqProofs -dsimp only [go_sem, Nat.reduceEqDiff, Nat.reduceAdd, Nat.reduceMul, Nat.reduceSub, Nat.reduceLT, Nat.reduceLeDiff, Nat.reduceBEq, reduceIte, reduceCtorEq, Int.reduceLT, Int.reduceLE, Int.reduceEq, Int.reduceNeg, Int.reduceToNat, Int.reduceAdd, Int.reduceSub, hb, decide_true, ↓g_gdc, rcOk, true_and, ↓g_call _ _ c_entry_Right]
  refine CallK.pure c5 (aft_nil ?_)
  simp -implicitDefEqProofs -dsimp only [go_sem, Nat.reduceEqDiff, Nat.reduceAdd, Nat.reduceMul, Nat.reduceSub, Nat.reduceLT, Nat.reduceLeDiff, Nat.reduceBEq, reduceIte, reduceCtorEq, Int.reduceLT, Int.reduceLE, Int.reduceEq, Int.reduceNeg, Int.reduceToNat, Int.reduceAdd, Int.reduceSub, hb, decide_true, ↓g_gdc, rcOk, true_and, ↓g_call _ _ c_sautoirref12_Right]
  refine CallK.pure c6 (aft_nil ?_)
  simp -implicitDefEqProofs -dsimp only [go_sem, Nat.reduceEqDiff, Nat.reduceAdd, Nat.reduceMul, Nat.reduceSub, Nat.reduceLT, Nat.reduceLeDiff, Nat.reduceBEq, reduceIte, reduceCtorEq, Int.reduceLT, Int.reduceLE, Int.reduceEq, Int.reduceNeg, Int.reduceToNat, Int.reduceAdd, Int.reduceSub, hb, decide_true, ↓g_gdc, rcOk, true_and, ↓g_call _ _ c_sautoirlaw12_awake]
  refine CallK.pure pc_awake12 (aft_nil ?_)
  simp -implicitDefEqProofs -dsimp only [go_sem, Nat.reduceEqDiff, Nat.reduceAdd, Nat.reduceMul, Nat.reduceSub, Nat.reduceLT, Nat.reduceLeDiff, Nat.reduceBEq, reduceIte, reduceCtorEq, Int.reduceLT, Int.reduceLE, Int.reduceEq, Int.reduceNeg, Int.reduceToNat, Int.reduceAdd, Int.reduceSub, hb, decide_true]
  exact finL_pure rfl
end Go.Aw
