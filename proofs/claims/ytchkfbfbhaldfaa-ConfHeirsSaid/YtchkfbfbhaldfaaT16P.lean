import Derived.Test.YtchkfbfbhaldfaaT16O
namespace Go.Aw
open Go
open Go.Proofs.Try (prog)
set_option linter.all false
set_option maxHeartbeats 4000000

theorem pc_ConfTurns (c : Rf) (k : Option Nat) (kind n ep : Int) (hl : Len c.l.length) : PCalls prog f_sautoirlaw16_ConfTurns [.agg (c.cells k), .i .i64 kind, .i .i64 n, .i .u64 ep] (.b true) := by
  refine pcalls_of mixed t_sautoirlaw16_ConfTurns (by simp) fun T => ?_
  unfold s_sautoirlaw16_ConfTurns
  have ho : c.ours.ch.length ≤ 10 := by simp [Rf.ours, ourCh]; omega
  have hf : c.ours.fu.length = c.ours.ch.length := by simp [Rf.ours, ourCh, ourFu]
  simp -implicitDefEqProofs -dsimp only [go_sem, Nat.reduceEqDiff, Nat.reduceAdd, Nat.reduceMul, Nat.reduceSub, Nat.reduceLT, Nat.reduceLeDiff, Nat.reduceBEq, reduceIte, reduceCtorEq, Int.reduceLT, Int.reduceLE, Int.reduceEq, Int.reduceNeg, Int.reduceToNat, Int.reduceAdd, Int.reduceSub, Rf.cells, ↓g_call _ _ c_sautoirlaw16_Ours]
  refine CallK.pure (pc_Ours c k hl) (aft_nil ?_)
  generalize c.ours = o at ho hf
  have hlo : Len o.ch.length := by unfold Len; omega
  have hag := agree_turn hf kind n ep
  have cTu := pc_turn o o.plain none none none kind n ep hlo (by rw [o.plain_len]; omega)
  simp -implicitDefEqProofs -dsimp only [go_sem, Nat.reduceEqDiff, Nat.reduceAdd, Nat.reduceMul, Nat.reduceSub, Nat.reduceLT, Nat.reduceLeDiff, Nat.reduceBEq, reduceIte, reduceCtorEq, Int.reduceLT, Int.reduceLE, Int.reduceEq, Int.reduceNeg, Int.reduceToNat, Int.reduceAdd, Int.reduceSub, Cf.cells, ↓g_call _ _ c_sautoirlaw16_Plain]
  refine CallK.pure (pc_Plain o none none (by omega)) (aft_nil ?_)
  simp -implicitDefEqProofs -dsimp only [go_sem, Nat.reduceEqDiff, Nat.reduceAdd, Nat.reduceMul, Nat.reduceSub, Nat.reduceLT, Nat.reduceLeDiff, Nat.reduceBEq, reduceIte, reduceCtorEq, Int.reduceLT, Int.reduceLE, Int.reduceEq, Int.reduceNeg, Int.reduceToNat, Int.reduceAdd, Int.reduceSub, Cf.cells, Rf.cells, ↓g_call _ _ c_sautoirlaw16_turn]
  refine CallK.pure cTu (aft_nil ?_)
  obtain ⟨he, hpl, hfl, hle⟩ := hag
  generalize o.turn kind n ep = r at *
  generalize o.plain.turn kind n ep = s at *
  obtain ⟨a, e⟩ := r
  obtain ⟨b, f⟩ := s
  simp only at he hpl hfl hle
  subst he
  subst hpl
  have cPl := pc_Plain a none none (by omega)
  have cSa := pc_Same a.plain none none (by rw [a.plain_len]; unfold Len; omega)
  unfold turnR
  simp -implicitDefEqProofs -dsimp only [go_sem, Nat.reduceEqDiff, Nat.reduceAdd, Nat.reduceMul, Nat.reduceSub, Nat.reduceLT, Nat.reduceLeDiff, Nat.reduceBEq, reduceIte, reduceCtorEq, Int.reduceLT, Int.reduceLE, Int.reduceEq, Int.reduceNeg, Int.reduceToNat, Int.reduceAdd, Int.reduceSub, Cf.cells, Rf.cells, ↓g_call _ _ c_sautoirlaw16_Plain, decide_true]
  refine CallK.pure cPl (aft_nil ?_)
  simp -implicitDefEqProofs -dsimp only [go_sem, Nat.reduceEqDiff, Nat.reduceAdd, Nat.reduceMul, Nat.reduceSub, Nat.reduceLT, Nat.reduceLeDiff, Nat.reduceBEq, reduceIte, reduceCtorEq, Int.reduceLT, Int.reduceLE, Int.reduceEq, Int.reduceNeg, Int.reduceToNat, Int.reduceAdd, Int.reduceSub, Cf.cells, Rf.cells, ↓g_call _ _ c_sautoirref16_Same, decide_true]
  refine CallK.pure cSa (aft_nil ?_)
  simp -implicitDefEqProofs -dsimp only [go_sem, Nat.reduceEqDiff, Nat.reduceAdd, Nat.reduceMul, Nat.reduceSub, Nat.reduceLT, Nat.reduceLeDiff, Nat.reduceBEq, reduceIte, reduceCtorEq, Int.reduceLT, Int.reduceLE, Int.reduceEq, Int.reduceNeg, Int.reduceToNat, Int.reduceAdd, Int.reduceSub, Cf.cells, Rf.cells, ↓g_call _ _ c_sautoirlaw16_awake, decide_true, hfl]
  refine CallK.pure pc_awake (aft_nil ?_)
  simp -implicitDefEqProofs -dsimp only [go_sem, Nat.reduceEqDiff, Nat.reduceAdd, Nat.reduceMul, Nat.reduceSub, Nat.reduceLT, Nat.reduceLeDiff, Nat.reduceBEq, reduceIte, reduceCtorEq, Int.reduceLT, Int.reduceLE, Int.reduceEq, Int.reduceNeg, Int.reduceToNat, Int.reduceAdd, Int.reduceSub]
  exact finL_pure rfl
end Go.Aw
