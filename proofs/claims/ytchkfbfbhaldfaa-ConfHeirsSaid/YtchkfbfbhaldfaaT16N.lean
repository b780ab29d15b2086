import Derived.Test.YtchkfbfbhaldfaaT16M
import Derived.Test.YtchkfbfbhaldfaaT16K
namespace Go.Aw
open Go
open Go.Proofs.Try (prog)
set_option linter.all false
set_option maxHeartbeats 4000000

theorem lp_Same {R : RPost} (hR : ExtR R) {T : Tab} {c : Rf} {k1 k2 : Option Nat} (hl : Len c.l.length) : ∀ (ys : List (Int × Bool)) (k : Nat), c.l.drop k = ys → k ≤ c.l.length →
    R (.exit 0) [(2, .lp 2 0), (3, .lp 3 0), (36, .i .i64 c.l.length), (37, .i .i64 c.l.length), (38, .b false)] [(2, c.cells k1), (3, c.cells k2)] T →
    AW prog sautoirref16_Same_l0 R [(2, .lp 2 0), (3, .lp 3 0), (36, .i .i64 c.l.length), (37, .i .i64 k)] [(2, c.cells k1), (3, c.cells k2)] T := by
  intro ys
  induction ys with
  | nil =>
    intro k hk hle h2
    have hk' := drop_nil hk hle
    refine AW_loop hR ?_
    unfold sautoirref16_Same_l0b
    simp -implicitDefEqProofs -dsimp only [go_sem, Nat.reduceEqDiff, Nat.reduceAdd, Nat.reduceMul, Nat.reduceSub, Nat.reduceLT, Nat.reduceLeDiff, Nat.reduceBEq, reduceIte, reduceCtorEq, Int.reduceLT, Int.reduceLE, Int.reduceEq, Int.reduceNeg, Int.reduceToNat, Int.reduceAdd, Int.reduceSub, hk', Int.lt_irrefl]
    rw [hk'] at h2
    exact h2
  | cons y ys ih =>
    intro k hk hle h2
    obtain ⟨hlt, hy, hk'⟩ := drop_lt hk
    have hl' := hl
    unfold Len at hl
    refine AW_loop hR ?_
    unfold sautoirref16_Same_l0b
    simp -implicitDefEqProofs -dsimp only [go_sem, Nat.reduceEqDiff, Nat.reduceAdd, Nat.reduceMul, Nat.reduceSub, Nat.reduceLT, Nat.reduceLeDiff, Nat.reduceBEq, reduceIte, reduceCtorEq, Int.reduceLT, Int.reduceLE, Int.reduceEq, Int.reduceNeg, Int.reduceToNat, Int.reduceAdd, Int.reduceSub, Int.ofNat_lt, hlt, Int.natCast_nonneg, Int.toNat_natCast, mem_at hy, Rf.cells, aggEq, scalarEq, decide_true, decide_false, Bool.true_and]
    rw [wrap_succ (by omega)]
    exact ih (k + 1) hk' hlt h2

theorem pc_Same (c : Rf) (k1 k2 : Option Nat) (hl : Len c.l.length) : PCalls prog f_sautoirref16_Same [.agg (c.cells k1), .agg (c.cells k2)] (.b true) := by
  refine pcalls_of mixed t_sautoirref16_Same (by simp) fun T => ?_
  unfold s_sautoirref16_Same
  simp -implicitDefEqProofs -dsimp only [go_sem, Nat.reduceEqDiff, Nat.reduceAdd, Nat.reduceMul, Nat.reduceSub, Nat.reduceLT, Nat.reduceLeDiff, Nat.reduceBEq, reduceIte, reduceCtorEq, Int.reduceLT, Int.reduceLE, Int.reduceEq, Int.reduceNeg, Int.reduceToNat, Int.reduceAdd, Int.reduceSub, Rf.cells, decide_true, decide_false]
  refine lp_Same (c := c) (k1 := k1) (k2 := k2) (by repeat' (first | exact finX_ext _ _ | assumption | apply blkR_ext | apply thenR_ext | apply AW_ext)) hl c.l 0 rfl (by omega) ?_
  simp -implicitDefEqProofs -dsimp only [go_sem, Nat.reduceEqDiff, Nat.reduceAdd, Nat.reduceMul, Nat.reduceSub, Nat.reduceLT, Nat.reduceLeDiff, Nat.reduceBEq, reduceIte, reduceCtorEq, Int.reduceLT, Int.reduceLE, Int.reduceEq, Int.reduceNeg, Int.reduceToNat, Int.reduceAdd, Int.reduceSub]
  exact finL_pure rfl

def Cf.turn (c : Cf) (kind n ep : Int) : Cf × Int := if kind = 0 then c.remove n ep else if kind = 1 then c.learn n ep else if kind = 2 then c.promote n ep else c.mark n
def Rf.turn (c : Rf) (kind n ep : Int) : Rf × Int := if kind = 0 then c.remove n ep else if kind = 1 then c.learn n ep else if kind = 2 then c.promote n ep else c.mark n

def turnR (r : Cf × Int) (s : Rf × Int) : AV := .tup [.agg (r.1.cells none none), .i .i64 r.2, .agg (s.1.cells none), .i .i64 s.2]

theorem pc_turn (c : Cf) (w : Rf) (k1 k2 k3 : Option Nat) (kind n ep : Int) (hl : Len c.ch.length) (hw : w.l.length < 1000000000) :
    PCalls prog f_sautoirlaw16_turn [.agg (c.cells k1 k2), .agg (w.cells k3), .i .i64 kind, .i .i64 n, .i .u64 ep] (turnR (c.turn kind n ep) (w.turn kind n ep)) := by
  refine pcalls_of mixed t_sautoirlaw16_turn (by simp) fun T => ?_
  unfold s_sautoirlaw16_turn
  have e0 := pc_Remove c k1 k2 n ep hl
  have e1 := pc_Learn c k1 k2 n ep hl
  have e2 := pc_Promote c k1 k2 n ep hl
  have e3 := pc_Mark c k1 k2 n hl
  have r0 := pc_RRemove w k3 n ep hw
  have r1 := pc_RLearn w k3 n ep hw
  have r2 := pc_RPromote w k3 n ep hw
  have r3 := pc_RMark w k3 n hw
  unfold Cf.ret at e0 e1 e2 e3
  unfold Rf.ret at r0 r1 r2 r3
  simp -implicitDefEqProofs -dsimp only [go_sem, Nat.reduceEqDiff, Nat.reduceAdd, Nat.reduceMul, Nat.reduceSub, Nat.reduceLT, Nat.reduceLeDiff, Nat.reduceBEq, reduceIte, reduceCtorEq, Int.reduceLT, Int.reduceLE, Int.reduceEq, Int.reduceNeg, Int.reduceToNat, Int.reduceAdd, Int.reduceSub, Cf.cells, Rf.cells]
  refine br_split (fun h0 => ?_) (fun h0 => ?_)
  · have q1 : c.turn kind n ep = c.remove n ep := by rw [Cf.turn, if_pos (of_decide_eq_true h0)]
    have q2 : w.turn kind n ep = w.remove n ep := by rw [Rf.turn, if_pos (of_decide_eq_true h0)]
    rw [q1, q2]
    simp -implicitDefEqProofs -dsimp only [go_sem, Nat.reduceEqDiff, Nat.reduceAdd, Nat.reduceMul, Nat.reduceSub, Nat.reduceLT, Nat.reduceLeDiff, Nat.reduceBEq, reduceIte, reduceCtorEq, Int.reduceLT, Int.reduceLE, Int.reduceEq, Int.reduceNeg, Int.reduceToNat, Int.reduceAdd, Int.reduceSub, h0, Cf.cells, Rf.cells, ↓g_call _ _ c_conf_Remove]
    refine CallK.pure e0 (aft_nil ?_)
    simp -implicitDefEqProofs -dsimp only [go_sem, Nat.reduceEqDiff, Nat.reduceAdd, Nat.reduceMul, Nat.reduceSub, Nat.reduceLT, Nat.reduceLeDiff, Nat.reduceBEq, reduceIte, reduceCtorEq, Int.reduceLT, Int.reduceLE, Int.reduceEq, Int.reduceNeg, Int.reduceToNat, Int.reduceAdd, Int.reduceSub, h0, Cf.cells, Rf.cells, ↓g_call _ _ c_sautoirref16_Remove]
    refine CallK.pure r0 (aft_nil ?_)
    simp -implicitDefEqProofs -dsimp only [go_sem, Nat.reduceEqDiff, Nat.reduceAdd, Nat.reduceMul, Nat.reduceSub, Nat.reduceLT, Nat.reduceLeDiff, Nat.reduceBEq, reduceIte, reduceCtorEq, Int.reduceLT, Int.reduceLE, Int.reduceEq, Int.reduceNeg, Int.reduceToNat, Int.reduceAdd, Int.reduceSub, h0, Cf.cells, Rf.cells]
    exact finL_pure rfl
  · simp -implicitDefEqProofs -dsimp only [go_sem, Nat.reduceEqDiff, Nat.reduceAdd, Nat.reduceMul, Nat.reduceSub, Nat.reduceLT, Nat.reduceLeDiff, Nat.reduceBEq, reduceIte, reduceCtorEq, Int.reduceLT, Int.reduceLE, Int.reduceEq, Int.reduceNeg, Int.reduceToNat, Int.reduceAdd, Int.reduceSub, h0, Cf.cells, Rf.cells]
    have d0 := of_decide_eq_false h0
    refine br_split (fun h1 => ?_) (fun h1 => ?_)
    · have q1 : c.turn kind n ep = c.learn n ep := by rw [Cf.turn, if_neg d0, if_pos (of_decide_eq_true h1)]
      have q2 : w.turn kind n ep = w.learn n ep := by rw [Rf.turn, if_neg d0, if_pos (of_decide_eq_true h1)]
      rw [q1, q2]
      simp -implicitDefEqProofs -dsimp only [go_sem, Nat.reduceEqDiff, Nat.reduceAdd, Nat.reduceMul, Nat.reduceSub, Nat.reduceLT, Nat.reduceLeDiff, Nat.reduceBEq, reduceIte, reduceCtorEq, Int.reduceLT, Int.reduceLE, Int.reduceEq, Int.reduceNeg, Int.reduceToNat, Int.reduceAdd, Int.reduceSub, h1, Cf.cells, Rf.cells, ↓g_call _ _ c_conf_Learn]
      refine CallK.pure e1 (aft_nil ?_)
      simp -implicitDefEqProofs -dsimp only [go_sem, Nat.reduceEqDiff, Nat.reduceAdd, Nat.reduceMul, Nat.reduceSub, Nat.reduceLT, Nat.reduceLeDiff, Nat.reduceBEq, reduceIte, reduceCtorEq, Int.reduceLT, Int.reduceLE, Int.reduceEq, Int.reduceNeg, Int.reduceToNat, Int.reduceAdd, Int.reduceSub, h1, Cf.cells, Rf.cells, ↓g_call _ _ c_sautoirref16_Learn]
      refine CallK.pure r1 (aft_nil ?_)
      simp -implicitDefEqProofs -dsimp only [go_sem, Nat.reduceEqDiff, Nat.reduceAdd, Nat.reduceMul, Nat.reduceSub, Nat.reduceLT, Nat.reduceLeDiff, Nat.reduceBEq, reduceIte, reduceCtorEq, Int.reduceLT, Int.reduceLE, Int.reduceEq, Int.reduceNeg, Int.reduceToNat, Int.reduceAdd, Int.reduceSub, h1, Cf.cells, Rf.cells]
      exact finL_pure rfl
    · simp -implicitDefEqProofs -dsimp only [go_sem, Nat.reduceEqDiff, Nat.reduceAdd, Nat.reduceMul, Nat.reduceSub, Nat.reduceLT, Nat.reduceLeDiff, Nat.reduceBEq, reduceIte, reduceCtorEq, Int.reduceLT, Int.reduceLE, Int.reduceEq, Int.reduceNeg, Int.reduceToNat, Int.reduceAdd, Int.reduceSub, h1, Cf.cells, Rf.cells]
      have d1 := of_decide_eq_false h1
      refine br_split (fun h2 => ?_) (fun h2 => ?_)
      · have q1 : c.turn kind n ep = c.promote n ep := by rw [Cf.turn, if_neg d0, if_neg d1, if_pos (of_decide_eq_true h2)]
        have q2 : w.turn kind n ep = w.promote n ep := by rw [Rf.turn, if_neg d0, if_neg d1, if_pos (of_decide_eq_true h2)]
        rw [q1, q2]
        simp -implicitDefEqProofs -dsimp only [go_sem, Nat.reduceEqDiff, Nat.reduceAdd, Nat.reduceMul, Nat.reduceSub, Nat.reduceLT, Nat.reduceLeDiff, Nat.reduceBEq, reduceIte, reduceCtorEq, Int.reduceLT, Int.reduceLE, Int.reduceEq, Int.reduceNeg, Int.reduceToNat, Int.reduceAdd, Int.reduceSub, h2, Cf.cells, Rf.cells, ↓g_call _ _ c_conf_Promote]
        refine CallK.pure e2 (aft_nil ?_)
        simp -implicitDefEqProofs -dsimp only [go_sem, Nat.reduceEqDiff, Nat.reduceAdd, Nat.reduceMul, Nat.reduceSub, Nat.reduceLT, Nat.reduceLeDiff, Nat.reduceBEq, reduceIte, reduceCtorEq, Int.reduceLT, Int.reduceLE, Int.reduceEq, Int.reduceNeg, Int.reduceToNat, Int.reduceAdd, Int.reduceSub, h2, Cf.cells, Rf.cells, ↓g_call _ _ c_sautoirref16_Promote]
        refine CallK.pure r2 (aft_nil ?_)
        simp -implicitDefEqProofs -dsimp only [go_sem, Nat.reduceEqDiff, Nat.reduceAdd, Nat.reduceMul, Nat.reduceSub, Nat.reduceLT, Nat.reduceLeDiff, Nat.reduceBEq, reduceIte, reduceCtorEq, Int.reduceLT, Int.reduceLE, Int.reduceEq, Int.reduceNeg, Int.reduceToNat, Int.reduceAdd, Int.reduceSub, h2, Cf.cells, Rf.cells]
        exact finL_pure rfl
      · have d2 := of_decide_eq_false h2
        have q1 : c.turn kind n ep = c.mark n := by rw [Cf.turn, if_neg d0, if_neg d1, if_neg d2]
        have q2 : w.turn kind n ep = w.mark n := by rw [Rf.turn, if_neg d0, if_neg d1, if_neg d2]
        rw [q1, q2]
        simp -implicitDefEqProofs -dsimp only [go_sem, Nat.reduceEqDiff, Nat.reduceAdd, Nat.reduceMul, Nat.reduceSub, Nat.reduceLT, Nat.reduceLeDiff, Nat.reduceBEq, reduceIte, reduceCtorEq, Int.reduceLT, Int.reduceLE, Int.reduceEq, Int.reduceNeg, Int.reduceToNat, Int.reduceAdd, Int.reduceSub, h2, Cf.cells, Rf.cells, ↓g_call _ _ c_conf_Mark]
        refine CallK.pure e3 (aft_nil ?_)
        simp -implicitDefEqProofs -dsimp only [go_sem, Nat.reduceEqDiff, Nat.reduceAdd, Nat.reduceMul, Nat.reduceSub, Nat.reduceLT, Nat.reduceLeDiff, Nat.reduceBEq, reduceIte, reduceCtorEq, Int.reduceLT, Int.reduceLE, Int.reduceEq, Int.reduceNeg, Int.reduceToNat, Int.reduceAdd, Int.reduceSub, h2, Cf.cells, Rf.cells, ↓g_call _ _ c_sautoirref16_Mark]
        refine CallK.pure r3 (aft_nil ?_)
        simp -implicitDefEqProofs -dsimp only [go_sem, Nat.reduceEqDiff, Nat.reduceAdd, Nat.reduceMul, Nat.reduceSub, Nat.reduceLT, Nat.reduceLeDiff, Nat.reduceBEq, reduceIte, reduceCtorEq, Int.reduceLT, Int.reduceLE, Int.reduceEq, Int.reduceNeg, Int.reduceToNat, Int.reduceAdd, Int.reduceSub, h2, Cf.cells, Rf.cells]
        exact finL_pure rfl
end Go.Aw
