import Derived.Test.YtfphinopblfacaaGreatDoorH21T16M
import Derived.Test.YtfphinopblfacaaGreatDoorH21T16J
namespace Go.Aw
open Go
open Go.Proofs.Tryz (prog)
set_option linter.all false
set_option maxHeartbeats 4000000

theorem lp_Same {R : RPost} (hR : ExtR R) {T : Tab} {c : Rf} {k1 k2 : Option Nat} (hl : Len c.l.length) : ∀ (ys : List (Int × Bool)) (k : Nat), c.l.drop k = ys → k ≤ c.l.length →
    R (.exit 0) [(2, .lp 2 0), (3, .lp 3 0), (36, .i .i64 c.l.length), (37, .i .i64 c.l.length), (38, .b false)] [(2, c.cells k1), (3, c.cells k2)] T →
    AW prog sautoirref16_Same_l0 R [(2, .lp 2 0), (3, .lp 3 0), (36, .i .i64 c.l.length), (37, .i .i64 k)] [(2, c.cells k1), (3, c.cells k2)] T := by
  intro ys
  induction ys with
  | nil =>
    intro k hk hle h2
    have hk' := drop_nil hk hle
    refine AW_loop hR ?_
    unfold sautoirref16_Same_l0b
    simp -implicitDefEqProofs -dsimp only [go_sem, Nat.reduceEqDiff, Nat.reduceAdd, Nat.reduceMul, Nat.reduceSub, Nat.reduceLT, Nat.reduceLeDiff, Nat.reduceBEq, reduceIte, reduceCtorEq, Int.reduceLT, Int.reduceLE, Int.reduceEq, Int.reduceNeg, Int.reduceToNat, Int.reduceAdd, Int.reduceSub, hk', Int.lt_irrefl]
    rw [hk'] at h2
    exact h2
  | cons y ys ih =>
    intro k hk hle h2
    obtain ⟨hlt, hy, hk'⟩ := drop_lt hk
    have hl' := hl
    unfold Len at hl
    refine AW_loop hR ?_
    unfold sautoirref16_Same_l0b
    simp -implicitDefEqProofs -dsimp only [go_sem, Nat.reduceEqDiff, Nat.reduceAdd, Nat.reduceMul, Nat.reduceSub, Nat.reduceLT, Nat.reduceLeDiff, Nat.reduceBEq, reduceIte, reduceCtorEq, Int.reduceLT, Int.reduceLE, Int.reduceEq, Int.reduceNeg, Int.reduceToNat, Int.reduceAdd, Int.reduceSub, Int.ofNat_lt, hlt, Int.natCast_nonneg, Int.toNat_natCast, mem_at hy, Rf.cells, aggEq, scalarEq, decide_true, decide_false, Bool.true_and]
    rw [wrap_succ (by omega)]
    exact ih (k + 1) hk' hlt h2

theorem pc_Same (c : Rf) (k1 k2 : Option Nat) (hl : Len c.l.length) : PCalls prog f_sautoirref16_Same [.agg (c.cells k1), .agg (c.cells k2)] (.b true) := by
  refine pcalls_of mixed t_sautoirref16_Same (by simp) fun T => ?_
  unfold s_sautoirref16_Same
  simp -implicitDefEqProofs -dsimp only [go_sem, Nat.reduceEqDiff, Nat.reduceAdd, Nat.reduceMul, Nat.reduceSub, Nat.reduceLT, Nat.reduceLeDiff, Nat.reduceBEq, reduceIte, reduceCtorEq, Int.reduceLT, Int.reduceLE, Int.reduceEq, Int.reduceNeg, Int.reduceToNat, Int.reduceAdd, Int.reduceSub, Rf.cells, decide_true, decide_false]
  refine lp_Same (c := c) (k1 := k1) (k2 := k2) (by repeat' (first | exact finX_ext _ _ | assumption | apply blkR_ext | apply thenR_ext | apply AW_ext)) hl c.l 0 rfl (by omega) ?_
  simp -implicitDefEqProofs -dsimp only [go_sem, Nat.reduceEqDiff, Nat.reduceAdd, Nat.reduceMul, Nat.reduceSub, Nat.reduceLT, Nat.reduceLeDiff, Nat.reduceBEq, reduceIte, reduceCtorEq, Int.reduceLT, Int.reduceLE, Int.reduceEq, Int.reduceNeg, Int.reduceToNat, Int.reduceAdd, Int.reduceSub]
  exact finL_pure rfl

def Cf.turn (c : Cf) (kind n ep : Int) : Cf × Int := if kind = 0 then c.remove n ep else if kind = 1 then c.learn n ep else if kind = 2 then c.promote n ep else c.mark n
def Rf.turn (c : Rf) (kind n ep : Int) : Rf × Int := if kind = 0 then c.remove n ep else if kind = 1 then c.learn n ep else if kind = 2 then c.promote n ep else c.mark n

def turnR (r : Cf × Int) (s : Rf × Int) : AV := .tup [.agg (r.1.cells none none), .i .i64 r.2, .agg (s.1.cells none), .i .i64 s.2]

end Go.Aw
