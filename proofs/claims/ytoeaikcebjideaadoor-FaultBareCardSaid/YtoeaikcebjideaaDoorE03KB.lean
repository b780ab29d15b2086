import Derived.Test.YtoeaikcebjideaaDoorE03K
namespace Go.Aw
open Go
open Go.Proofs.Tryd (prog)
open Go.Proofs
set_option linter.all false
set_option maxHeartbeats 4000000

theorem lp_wrap {R : RPost} (hR : ExtR R) {T : Tab} {l : List (List UInt8)} {cap : Option Nat} (hl : Len l.length) : ∀ (ys : List (List UInt8)) (k : Nat), l.drop k = ys → k ≤ l.length → ∀ (e : Option Er),
    (∀ tail, R (.exit 0) ((5, erAv (wrapF ys e)) :: tail) [] T) → AW prog sautoirlaw03_wrap_l0 R [(5, erAv e), (14, .fz l.length (strs l) cap), (15, .i .i64 l.length), (16, .i .i64 k)] [] T := by
  unfold Len at hl
  intro ys
  induction ys with
  | nil =>
    intro k hk hle e h2
    have hk' := drop_nil hk hle
    obtain ⟨p1, p2, p3, p4, p5, p6⟩ := erAv_form e
    refine AW_loop hR ?_
    unfold sautoirlaw03_wrap_l0b
    simp -implicitDefEqProofs -dsimp only [go_sem, Nat.reduceEqDiff, Nat.reduceAdd, Nat.reduceMul, Nat.reduceSub, Nat.reduceLT, Nat.reduceLeDiff, Nat.reduceBEq, reduceIte, reduceCtorEq, Int.reduceLT, Int.reduceLE, Int.reduceEq, Int.reduceNeg, Int.reduceToNat, Int.reduceAdd, Int.reduceSub, hk', Int.lt_irrefl, p1, p2, p3, p4, p5, p6]
    exact h2 _
  | cons y ys ih =>
    intro k hk hle e h2
    obtain ⟨hlt, hy, hk'⟩ := drop_lt hk
    have hws : IntKind.i64.wrap ((k : Int) + 1) = ((k + 1 : Nat) : Int) := wrap_succ (by omega)
    have hc := strs_at hy
    have cI := pc_In y e
    obtain ⟨p1, p2, p3, p4, p5, p6⟩ := erAv_form e
    obtain ⟨q1, q2, q3, q4, q5, q6⟩ := erAv_form (erIn y e)
    refine AW_loopD (l := sautoirlaw03_wrap_l0) rfl hR ?_
    unfold sautoirlaw03_wrap_l0b
    simp -implicitDefEqProofs -dsimp only [go_sem, Nat.reduceEqDiff, Nat.reduceAdd, Nat.reduceMul, Nat.reduceSub, Nat.reduceLT, Nat.reduceLeDiff, Nat.reduceBEq, reduceIte, reduceCtorEq, Int.reduceLT, Int.reduceLE, Int.reduceEq, Int.reduceNeg, Int.reduceToNat, Int.reduceAdd, Int.reduceSub, Int.ofNat_lt, hlt, Int.natCast_nonneg, Int.toNat_natCast, Nat.mul_one, hc, p1, p2, p3, p4, p5, p6, ↓g_call _ _ c_fault_In]
    refine CallK.pure cI (aft_nil ?_)
    simp -implicitDefEqProofs -dsimp only [go_sem, Nat.reduceEqDiff, Nat.reduceAdd, Nat.reduceMul, Nat.reduceSub, Nat.reduceLT, Nat.reduceLeDiff, Nat.reduceBEq, reduceIte, reduceCtorEq, Int.reduceLT, Int.reduceLE, Int.reduceEq, Int.reduceNeg, Int.reduceToNat, Int.reduceAdd, Int.reduceSub, q1, q2, q3, q4, q5, q6, hws]
    exact ih (k + 1) hk' hlt (erIn y e) h2
end Go.Aw
