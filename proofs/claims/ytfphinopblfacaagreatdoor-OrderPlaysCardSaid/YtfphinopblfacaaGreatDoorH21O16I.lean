import Derived.Test.YtfphinopblfacaaGreatDoorH21O16A
namespace Go.Aw
open Go
open Go.Proofs.Tryz (prog)
set_option linter.all false
set_option maxHeartbeats 4000000

theorem ac_Done {T : Tab} {id : Nat} {s : RS} (h : T id = rdRow s) : ACalls prog f_octet_Reader_Done [.ptr id 0] T (fun v T' => v = .b (!s.2 && decide (s.1 = [])) ∧ T' = T) := by
  refine acalls_of mixed t_octet_Reader_Done (by simp) ?_
  have hr : T id = .row 2 [bts s.1 none, .b s.2] := h
  have d : decide ((s.1.length : Int) = 0) = decide (s.1 = []) := decide_eq_decide.2 (by rw [← List.length_eq_zero_iff]; omega)
  unfold s_octet_Reader_Done
  simp -implicitDefEqProofs -dsimp only [go_sem, Nat.reduceEqDiff, Nat.reduceAdd, Nat.reduceMul, Nat.reduceSub, Nat.reduceLT, Nat.reduceLeDiff, Nat.reduceBEq, reduceIte, reduceCtorEq, Int.reduceLT, Int.reduceLE, Int.reduceEq, Int.reduceNeg, Int.reduceToNat, Int.reduceAdd, Int.reduceSub, ↓g_call _ _ c_octet_Reader_Bad]
  refine CallK.as (at_Bad h) (aft_nil ?_)
  rcases hb : s.2 with _ | _
  · simp -implicitDefEqProofs -dsimp only [go_sem, Nat.reduceEqDiff, Nat.reduceAdd, Nat.reduceMul, Nat.reduceSub, Nat.reduceLT, Nat.reduceLeDiff, Nat.reduceBEq, reduceIte, reduceCtorEq, Int.reduceLT, Int.reduceLE, Int.reduceEq, Int.reduceNeg, Int.reduceToNat, Int.reduceAdd, Int.reduceSub, hb, hr, bts, d]
    exact finL_pure rfl
  · simp -implicitDefEqProofs -dsimp only [go_sem, Nat.reduceEqDiff, Nat.reduceAdd, Nat.reduceMul, Nat.reduceSub, Nat.reduceLT, Nat.reduceLeDiff, Nat.reduceBEq, reduceIte, reduceCtorEq, Int.reduceLT, Int.reduceLE, Int.reduceEq, Int.reduceNeg, Int.reduceToNat, Int.reduceAdd, Int.reduceSub, hb]
    exact finL_pure rfl
end Go.Aw
