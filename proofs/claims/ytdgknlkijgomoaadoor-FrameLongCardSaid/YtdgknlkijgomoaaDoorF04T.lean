import Derived.Test.YtdgknlkijgomoaaDoorF04S
namespace Go.Aw
open Go
open Go.Proofs.Tryd (prog)
set_option linter.all false
set_option maxHeartbeats 4000000

theorem pc_awake : PCalls prog f_sautoirlaw04_awake [] (.b true) := by
  refine pcalls_of mixed t_sautoirlaw04_awake (by simp) fun T => ?_
  have h := pc_Put [7] (some 1) (by simp)
  have e1 : putR [7] = .tup [bts (frm [7]) none, .i .i64 0] := rfl
  have e2 : (frm [7]).length = 8 := rfl
  have e3 : (byteCells (frm [7]))[0]? = some (.i .u8 197) := rfl
  have e4 : ((byteCells (frm [7])).drop 2)[0]? = some (.i .u8 1) := rfl
  rw [e1] at h
  simp only [bts, e2, List.length_cons, List.length_nil, Nat.zero_add] at h
  unfold s_sautoirlaw04_awake
  simp -implicitDefEqProofs -dsimp only [go_sem, Nat.reduceEqDiff, Nat.reduceAdd, Nat.reduceMul, Nat.reduceSub, Nat.reduceLT, Nat.reduceLeDiff, Nat.reduceBEq, reduceIte, reduceCtorEq, Int.reduceLT, Int.reduceLE, Int.reduceEq, Int.reduceNeg, Int.reduceToNat, Int.reduceAdd, Int.reduceSub, ↓g_call _ _ c_frame_Put]
  refine CallK.pure h (aft_nil ?_)
  simp -implicitDefEqProofs -dsimp only [go_sem, Nat.reduceEqDiff, Nat.reduceAdd, Nat.reduceMul, Nat.reduceSub, Nat.reduceLT, Nat.reduceLeDiff, Nat.reduceBEq, reduceIte, reduceCtorEq, Int.reduceLT, Int.reduceLE, Int.reduceEq, Int.reduceNeg, Int.reduceToNat, Int.reduceAdd, Int.reduceSub, show ((8 : Nat) : Int) = 8 from rfl, show (2 : Int).toNat = 2 from rfl, Int.toNat_zero, List.drop_zero, decide_true, e3, e4]
  exact finL_pure rfl

def fewL (b : List UInt8) : List UInt8 := b.take 200
theorem few_len (b : List UInt8) : (fewL b).length ≤ 200 := by unfold fewL; rw [List.length_take]; omega
theorem pc_few (b : List UInt8) (cap : Option Nat) (hl : Len b.length) : PCalls prog f_sautoirlaw04_few [bts b cap] (bts (fewL b) none) := by
  refine pcalls_of mixed t_sautoirlaw04_few (by simp) fun T => ?_
  unfold s_sautoirlaw04_few
  by_cases h : 200 < b.length
  · have d : decide ((200 : Int) < b.length) = true := decide_eq_true (by omega)
    have h2 : 200 ≤ b.length := by omega
    have e : (fewL b).length = 200 := by unfold fewL; rw [List.length_take]; omega
    simp -implicitDefEqProofs -dsimp only [go_sem, Nat.reduceEqDiff, Nat.reduceAdd, Nat.reduceMul, Nat.reduceSub, Nat.reduceLT, Nat.reduceLeDiff, Nat.reduceBEq, reduceIte, reduceCtorEq, Int.reduceLT, Int.reduceLE, Int.reduceEq, Int.reduceNeg, Int.reduceToNat, Int.reduceAdd, Int.reduceSub, d, bts, h2, byteCells_take]
    rw [e]
    exact fin_as .fz rfl
  · have d : decide ((200 : Int) < b.length) = false := decide_eq_false (by omega)
    have e : fewL b = b := List.take_of_length_le (by omega)
    simp -implicitDefEqProofs -dsimp only [go_sem, Nat.reduceEqDiff, Nat.reduceAdd, Nat.reduceMul, Nat.reduceSub, Nat.reduceLT, Nat.reduceLeDiff, Nat.reduceBEq, reduceIte, reduceCtorEq, Int.reduceLT, Int.reduceLE, Int.reduceEq, Int.reduceNeg, Int.reduceToNat, Int.reduceAdd, Int.reduceSub, d]
    rw [e]
    exact fin_as .fz rfl
end Go.Aw
