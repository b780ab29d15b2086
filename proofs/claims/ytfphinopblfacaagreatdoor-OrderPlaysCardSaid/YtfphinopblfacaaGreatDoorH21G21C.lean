import Derived.Test.YtfphinopblfacaaGreatDoorH21G21B
import Derived.Test.YtfphinopblfacaaGreatDoorH21F04H
import Derived.Test.YtfphinopblfacaaGreatDoorAwD
namespace Go.Aw
open Go
open Go.Proofs.Tryz (prog)
set_option linter.all false
set_option maxHeartbeats 4000000

/-! Commands. -/
structure Cm where
  k : Int
  sh : Int
  ep : Int
  nd : Int
def Cm.cells (c : Cm) : List AV := [.i .i64 c.k, .i .i64 c.sh, .i .u64 c.ep, .i .i64 c.nd]
def Cm.ok (c : Cm) : Bool := decide (1 ≤ c.k ∧ c.k ≤ 4 ∧ 0 ≤ c.sh ∧ c.sh ≤ 3 ∧ 0 < c.ep ∧ 0 ≤ c.nd ∧ c.nd ≤ 7)
theorem finL_b {T : Tab} {x y : Bool} (h : x = y) : finL (.b x) (fun v T' => v = .b y ∧ T' = T) T := by subst h; exact finL_pure rfl
theorem pc_oright (c : Cm) : PCalls prog f_order_right [.agg c.cells] (.b c.ok) := by
  refine pcalls_of mixed t_order_right (by simp) fun T => ?_
  unfold s_order_right
  simp -implicitDefEqProofs -dsimp only [go_sem, Nat.reduceEqDiff, Nat.reduceAdd, Nat.reduceMul, Nat.reduceSub, Nat.reduceLT, Nat.reduceLeDiff, Nat.reduceBEq, reduceIte, reduceCtorEq, Int.reduceLT, Int.reduceLE, Int.reduceEq, Int.reduceNeg, Int.reduceToNat, Int.reduceAdd, Int.reduceSub, Cm.cells, decide_true, decide_false]
  (first | (refine br_split (fun h_1 => ?_) (fun h_1 => ?_) <;> simp -implicitDefEqProofs -dsimp only [go_sem, Nat.reduceEqDiff, Nat.reduceAdd, Nat.reduceMul, Nat.reduceSub, Nat.reduceLT, Nat.reduceLeDiff, Nat.reduceBEq, reduceIte, reduceCtorEq, Int.reduceLT, Int.reduceLE, Int.reduceEq, Int.reduceNeg, Int.reduceToNat, Int.reduceAdd, Int.reduceSub, decide_true, decide_false, h_1]) | (have h_1 := trivial)) <;>
    (first | (refine br_split (fun h_2 => ?_) (fun h_2 => ?_) <;> simp -implicitDefEqProofs -dsimp only [go_sem, Nat.reduceEqDiff, Nat.reduceAdd, Nat.reduceMul, Nat.reduceSub, Nat.reduceLT, Nat.reduceLeDiff, Nat.reduceBEq, reduceIte, reduceCtorEq, Int.reduceLT, Int.reduceLE, Int.reduceEq, Int.reduceNeg, Int.reduceToNat, Int.reduceAdd, Int.reduceSub, decide_true, decide_false, h_1, h_2]) | (have h_2 := trivial)) <;>
    (first | (refine br_split (fun h_3 => ?_) (fun h_3 => ?_) <;> simp -implicitDefEqProofs -dsimp only [go_sem, Nat.reduceEqDiff, Nat.reduceAdd, Nat.reduceMul, Nat.reduceSub, Nat.reduceLT, Nat.reduceLeDiff, Nat.reduceBEq, reduceIte, reduceCtorEq, Int.reduceLT, Int.reduceLE, Int.reduceEq, Int.reduceNeg, Int.reduceToNat, Int.reduceAdd, Int.reduceSub, decide_true, decide_false, h_1, h_2, h_3]) | (have h_3 := trivial)) <;>
    (first | (refine br_split (fun h_4 => ?_) (fun h_4 => ?_) <;> simp -implicitDefEqProofs -dsimp only [go_sem, Nat.reduceEqDiff, Nat.reduceAdd, Nat.reduceMul, Nat.reduceSub, Nat.reduceLT, Nat.reduceLeDiff, Nat.reduceBEq, reduceIte, reduceCtorEq, Int.reduceLT, Int.reduceLE, Int.reduceEq, Int.reduceNeg, Int.reduceToNat, Int.reduceAdd, Int.reduceSub, decide_true, decide_false, h_1, h_2, h_3, h_4]) | (have h_4 := trivial)) <;>
    (first | (refine br_split (fun h_5 => ?_) (fun h_5 => ?_) <;> simp -implicitDefEqProofs -dsimp only [go_sem, Nat.reduceEqDiff, Nat.reduceAdd, Nat.reduceMul, Nat.reduceSub, Nat.reduceLT, Nat.reduceLeDiff, Nat.reduceBEq, reduceIte, reduceCtorEq, Int.reduceLT, Int.reduceLE, Int.reduceEq, Int.reduceNeg, Int.reduceToNat, Int.reduceAdd, Int.reduceSub, decide_true, decide_false, h_1, h_2, h_3, h_4, h_5]) | (have h_5 := trivial)) <;>
    (first | (refine br_split (fun h_6 => ?_) (fun h_6 => ?_) <;> simp -implicitDefEqProofs -dsimp only [go_sem, Nat.reduceEqDiff, Nat.reduceAdd, Nat.reduceMul, Nat.reduceSub, Nat.reduceLT, Nat.reduceLeDiff, Nat.reduceBEq, reduceIte, reduceCtorEq, Int.reduceLT, Int.reduceLE, Int.reduceEq, Int.reduceNeg, Int.reduceToNat, Int.reduceAdd, Int.reduceSub, decide_true, decide_false, h_1, h_2, h_3, h_4, h_5, h_6]) | (have h_6 := trivial)) <;>
    (first | (refine br_split (fun h_7 => ?_) (fun h_7 => ?_) <;> simp -implicitDefEqProofs -dsimp only [go_sem, Nat.reduceEqDiff, Nat.reduceAdd, Nat.reduceMul, Nat.reduceSub, Nat.reduceLT, Nat.reduceLeDiff, Nat.reduceBEq, reduceIte, reduceCtorEq, Int.reduceLT, Int.reduceLE, Int.reduceEq, Int.reduceNeg, Int.reduceToNat, Int.reduceAdd, Int.reduceSub, decide_true, decide_false, h_1, h_2, h_3, h_4, h_5, h_6, h_7]) | (have h_7 := trivial))
  all_goals
    refine finL_b ?_
    rw [Cm.ok, Bool.eq_iff_iff, decide_eq_true_iff]
    simp only [decide_eq_true_eq, decide_eq_false_iff_not, Bool.false_eq_true, true_iff, false_iff, iff_true] at *
    omega
theorem pc_rright (c : Cm) (he : 0 ≤ c.ep) : PCalls prog f_sautoirref21_Right [.agg c.cells] (.b c.ok) := by
  refine pcalls_of mixed t_sautoirref21_Right (by simp) fun T => ?_
  unfold s_sautoirref21_Right
  simp -implicitDefEqProofs -dsimp only [go_sem, Nat.reduceEqDiff, Nat.reduceAdd, Nat.reduceMul, Nat.reduceSub, Nat.reduceLT, Nat.reduceLeDiff, Nat.reduceBEq, reduceIte, reduceCtorEq, Int.reduceLT, Int.reduceLE, Int.reduceEq, Int.reduceNeg, Int.reduceToNat, Int.reduceAdd, Int.reduceSub, Cm.cells, decide_true, decide_false]
  (first | (refine br_split (fun h_1 => ?_) (fun h_1 => ?_) <;> simp -implicitDefEqProofs -dsimp only [go_sem, Nat.reduceEqDiff, Nat.reduceAdd, Nat.reduceMul, Nat.reduceSub, Nat.reduceLT, Nat.reduceLeDiff, Nat.reduceBEq, reduceIte, reduceCtorEq, Int.reduceLT, Int.reduceLE, Int.reduceEq, Int.reduceNeg, Int.reduceToNat, Int.reduceAdd, Int.reduceSub, decide_true, decide_false, h_1]) | (have h_1 := trivial)) <;>
    (first | (refine br_split (fun h_2 => ?_) (fun h_2 => ?_) <;> simp -implicitDefEqProofs -dsimp only [go_sem, Nat.reduceEqDiff, Nat.reduceAdd, Nat.reduceMul, Nat.reduceSub, Nat.reduceLT, Nat.reduceLeDiff, Nat.reduceBEq, reduceIte, reduceCtorEq, Int.reduceLT, Int.reduceLE, Int.reduceEq, Int.reduceNeg, Int.reduceToNat, Int.reduceAdd, Int.reduceSub, decide_true, decide_false, h_1, h_2]) | (have h_2 := trivial)) <;>
    (first | (refine br_split (fun h_3 => ?_) (fun h_3 => ?_) <;> simp -implicitDefEqProofs -dsimp only [go_sem, Nat.reduceEqDiff, Nat.reduceAdd, Nat.reduceMul, Nat.reduceSub, Nat.reduceLT, Nat.reduceLeDiff, Nat.reduceBEq, reduceIte, reduceCtorEq, Int.reduceLT, Int.reduceLE, Int.reduceEq, Int.reduceNeg, Int.reduceToNat, Int.reduceAdd, Int.reduceSub, decide_true, decide_false, h_1, h_2, h_3]) | (have h_3 := trivial)) <;>
    (first | (refine br_split (fun h_4 => ?_) (fun h_4 => ?_) <;> simp -implicitDefEqProofs -dsimp only [go_sem, Nat.reduceEqDiff, Nat.reduceAdd, Nat.reduceMul, Nat.reduceSub, Nat.reduceLT, Nat.reduceLeDiff, Nat.reduceBEq, reduceIte, reduceCtorEq, Int.reduceLT, Int.reduceLE, Int.reduceEq, Int.reduceNeg, Int.reduceToNat, Int.reduceAdd, Int.reduceSub, decide_true, decide_false, h_1, h_2, h_3, h_4]) | (have h_4 := trivial)) <;>
    (first | (refine br_split (fun h_5 => ?_) (fun h_5 => ?_) <;> simp -implicitDefEqProofs -dsimp only [go_sem, Nat.reduceEqDiff, Nat.reduceAdd, Nat.reduceMul, Nat.reduceSub, Nat.reduceLT, Nat.reduceLeDiff, Nat.reduceBEq, reduceIte, reduceCtorEq, Int.reduceLT, Int.reduceLE, Int.reduceEq, Int.reduceNeg, Int.reduceToNat, Int.reduceAdd, Int.reduceSub, decide_true, decide_false, h_1, h_2, h_3, h_4, h_5]) | (have h_5 := trivial)) <;>
    (first | (refine br_split (fun h_6 => ?_) (fun h_6 => ?_) <;> simp -implicitDefEqProofs -dsimp only [go_sem, Nat.reduceEqDiff, Nat.reduceAdd, Nat.reduceMul, Nat.reduceSub, Nat.reduceLT, Nat.reduceLeDiff, Nat.reduceBEq, reduceIte, reduceCtorEq, Int.reduceLT, Int.reduceLE, Int.reduceEq, Int.reduceNeg, Int.reduceToNat, Int.reduceAdd, Int.reduceSub, decide_true, decide_false, h_1, h_2, h_3, h_4, h_5, h_6]) | (have h_6 := trivial)) <;>
    (first | (refine br_split (fun h_7 => ?_) (fun h_7 => ?_) <;> simp -implicitDefEqProofs -dsimp only [go_sem, Nat.reduceEqDiff, Nat.reduceAdd, Nat.reduceMul, Nat.reduceSub, Nat.reduceLT, Nat.reduceLeDiff, Nat.reduceBEq, reduceIte, reduceCtorEq, Int.reduceLT, Int.reduceLE, Int.reduceEq, Int.reduceNeg, Int.reduceToNat, Int.reduceAdd, Int.reduceSub, decide_true, decide_false, h_1, h_2, h_3, h_4, h_5, h_6, h_7]) | (have h_7 := trivial))
  all_goals
    refine finL_b ?_
    rw [Cm.ok, Bool.eq_iff_iff]
    simp only [decide_eq_true_eq, decide_eq_false_iff_not, Bool.false_eq_true, true_iff, false_iff, iff_true, Bool.not_eq_true', Bool.not_eq_false'] at *
    omega

def wr4 (c : Cm) : List UInt8 := enc c.k.toNat ++ enc c.sh.toNat ++ enc c.ep.toNat ++ enc c.nd.toNat
def cPut (c : Cm) : AV := if c.ok = true then .tup [.s (wr4 c), .i .i64 0] else .tup [.s [], .i .i64 1]
theorem enc_le10 {n : Nat} (h : n < 18446744073709551616) : (enc n).length ≤ 10 := enc_len10 h
theorem wrap_u64i {n : Int} (h0 : 0 ≤ n) (h : n < 18446744073709551616) : IntKind.u64.wrap n = (n.toNat : Int) := by rw [IntWalk.u64_in _ (by omega)]; omega
theorem pc_oPut4 (c : Cm) (he : c.ep < 18446744073709551616) : PCalls prog f_order_Put [.agg c.cells] (cPut c) := by
  refine pcalls_of mixed t_order_Put (by simp) fun T => ?_
  unfold s_order_Put
  have cr := pc_oright c
  simp only [Cm.cells] at cr
  simp -implicitDefEqProofs -dsimp only [go_sem, Nat.reduceEqDiff, Nat.reduceAdd, Nat.reduceMul, Nat.reduceSub, Nat.reduceLT, Nat.reduceLeDiff, Nat.reduceBEq, reduceIte, reduceCtorEq, Int.reduceLT, Int.reduceLE, Int.reduceEq, Int.reduceNeg, Int.reduceToNat, Int.reduceAdd, Int.reduceSub, Cm.cells, ↓g_call _ _ c_order_right]
  refine CallK.pure cr (aft_nil ?_)
  rcases hok : c.ok with _ | _
  · simp -implicitDefEqProofs -dsimp only [go_sem, Nat.reduceEqDiff, Nat.reduceAdd, Nat.reduceMul, Nat.reduceSub, Nat.reduceLT, Nat.reduceLeDiff, Nat.reduceBEq, reduceIte, reduceCtorEq, Int.reduceLT, Int.reduceLE, Int.reduceEq, Int.reduceNeg, Int.reduceToNat, Int.reduceAdd, Int.reduceSub, hok, Bool.not_false]
    rw [cPut, hok]
    exact finL_pure rfl
  have hh := of_decide_eq_true hok
  have w1 := wrap_u64i (n := c.k) (by omega) (by omega)
  have w2 := wrap_u64i (n := c.sh) (by omega) (by omega)
  have w3 : c.ep = (c.ep.toNat : Int) := by omega
  have w4 := wrap_u64i (n := c.nd) (by omega) (by omega)
  have l1 := enc_le10 (n := c.k.toNat) (by omega)
  have l2 := enc_le10 (n := c.sh.toNat) (by omega)
  have l3 := enc_le10 (n := c.ep.toNat) (by omega)
  have c1 := pc_oPut [] (some 0) c.k.toNat (by simp) (by omega)
  have c2 := pc_oPut ([] ++ enc c.k.toNat) none c.sh.toNat (by simp only [List.length_append, List.length_nil]; omega) (by omega)
  have c3 := pc_oPut ([] ++ enc c.k.toNat ++ enc c.sh.toNat) none c.ep.toNat (by simp only [List.length_append, List.length_nil]; omega) (by omega)
  have c4 := pc_oPut ([] ++ enc c.k.toNat ++ enc c.sh.toNat ++ enc c.ep.toNat) none c.nd.toNat (by simp only [List.length_append, List.length_nil]; omega) (by omega)
  rw [← w3] at c3
  simp -implicitDefEqProofs -dsimp only [go_sem, Nat.reduceEqDiff, Nat.reduceAdd, Nat.reduceMul, Nat.reduceSub, Nat.reduceLT, Nat.reduceLeDiff, Nat.reduceBEq, reduceIte, reduceCtorEq, Int.reduceLT, Int.reduceLE, Int.reduceEq, Int.reduceNeg, Int.reduceToNat, Int.reduceAdd, Int.reduceSub, hok, Bool.not_true, w1, w2, ↓g_call _ _ c_octet_Put]
  refine CallK.pure c1 (aft_nil ?_)
  simp -implicitDefEqProofs -dsimp only [go_sem, Nat.reduceEqDiff, Nat.reduceAdd, Nat.reduceMul, Nat.reduceSub, Nat.reduceLT, Nat.reduceLeDiff, Nat.reduceBEq, reduceIte, reduceCtorEq, Int.reduceLT, Int.reduceLE, Int.reduceEq, Int.reduceNeg, Int.reduceToNat, Int.reduceAdd, Int.reduceSub, w2, ↓g_call _ _ c_octet_Put]
  refine CallK.pure c2 (aft_nil ?_)
  simp -implicitDefEqProofs -dsimp only [go_sem, Nat.reduceEqDiff, Nat.reduceAdd, Nat.reduceMul, Nat.reduceSub, Nat.reduceLT, Nat.reduceLeDiff, Nat.reduceBEq, reduceIte, reduceCtorEq, Int.reduceLT, Int.reduceLE, Int.reduceEq, Int.reduceNeg, Int.reduceToNat, Int.reduceAdd, Int.reduceSub, w4, ↓g_call _ _ c_octet_Put]
  refine CallK.pure c3 (aft_nil ?_)
  simp -implicitDefEqProofs -dsimp only [go_sem, Nat.reduceEqDiff, Nat.reduceAdd, Nat.reduceMul, Nat.reduceSub, Nat.reduceLT, Nat.reduceLeDiff, Nat.reduceBEq, reduceIte, reduceCtorEq, Int.reduceLT, Int.reduceLE, Int.reduceEq, Int.reduceNeg, Int.reduceToNat, Int.reduceAdd, Int.reduceSub, w4, ↓g_call _ _ c_octet_Put]
  refine CallK.pure c4 (aft_nil ?_)
  simp -implicitDefEqProofs -dsimp only [go_sem, Nat.reduceEqDiff, Nat.reduceAdd, Nat.reduceMul, Nat.reduceSub, Nat.reduceLT, Nat.reduceLeDiff, Nat.reduceBEq, reduceIte, reduceCtorEq, Int.reduceLT, Int.reduceLE, Int.reduceEq, Int.reduceNeg, Int.reduceToNat, Int.reduceAdd, Int.reduceSub, bts, byteCells_length, bytesAv_cells]
  rw [cPut, hok]
  exact finL_pure rfl

theorem small_enc {n : Int} (h0 : 0 ≤ n) (h : n < 128) : enc n.toNat = [UInt8.ofNat n.toNat] := enc_small (by omega)
theorem wrap_u8i {n : Int} (h0 : 0 ≤ n) (h : n < 128) : IntKind.u8.wrap n = ((UInt8.ofNat n.toNat).toNat : Int) := by
  rw [wrap_u8, UInt8.toNat_ofNat_of_lt' (by show n.toNat < 256; omega)]; omega
end Go.Aw
