import Derived.Test.YtjimaapiajldpaaR28D
namespace Go.Aw
open Go
open Go.Proofs.Try (prog)
set_option linter.all false
set_option maxHeartbeats 4000000

theorem ixF_lt {v : Int} : ∀ {l : List Int} {k j : Nat}, ixF v l k = some j → k ≤ j ∧ j < k + l.length
  | [], k, j, h => by simp [ixF] at h
  | y :: l, k, j, h => by
    simp only [ixF] at h
    split at h
    · injection h with h; subst h; simp
    · have := ixF_lt h
      simp only [List.length_cons]
      omega
theorem ixI_lt (v : Int) (l : List Int) : -1 ≤ ixI v l ∧ ixI v l < l.length := by
  unfold ixI
  cases h : ixF v l 0 with
  | none => simp; omega
  | some j => have := ixF_lt h; simp; omega

def Cf.place (c : Cf) (n : Int) : Int := if c.right then ixI n c.ch else -1
def Cf.at (c : Cf) (k : Int) : Int := if c.right = true ∧ 0 ≤ k ∧ k < c.ch.length then (c.ch[k.toNat]?).getD 0 else -1

theorem pc_Place (c : Cf) (k1 k2 : Option Nat) (n : Int) (hl : Len c.ch.length) : PCalls prog f_conf_Conf_Place [.agg (c.cells k1 k2), .i .i64 n] (.i .i64 (c.place n)) := by
  refine pcalls_of mixed t_conf_Conf_Place (by simp) fun T => ?_
  unfold s_conf_Conf_Place
  simp -implicitDefEqProofs -dsimp only [go_sem, Nat.reduceEqDiff, Nat.reduceAdd, Nat.reduceMul, Nat.reduceSub, Nat.reduceLT, Nat.reduceLeDiff, Nat.reduceBEq, reduceIte, reduceCtorEq, Int.reduceLT, Int.reduceLE, Int.reduceEq, Int.reduceNeg, Int.reduceToNat, Int.reduceAdd, Int.reduceSub, Cf.cells, ↓g_call _ _ c_conf_Right]
  (first | (refine br_split (fun h_1 => ?_) (fun h_1 => ?_) <;> simp -implicitDefEqProofs -dsimp only [go_sem, Nat.reduceEqDiff, Nat.reduceAdd, Nat.reduceMul, Nat.reduceSub, Nat.reduceLT, Nat.reduceLeDiff, Nat.reduceBEq, reduceIte, reduceCtorEq, Int.reduceLT, Int.reduceLE, Int.reduceEq, Int.reduceNeg, Int.reduceToNat, Int.reduceAdd, Int.reduceSub, Cf.cells, ↓g_call _ _ c_conf_Right, ↓g_call _ _ c_slices_Index_int_int, h_1]) | (refine CallK.pure (pc_conf_Right c k1 k2 hl) (aft_nil ?_); simp -implicitDefEqProofs -dsimp only [go_sem, Nat.reduceEqDiff, Nat.reduceAdd, Nat.reduceMul, Nat.reduceSub, Nat.reduceLT, Nat.reduceLeDiff, Nat.reduceBEq, reduceIte, reduceCtorEq, Int.reduceLT, Int.reduceLE, Int.reduceEq, Int.reduceNeg, Int.reduceToNat, Int.reduceAdd, Int.reduceSub, Cf.cells, ↓g_call _ _ c_conf_Right, ↓g_call _ _ c_slices_Index_int_int]; have h_1 := trivial) | (refine CallK.pure (pc_slices_Index c.ch n _ hl) (aft_nil ?_); simp -implicitDefEqProofs -dsimp only [go_sem, Nat.reduceEqDiff, Nat.reduceAdd, Nat.reduceMul, Nat.reduceSub, Nat.reduceLT, Nat.reduceLeDiff, Nat.reduceBEq, reduceIte, reduceCtorEq, Int.reduceLT, Int.reduceLE, Int.reduceEq, Int.reduceNeg, Int.reduceToNat, Int.reduceAdd, Int.reduceSub, Cf.cells, ↓g_call _ _ c_conf_Right, ↓g_call _ _ c_slices_Index_int_int]; have h_1 := trivial) | (have h_1 := trivial)) <;>
    (first | (refine br_split (fun h_2 => ?_) (fun h_2 => ?_) <;> simp -implicitDefEqProofs -dsimp only [go_sem, Nat.reduceEqDiff, Nat.reduceAdd, Nat.reduceMul, Nat.reduceSub, Nat.reduceLT, Nat.reduceLeDiff, Nat.reduceBEq, reduceIte, reduceCtorEq, Int.reduceLT, Int.reduceLE, Int.reduceEq, Int.reduceNeg, Int.reduceToNat, Int.reduceAdd, Int.reduceSub, Cf.cells, ↓g_call _ _ c_conf_Right, ↓g_call _ _ c_slices_Index_int_int, h_1, h_2]) | (refine CallK.pure (pc_conf_Right c k1 k2 hl) (aft_nil ?_); simp -implicitDefEqProofs -dsimp only [go_sem, Nat.reduceEqDiff, Nat.reduceAdd, Nat.reduceMul, Nat.reduceSub, Nat.reduceLT, Nat.reduceLeDiff, Nat.reduceBEq, reduceIte, reduceCtorEq, Int.reduceLT, Int.reduceLE, Int.reduceEq, Int.reduceNeg, Int.reduceToNat, Int.reduceAdd, Int.reduceSub, Cf.cells, ↓g_call _ _ c_conf_Right, ↓g_call _ _ c_slices_Index_int_int, h_1]; have h_2 := trivial) | (refine CallK.pure (pc_slices_Index c.ch n _ hl) (aft_nil ?_); simp -implicitDefEqProofs -dsimp only [go_sem, Nat.reduceEqDiff, Nat.reduceAdd, Nat.reduceMul, Nat.reduceSub, Nat.reduceLT, Nat.reduceLeDiff, Nat.reduceBEq, reduceIte, reduceCtorEq, Int.reduceLT, Int.reduceLE, Int.reduceEq, Int.reduceNeg, Int.reduceToNat, Int.reduceAdd, Int.reduceSub, Cf.cells, ↓g_call _ _ c_conf_Right, ↓g_call _ _ c_slices_Index_int_int, h_1]; have h_2 := trivial) | (have h_2 := trivial)) <;>
    (first | (refine br_split (fun h_3 => ?_) (fun h_3 => ?_) <;> simp -implicitDefEqProofs -dsimp only [go_sem, Nat.reduceEqDiff, Nat.reduceAdd, Nat.reduceMul, Nat.reduceSub, Nat.reduceLT, Nat.reduceLeDiff, Nat.reduceBEq, reduceIte, reduceCtorEq, Int.reduceLT, Int.reduceLE, Int.reduceEq, Int.reduceNeg, Int.reduceToNat, Int.reduceAdd, Int.reduceSub, Cf.cells, ↓g_call _ _ c_conf_Right, ↓g_call _ _ c_slices_Index_int_int, h_1, h_2, h_3]) | (refine CallK.pure (pc_conf_Right c k1 k2 hl) (aft_nil ?_); simp -implicitDefEqProofs -dsimp only [go_sem, Nat.reduceEqDiff, Nat.reduceAdd, Nat.reduceMul, Nat.reduceSub, Nat.reduceLT, Nat.reduceLeDiff, Nat.reduceBEq, reduceIte, reduceCtorEq, Int.reduceLT, Int.reduceLE, Int.reduceEq, Int.reduceNeg, Int.reduceToNat, Int.reduceAdd, Int.reduceSub, Cf.cells, ↓g_call _ _ c_conf_Right, ↓g_call _ _ c_slices_Index_int_int, h_1, h_2]; have h_3 := trivial) | (refine CallK.pure (pc_slices_Index c.ch n _ hl) (aft_nil ?_); simp -implicitDefEqProofs -dsimp only [go_sem, Nat.reduceEqDiff, Nat.reduceAdd, Nat.reduceMul, Nat.reduceSub, Nat.reduceLT, Nat.reduceLeDiff, Nat.reduceBEq, reduceIte, reduceCtorEq, Int.reduceLT, Int.reduceLE, Int.reduceEq, Int.reduceNeg, Int.reduceToNat, Int.reduceAdd, Int.reduceSub, Cf.cells, ↓g_call _ _ c_conf_Right, ↓g_call _ _ c_slices_Index_int_int, h_1, h_2]; have h_3 := trivial) | (have h_3 := trivial))
  all_goals
    refine finL_pure ?_
    simp only [Bool.not_eq_true', Bool.not_eq_false'] at h_2
    simp [Cf.place, h_2]

theorem pc_at (c : Cf) (k1 k2 : Option Nat) (n : Int) (hl : Len c.ch.length) : PCalls prog f_conf_Conf_at [.agg (c.cells k1 k2), .i .i64 n] (.i .i64 (c.at n)) := by
  refine pcalls_of mixed t_conf_Conf_at (by simp) fun T => ?_
  unfold s_conf_Conf_at
  simp -implicitDefEqProofs -dsimp only [go_sem, Nat.reduceEqDiff, Nat.reduceAdd, Nat.reduceMul, Nat.reduceSub, Nat.reduceLT, Nat.reduceLeDiff, Nat.reduceBEq, reduceIte, reduceCtorEq, Int.reduceLT, Int.reduceLE, Int.reduceEq, Int.reduceNeg, Int.reduceToNat, Int.reduceAdd, Int.reduceSub, Cf.cells, ↓g_call _ _ c_conf_Right]
  (first | (refine br_split (fun h_1 => ?_) (fun h_1 => ?_) <;> simp -implicitDefEqProofs -dsimp only [go_sem, Nat.reduceEqDiff, Nat.reduceAdd, Nat.reduceMul, Nat.reduceSub, Nat.reduceLT, Nat.reduceLeDiff, Nat.reduceBEq, reduceIte, reduceCtorEq, Int.reduceLT, Int.reduceLE, Int.reduceEq, Int.reduceNeg, Int.reduceToNat, Int.reduceAdd, Int.reduceSub, Cf.cells, ↓g_call _ _ c_conf_Right, h_1]) | (refine CallK.pure (pc_conf_Right c k1 k2 hl) (aft_nil ?_); simp -implicitDefEqProofs -dsimp only [go_sem, Nat.reduceEqDiff, Nat.reduceAdd, Nat.reduceMul, Nat.reduceSub, Nat.reduceLT, Nat.reduceLeDiff, Nat.reduceBEq, reduceIte, reduceCtorEq, Int.reduceLT, Int.reduceLE, Int.reduceEq, Int.reduceNeg, Int.reduceToNat, Int.reduceAdd, Int.reduceSub, Cf.cells, ↓g_call _ _ c_conf_Right]; have h_1 := trivial) | (have h_1 := trivial)) <;>
    (first | (refine br_split (fun h_2 => ?_) (fun h_2 => ?_) <;> simp -implicitDefEqProofs -dsimp only [go_sem, Nat.reduceEqDiff, Nat.reduceAdd, Nat.reduceMul, Nat.reduceSub, Nat.reduceLT, Nat.reduceLeDiff, Nat.reduceBEq, reduceIte, reduceCtorEq, Int.reduceLT, Int.reduceLE, Int.reduceEq, Int.reduceNeg, Int.reduceToNat, Int.reduceAdd, Int.reduceSub, Cf.cells, ↓g_call _ _ c_conf_Right, h_1, h_2]) | (refine CallK.pure (pc_conf_Right c k1 k2 hl) (aft_nil ?_); simp -implicitDefEqProofs -dsimp only [go_sem, Nat.reduceEqDiff, Nat.reduceAdd, Nat.reduceMul, Nat.reduceSub, Nat.reduceLT, Nat.reduceLeDiff, Nat.reduceBEq, reduceIte, reduceCtorEq, Int.reduceLT, Int.reduceLE, Int.reduceEq, Int.reduceNeg, Int.reduceToNat, Int.reduceAdd, Int.reduceSub, Cf.cells, ↓g_call _ _ c_conf_Right, h_1]; have h_2 := trivial) | (have h_2 := trivial)) <;>
    (first | (refine br_split (fun h_3 => ?_) (fun h_3 => ?_) <;> simp -implicitDefEqProofs -dsimp only [go_sem, Nat.reduceEqDiff, Nat.reduceAdd, Nat.reduceMul, Nat.reduceSub, Nat.reduceLT, Nat.reduceLeDiff, Nat.reduceBEq, reduceIte, reduceCtorEq, Int.reduceLT, Int.reduceLE, Int.reduceEq, Int.reduceNeg, Int.reduceToNat, Int.reduceAdd, Int.reduceSub, Cf.cells, ↓g_call _ _ c_conf_Right, h_1, h_2, h_3]) | (refine CallK.pure (pc_conf_Right c k1 k2 hl) (aft_nil ?_); simp -implicitDefEqProofs -dsimp only [go_sem, Nat.reduceEqDiff, Nat.reduceAdd, Nat.reduceMul, Nat.reduceSub, Nat.reduceLT, Nat.reduceLeDiff, Nat.reduceBEq, reduceIte, reduceCtorEq, Int.reduceLT, Int.reduceLE, Int.reduceEq, Int.reduceNeg, Int.reduceToNat, Int.reduceAdd, Int.reduceSub, Cf.cells, ↓g_call _ _ c_conf_Right, h_1, h_2]; have h_3 := trivial) | (have h_3 := trivial)) <;>
    (first | (refine br_split (fun h_4 => ?_) (fun h_4 => ?_) <;> simp -implicitDefEqProofs -dsimp only [go_sem, Nat.reduceEqDiff, Nat.reduceAdd, Nat.reduceMul, Nat.reduceSub, Nat.reduceLT, Nat.reduceLeDiff, Nat.reduceBEq, reduceIte, reduceCtorEq, Int.reduceLT, Int.reduceLE, Int.reduceEq, Int.reduceNeg, Int.reduceToNat, Int.reduceAdd, Int.reduceSub, Cf.cells, ↓g_call _ _ c_conf_Right, h_1, h_2, h_3, h_4]) | (refine CallK.pure (pc_conf_Right c k1 k2 hl) (aft_nil ?_); simp -implicitDefEqProofs -dsimp only [go_sem, Nat.reduceEqDiff, Nat.reduceAdd, Nat.reduceMul, Nat.reduceSub, Nat.reduceLT, Nat.reduceLeDiff, Nat.reduceBEq, reduceIte, reduceCtorEq, Int.reduceLT, Int.reduceLE, Int.reduceEq, Int.reduceNeg, Int.reduceToNat, Int.reduceAdd, Int.reduceSub, Cf.cells, ↓g_call _ _ c_conf_Right, h_1, h_2, h_3]; have h_4 := trivial) | (have h_4 := trivial))
  · refine finL_pure ?_
    simp only [Bool.not_eq_true'] at h_2
    simp [Cf.at, h_2]
  · refine finL_pure ?_
    have := of_decide_eq_true h_3
    rw [Cf.at, if_neg (by omega)]
  · refine finL_pure ?_
    have := of_decide_eq_true h_4
    rw [Cf.at, if_neg (by omega)]
  · have e3 := of_decide_eq_false h_3
    have e4 := of_decide_eq_false h_4
    simp only [Bool.not_eq_false'] at h_2
    have hb : 0 ≤ n ∧ n < (c.ch.length : Int) := by omega
    have hx : c.ch[n.toNat]? = some c.ch[n.toNat] := List.getElem?_eq_getElem (by omega)
    simp -implicitDefEqProofs -dsimp only [go_sem, Nat.reduceEqDiff, Nat.reduceAdd, Nat.reduceMul, Nat.reduceSub, Nat.reduceLT, Nat.reduceLeDiff, Nat.reduceBEq, reduceIte, reduceCtorEq, Int.reduceLT, Int.reduceLE, Int.reduceEq, Int.reduceNeg, Int.reduceToNat, Int.reduceAdd, Int.reduceSub, hb, ints_at, hx]
    refine finL_pure ?_
    rw [Cf.at, if_pos ⟨h_2, hb⟩, hx]
    rfl

theorem pc_Head (c : Cf) (k1 k2 : Option Nat) (hl : Len c.ch.length) : PCalls prog f_conf_Conf_Head [.agg (c.cells k1 k2)] (.i .i64 (c.at 0)) := by
  refine pcalls_of mixed t_conf_Conf_Head (by simp) fun T => ?_
  unfold s_conf_Conf_Head
  simp -implicitDefEqProofs -dsimp only [go_sem, Nat.reduceEqDiff, Nat.reduceAdd, Nat.reduceMul, Nat.reduceSub, Nat.reduceLT, Nat.reduceLeDiff, Nat.reduceBEq, reduceIte, reduceCtorEq, Int.reduceLT, Int.reduceLE, Int.reduceEq, Int.reduceNeg, Int.reduceToNat, Int.reduceAdd, Int.reduceSub, Cf.cells, ↓g_call _ _ c_conf_Conf_at]
  refine CallK.pure (pc_at c k1 k2 0 hl) (aft_nil ?_)
  simp -implicitDefEqProofs -dsimp only [go_sem, Nat.reduceEqDiff, Nat.reduceAdd, Nat.reduceMul, Nat.reduceSub, Nat.reduceLT, Nat.reduceLeDiff, Nat.reduceBEq, reduceIte, reduceCtorEq, Int.reduceLT, Int.reduceLE, Int.reduceEq, Int.reduceNeg, Int.reduceToNat, Int.reduceAdd, Int.reduceSub]
  exact finL_pure rfl

theorem Cf.place_lt (c : Cf) (n : Int) : -1 ≤ c.place n ∧ c.place n < c.ch.length := by
  unfold Cf.place
  have := ixI_lt n c.ch
  split <;> omega

def Cf.next (c : Cf) (n : Int) : Int := if c.place n < 0 then -1 else c.at (c.place n + 1)

def Cf.has (c : Cf) (n : Int) : Bool := c.right && decide (0 ≤ n) && (decide (n = c.ln) || ctn c.ch n)

end Go.Aw
