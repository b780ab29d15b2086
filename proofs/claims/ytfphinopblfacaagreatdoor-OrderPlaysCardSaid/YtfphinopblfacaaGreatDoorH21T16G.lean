import Derived.Test.YtfphinopblfacaaGreatDoorH21T16F
namespace Go.Aw
open Go
open Go.Proofs.Tryz (prog)
set_option linter.all false
set_option maxHeartbeats 4000000

theorem del_cells (xs : List AV) (i n : Nat) (hn : xs.length = n) (hi : i < n) : (stCells xs (0 + i * 1) (xs.drop (i + 1))).length = n ∧ (stCells xs (0 + i * 1) (xs.drop (i + 1))).take (n - 1) = xs.eraseIdx i := by
  unfold stCells
  have e1 : (xs.drop (i + 1)).length = n - (i + 1) := by rw [List.length_drop, hn]
  constructor
  · simp only [List.length_append, List.length_take, List.length_drop, hn]; omega
  · rw [List.eraseIdx_eq_take_drop_succ, List.take_append_of_le_length (by simp only [List.length_append, List.length_take, List.length_drop, hn]; omega), Nat.zero_add, Nat.mul_one]
    exact List.take_of_length_le (by simp only [List.length_append, List.length_take, List.length_drop, hn]; omega)

theorem del_app {T : Tab} {id n i b : Nat} {xs : List AV} (hT : T id = .row 1 xs) (hx : xs.length = n) (hi : i < n) {y : AV} {K : AV → Tab → Prop} (h1 : slCells T 1 y = some (xs.drop (i + 1))) (h2 : slLen y = n - (i + 1))
    (hk : ∀ c2, c2.length = n → c2.take (n - 1) = xs.eraseIdx i → K (.sl id 0 (n - 1) none) (T.put id (.row 1 c2))) : appStep 1 b T (.sl id 0 i none) y K := by
  unfold appStep
  obtain ⟨d1, d2⟩ := del_cells xs i n hx hi
  rw [h1]
  simp only [hT, h2]
  refine ⟨trivial, ?_⟩
  rw [if_neg (by omega)]
  have e : i + (n - (i + 1)) = n - 1 := by omega
  rw [e]
  exact ⟨by omega, hk _ d1 d2⟩

theorem take_st {c : List AV} {n : Nat} {z : AV} (h : c.length = n) (hn : 0 < n) : (stCells c (0 + (n - 1)) [z]).take (n - 1) = c.take (n - 1) := by
  unfold stCells
  rw [Nat.zero_add, List.append_assoc, List.take_append_of_le_length (by rw [List.length_take]; omega), List.take_take, Nat.min_self]

theorem clS_row {T : Tab} {id o n z : Nat} {zero cells : List AV} {k : AV → Tab → Prop} {h : Hold k} {cap : Option Nat} (hT : T id = .row z cells) (h1 : zero.length = z) (h2 : o + n * z ≤ cells.length)
    (hk : k (.tup []) (T.put id (.row z (stCells cells o (rep zero n))))) : clS z zero (some (.sl id o n cap)) T h := by
  unfold clS
  cases n with
  | zero => simp only [hT]; exact ⟨trivial, h1, h2, hk⟩
  | succ n => simp only [hT]; exact ⟨trivial, h1, h2, hk⟩
theorem rep_one (z : List AV) : rep z 1 = z := by simp [rep]

theorem slot_put {T : Tab} {id z k : Nat} {c d : List AV} (h : c.take k = d) : ∀ j, SlotLe ((T.put id (.row z d)) j) ((T.put id (.row z c)) j) := fun j => by
  simp only [Tab.put]
  split
  · exact .inr (.inr ⟨z, c, k, rfl, by rw [h]⟩)
  · exact .inr (.inl rfl)

theorem ac_Delete_int {T : Tab} {id n i : Nat} {xs : List AV} (hT : T id = .row 1 xs) (hx : xs.length = n) (hi : i < n) (hn : n ≤ 1000000000) :
    ACalls prog f_slices_Delete_int_int [.sl id 0 n none, .i .i64 i, .i .i64 (i + 1)] T (fun v T' => v = .sl id 0 (n - 1) none ∧ T' = T.put id (.row 1 (xs.eraseIdx i))) := by
  refine acalls_of mixed t_slices_Delete_int_int (by simp) ?_
  unfold s_slices_Delete_int_int
  have a1 : (0 : Int) ≤ (i : Int) + 1 := by omega
  have a2 : ((i : Int) + 1).toNat = i + 1 := by omega
  have a3 : i ≤ i + 1 := by omega
  have a4 : i + 1 ≤ n := by omega
  have a5 : i < i + 1 := by omega
  have a6 : ((i : Int) = (i : Int) + 1) = False := by simp; omega
  have a7 : i ≤ n := by omega
  have a8 : n - 1 ≤ n := by omega
  have a9 : (n ≤ n - 1) = False := by simp; omega
  have a10 : n - 1 < n := by omega
  have a11 : n - (n - 1) = 1 := by omega
  have a12 : 0 + (n - 1) + 1 ≤ n := by omega
  have fin : ∀ c2 : List AV, c2.length = n → c2.take (n - 1) = xs.eraseIdx i → slHi none 0 1 c2.length n = true ∧ ∀ j, SlotLe ((T.put id (.row 1 (xs.eraseIdx i))) j) (((T.put id (.row 1 c2)).put id (.row 1 (stCells c2 (0 + (n - 1)) [.i .i64 0]))) j) := fun c2 e1 e2 =>
    ⟨by simp [slHi, e1], fun j => by rw [Tab.put_put]; exact slot_put (k := n - 1) (by rw [take_st e1 (Nat.lt_of_le_of_lt (Nat.zero_le i) hi), e2]) j⟩
  simp -implicitDefEqProofs -dsimp only [go_sem, Nat.reduceEqDiff, Nat.reduceAdd, Nat.reduceMul, Nat.reduceSub, Nat.reduceLT, Nat.reduceLeDiff, Nat.reduceBEq, reduceIte, reduceCtorEq, Int.reduceLT, Int.reduceLE, Int.reduceEq, Int.reduceNeg, Int.reduceToNat, Int.reduceAdd, Int.reduceSub, snl_fz, hT, Int.natCast_nonneg, Int.toNat_natCast, a1, a2, a3, a4, a5, a6, a7, Nat.le_refl, Option.isSome, true_or, or_true, decide_false, decide_true, Nat.zero_le, Nat.zero_lt_succ, Nat.sub_zero]
  by_cases hj : i + 1 < n
  · simp -implicitDefEqProofs -dsimp only [go_sem, Nat.reduceEqDiff, Nat.reduceAdd, Nat.reduceMul, Nat.reduceSub, Nat.reduceLT, Nat.reduceLeDiff, Nat.reduceBEq, reduceIte, reduceCtorEq, Int.reduceLT, Int.reduceLE, Int.reduceEq, Int.reduceNeg, Int.reduceToNat, Int.reduceAdd, Int.reduceSub, hj, true_or, slCells, slLen, hT, hx]
    refine del_app hT hx hi ?_ ?_ fun c2 e1 e2 => ?_
    · simp only [slCells, hT]; rw [if_pos ⟨trivial, by omega⟩]; simp only [Nat.mul_one, Nat.zero_add]; rw [List.take_of_length_le (by rw [List.length_drop, hx]; omega)]
    · rfl
    obtain ⟨f1, f2⟩ := fin c2 e1 e2
    refine aft_nil ?_
    simp -implicitDefEqProofs -dsimp only [go_sem, Nat.reduceEqDiff, Nat.reduceAdd, Nat.reduceMul, Nat.reduceSub, Nat.reduceLT, Nat.reduceLeDiff, Nat.reduceBEq, reduceIte, reduceCtorEq, Int.reduceLT, Int.reduceLE, Int.reduceEq, Int.reduceNeg, Int.reduceToNat, Int.reduceAdd, Int.reduceSub, Tab.put_same, Int.natCast_nonneg, Int.toNat_natCast, a8, a9, a10, a11, f1, or_true, true_or, true_and]
    refine clS_row (T.put_same id _) rfl (by simp only [Nat.mul_one]; rw [e1]; omega) ?_
    refine aft_nil ?_
    have f3 := f2
    simp only [rep_one, Tab.put_put] at f3 ⊢
    simp -implicitDefEqProofs -dsimp only [go_sem, Nat.reduceEqDiff, Nat.reduceAdd, Nat.reduceMul, Nat.reduceSub, Nat.reduceLT, Nat.reduceLeDiff, Nat.reduceBEq, reduceIte, reduceCtorEq, Int.reduceLT, Int.reduceLE, Int.reduceEq, Int.reduceNeg, Int.reduceToNat, Int.reduceAdd, Int.reduceSub]
    refine finL_of (T.put id (.row 1 (xs.eraseIdx i))) (fun j => ?_) ⟨rfl, rfl⟩
    simpa only [stCells, List.length_singleton, Nat.zero_add] using f3 j
  · have hn1 : i + 1 = n := by omega
    simp -implicitDefEqProofs -dsimp only [go_sem, Nat.reduceEqDiff, Nat.reduceAdd, Nat.reduceMul, Nat.reduceSub, Nat.reduceLT, Nat.reduceLeDiff, Nat.reduceBEq, reduceIte, reduceCtorEq, Int.reduceLT, Int.reduceLE, Int.reduceEq, Int.reduceNeg, Int.reduceToNat, Int.reduceAdd, Int.reduceSub, hj, true_or, or_false, if_false, slCells, slLen, hT, hx]
    refine del_app hT hx hi ?_ ?_ fun c2 e1 e2 => ?_
    · simp only [slCells]; rw [if_pos (by simp)]; rw [List.drop_eq_nil_of_le (by omega)]
    · simp only [slLen]; omega
    obtain ⟨f1, f2⟩ := fin c2 e1 e2
    refine aft_nil ?_
    simp -implicitDefEqProofs -dsimp only [go_sem, Nat.reduceEqDiff, Nat.reduceAdd, Nat.reduceMul, Nat.reduceSub, Nat.reduceLT, Nat.reduceLeDiff, Nat.reduceBEq, reduceIte, reduceCtorEq, Int.reduceLT, Int.reduceLE, Int.reduceEq, Int.reduceNeg, Int.reduceToNat, Int.reduceAdd, Int.reduceSub, Tab.put_same, Int.natCast_nonneg, Int.toNat_natCast, a8, a9, a10, a11, f1, or_true, true_or, true_and]
    refine clS_row (T.put_same id _) rfl (by simp only [Nat.mul_one]; rw [e1]; omega) ?_
    refine aft_nil ?_
    have f3 := f2
    simp only [rep_one, Tab.put_put] at f3 ⊢
    simp -implicitDefEqProofs -dsimp only [go_sem, Nat.reduceEqDiff, Nat.reduceAdd, Nat.reduceMul, Nat.reduceSub, Nat.reduceLT, Nat.reduceLeDiff, Nat.reduceBEq, reduceIte, reduceCtorEq, Int.reduceLT, Int.reduceLE, Int.reduceEq, Int.reduceNeg, Int.reduceToNat, Int.reduceAdd, Int.reduceSub]
    refine finL_of (T.put id (.row 1 (xs.eraseIdx i))) (fun j => ?_) ⟨rfl, rfl⟩
    simpa only [stCells, List.length_singleton, Nat.zero_add] using f3 j
theorem ac_Delete_bool {T : Tab} {id n i : Nat} {xs : List AV} (hT : T id = .row 1 xs) (hx : xs.length = n) (hi : i < n) (hn : n ≤ 1000000000) :
    ACalls prog f_slices_Delete_bool_bool [.sl id 0 n none, .i .i64 i, .i .i64 (i + 1)] T (fun v T' => v = .sl id 0 (n - 1) none ∧ T' = T.put id (.row 1 (xs.eraseIdx i))) := by
  refine acalls_of mixed t_slices_Delete_bool_bool (by simp) ?_
  unfold s_slices_Delete_bool_bool
  have a1 : (0 : Int) ≤ (i : Int) + 1 := by omega
  have a2 : ((i : Int) + 1).toNat = i + 1 := by omega
  have a3 : i ≤ i + 1 := by omega
  have a4 : i + 1 ≤ n := by omega
  have a5 : i < i + 1 := by omega
  have a6 : ((i : Int) = (i : Int) + 1) = False := by simp; omega
  have a7 : i ≤ n := by omega
  have a8 : n - 1 ≤ n := by omega
  have a9 : (n ≤ n - 1) = False := by simp; omega
  have a10 : n - 1 < n := by omega
  have a11 : n - (n - 1) = 1 := by omega
  have a12 : 0 + (n - 1) + 1 ≤ n := by omega
  have fin : ∀ c2 : List AV, c2.length = n → c2.take (n - 1) = xs.eraseIdx i → slHi none 0 1 c2.length n = true ∧ ∀ j, SlotLe ((T.put id (.row 1 (xs.eraseIdx i))) j) (((T.put id (.row 1 c2)).put id (.row 1 (stCells c2 (0 + (n - 1)) [.b false]))) j) := fun c2 e1 e2 =>
    ⟨by simp [slHi, e1], fun j => by rw [Tab.put_put]; exact slot_put (k := n - 1) (by rw [take_st e1 (Nat.lt_of_le_of_lt (Nat.zero_le i) hi), e2]) j⟩
  simp -implicitDefEqProofs -dsimp only [go_sem, Nat.reduceEqDiff, Nat.reduceAdd, Nat.reduceMul, Nat.reduceSub, Nat.reduceLT, Nat.reduceLeDiff, Nat.reduceBEq, reduceIte, reduceCtorEq, Int.reduceLT, Int.reduceLE, Int.reduceEq, Int.reduceNeg, Int.reduceToNat, Int.reduceAdd, Int.reduceSub, snl_fz, hT, Int.natCast_nonneg, Int.toNat_natCast, a1, a2, a3, a4, a5, a6, a7, Nat.le_refl, Option.isSome, true_or, or_true, decide_false, decide_true, Nat.zero_le, Nat.zero_lt_succ, Nat.sub_zero]
  by_cases hj : i + 1 < n
  · simp -implicitDefEqProofs -dsimp only [go_sem, Nat.reduceEqDiff, Nat.reduceAdd, Nat.reduceMul, Nat.reduceSub, Nat.reduceLT, Nat.reduceLeDiff, Nat.reduceBEq, reduceIte, reduceCtorEq, Int.reduceLT, Int.reduceLE, Int.reduceEq, Int.reduceNeg, Int.reduceToNat, Int.reduceAdd, Int.reduceSub, hj, true_or, slCells, slLen, hT, hx]
    refine del_app hT hx hi ?_ ?_ fun c2 e1 e2 => ?_
    · simp only [slCells, hT]; rw [if_pos ⟨trivial, by omega⟩]; simp only [Nat.mul_one, Nat.zero_add]; rw [List.take_of_length_le (by rw [List.length_drop, hx]; omega)]
    · rfl
    obtain ⟨f1, f2⟩ := fin c2 e1 e2
    refine aft_nil ?_
    simp -implicitDefEqProofs -dsimp only [go_sem, Nat.reduceEqDiff, Nat.reduceAdd, Nat.reduceMul, Nat.reduceSub, Nat.reduceLT, Nat.reduceLeDiff, Nat.reduceBEq, reduceIte, reduceCtorEq, Int.reduceLT, Int.reduceLE, Int.reduceEq, Int.reduceNeg, Int.reduceToNat, Int.reduceAdd, Int.reduceSub, Tab.put_same, Int.natCast_nonneg, Int.toNat_natCast, a8, a9, a10, a11, f1, or_true, true_or, true_and]
    refine clS_row (T.put_same id _) rfl (by simp only [Nat.mul_one]; rw [e1]; omega) ?_
    refine aft_nil ?_
    have f3 := f2
    simp only [rep_one, Tab.put_put] at f3 ⊢
    simp -implicitDefEqProofs -dsimp only [go_sem, Nat.reduceEqDiff, Nat.reduceAdd, Nat.reduceMul, Nat.reduceSub, Nat.reduceLT, Nat.reduceLeDiff, Nat.reduceBEq, reduceIte, reduceCtorEq, Int.reduceLT, Int.reduceLE, Int.reduceEq, Int.reduceNeg, Int.reduceToNat, Int.reduceAdd, Int.reduceSub]
    refine finL_of (T.put id (.row 1 (xs.eraseIdx i))) (fun j => ?_) ⟨rfl, rfl⟩
    simpa only [stCells, List.length_singleton, Nat.zero_add] using f3 j
  · have hn1 : i + 1 = n := by omega
    simp -implicitDefEqProofs -dsimp only [go_sem, Nat.reduceEqDiff, Nat.reduceAdd, Nat.reduceMul, Nat.reduceSub, Nat.reduceLT, Nat.reduceLeDiff, Nat.reduceBEq, reduceIte, reduceCtorEq, Int.reduceLT, Int.reduceLE, Int.reduceEq, Int.reduceNeg, Int.reduceToNat, Int.reduceAdd, Int.reduceSub, hj, true_or, or_false, if_false, slCells, slLen, hT, hx]
    refine del_app hT hx hi ?_ ?_ fun c2 e1 e2 => ?_
    · simp only [slCells]; rw [if_pos (by simp)]; rw [List.drop_eq_nil_of_le (by omega)]
    · simp only [slLen]; omega
    obtain ⟨f1, f2⟩ := fin c2 e1 e2
    refine aft_nil ?_
    simp -implicitDefEqProofs -dsimp only [go_sem, Nat.reduceEqDiff, Nat.reduceAdd, Nat.reduceMul, Nat.reduceSub, Nat.reduceLT, Nat.reduceLeDiff, Nat.reduceBEq, reduceIte, reduceCtorEq, Int.reduceLT, Int.reduceLE, Int.reduceEq, Int.reduceNeg, Int.reduceToNat, Int.reduceAdd, Int.reduceSub, Tab.put_same, Int.natCast_nonneg, Int.toNat_natCast, a8, a9, a10, a11, f1, or_true, true_or, true_and]
    refine clS_row (T.put_same id _) rfl (by simp only [Nat.mul_one]; rw [e1]; omega) ?_
    refine aft_nil ?_
    have f3 := f2
    simp only [rep_one, Tab.put_put] at f3 ⊢
    simp -implicitDefEqProofs -dsimp only [go_sem, Nat.reduceEqDiff, Nat.reduceAdd, Nat.reduceMul, Nat.reduceSub, Nat.reduceLT, Nat.reduceLeDiff, Nat.reduceBEq, reduceIte, reduceCtorEq, Int.reduceLT, Int.reduceLE, Int.reduceEq, Int.reduceNeg, Int.reduceToNat, Int.reduceAdd, Int.reduceSub]
    refine finL_of (T.put id (.row 1 (xs.eraseIdx i))) (fun j => ?_) ⟨rfl, rfl⟩
    simpa only [stCells, List.length_singleton, Nat.zero_add] using f3 j
end Go.Aw
