import Derived.Test.YtoeaikcebjideaaDoorE03K
namespace Go.Aw
open Go
open Go.Proofs.Tryd (prog)
open Go.Proofs
set_option linter.all false
set_option maxHeartbeats 4000000

/-! The reference's path. -/
theorem joinTail_snoc (sep x : List UInt8) (r : List (List UInt8)) : Lib.joinTail sep (r ++ [x]) = Lib.joinTail sep r ++ (sep ++ x) := by simp [Lib.joinTail]
theorem pathL_one (x : List UInt8) : pathL [x] = x := Lib.join_one x _
theorem pathL_snoc (l : List (List UInt8)) (x : List UInt8) (h : l ≠ []) : pathL (l ++ [x]) = (pathL l ++ [62]) ++ x := by
  cases l with
  | nil => exact (h rfl).elim
  | cons y r =>
    show Lib.join (y :: (r ++ [x])) [62] = (Lib.join (y :: r) [62] ++ [62]) ++ x
    rw [Lib.join_cons, Lib.join_cons, joinTail_snoc]
    simp [List.append_assoc]
theorem pathL_cons (l : List (List UInt8)) (x : List UInt8) (h : l ≠ []) : pathL (x :: l) = x ++ 62 :: pathL l := by
  cases l with
  | nil => exact (h rfl).elim
  | cons y r =>
    show Lib.join (x :: y :: r) [62] = x ++ 62 :: Lib.join (y :: r) [62]
    rw [Lib.join_cons, Lib.join_cons]
    simp [Lib.joinTail]
theorem pathL_len : ∀ (l : List (List UInt8)), (∀ s ∈ l, s.length ≤ 40) → (pathL l).length ≤ 41 * l.length
  | [], _ => Nat.le_refl _
  | [x], h => by rw [pathL_one]; have := h x (List.mem_cons_self ..); simp only [List.length_cons, List.length_nil]; omega
  | x :: y :: r, h => by
    have := h x (List.mem_cons_self ..)
    have ih := pathL_len (y :: r) (fun s hs => h s (List.mem_cons_of_mem _ hs))
    rw [pathL_cons _ _ (by simp)]
    simp only [List.length_append, List.length_cons] at ih ⊢
    omega
theorem lp_rPath {R : RPost} (hR : ExtR R) {T : Tab} {l : List (List UInt8)} {cap : Option Nat} (hl : l.length ≤ 10) (hs : ∀ s ∈ l, s.length ≤ 40)
    (h2 : ∀ tail, R (.exit 0) ((0, .fz l.length (strs l) cap) :: (3, .s (pathL l.reverse)) :: tail) [] T) : ∀ (k : Nat) (i : Int) (p : List UInt8), k ≤ l.length → i = (k : Int) - 1 → p = pathL (l.drop k).reverse →
    AW prog sautoirref03_Path_l0 R [(0, .fz l.length (strs l) cap), (3, .s p), (4, .i .i64 i)] [] T := by
  intro k
  induction k with
  | zero =>
    intro i p hk hi hp
    have d : decide ((0 : Int) ≤ i) = false := decide_eq_false (by omega)
    rw [List.drop_zero] at hp
    subst hp
    refine AW_loop hR ?_
    unfold sautoirref03_Path_l0b
    simp -implicitDefEqProofs -dsimp only [go_sem, Nat.reduceEqDiff, Nat.reduceAdd, Nat.reduceMul, Nat.reduceSub, Nat.reduceLT, Nat.reduceLeDiff, Nat.reduceBEq, reduceIte, reduceCtorEq, Int.reduceLT, Int.reduceLE, Int.reduceEq, Int.reduceNeg, Int.reduceToNat, Int.reduceAdd, Int.reduceSub, d]
    exact h2 _
  | succ k ih =>
    intro i p hk hi hp
    have hik : i = (k : Int) := by omega
    subst hik
    have hlt : k < l.length := hk
    have hget : l[k]? = some l[k] := List.getElem?_eq_getElem hlt
    have hdr : l.drop k = l[k] :: l.drop (k + 1) := List.drop_eq_getElem_cons hlt
    have hc := strs_at hget
    have hmem : l[k] ∈ l := List.getElem_mem hlt
    generalize l[k] = y at hget hdr hc hmem
    have hy := hs y hmem
    have d : decide ((0 : Int) ≤ (k : Int)) = true := decide_eq_true (by omega)
    have w1 : IntKind.i64.wrap ((l.length : Int) - 1) = (l.length : Int) - 1 := IntWalk.i64_in _ (by omega)
    have w2 : IntKind.i64.wrap ((k : Int) - 1) = (k : Int) - 1 := IntWalk.i64_in _ (by omega)
    have hpl : p.length ≤ 500 := by
      rw [hp]
      have := pathL_len (l.drop (k + 1)).reverse (fun s h => hs s (List.mem_of_mem_drop (List.mem_reverse.1 h)))
      rw [List.length_reverse, List.length_drop] at this
      omega
    refine AW_loopD (l := sautoirref03_Path_l0) rfl hR ?_
    unfold sautoirref03_Path_l0b
    by_cases hl1 : k + 1 < l.length
    · have d1 : decide ((k : Int) < (l.length : Int) - 1) = true := decide_eq_true (by omega)
      have b1 : p.length + 1 ≤ 9223372036854775807 := by omega
      have b2 : p.length + 1 + y.length ≤ 9223372036854775807 := by omega
      have hne : (l.drop (k + 1)).reverse ≠ [] := by
        intro e
        have := congrArg List.length e
        simp only [List.length_reverse, List.length_drop, List.length_nil] at this
        omega
      simp -implicitDefEqProofs -dsimp only [go_sem, Nat.reduceEqDiff, Nat.reduceAdd, Nat.reduceMul, Nat.reduceSub, Nat.reduceLT, Nat.reduceLeDiff, Nat.reduceBEq, reduceIte, reduceCtorEq, Int.reduceLT, Int.reduceLE, Int.reduceEq, Int.reduceNeg, Int.reduceToNat, Int.reduceAdd, Int.reduceSub, d, w1, d1, b1, b2, hlt, Int.ofNat_lt, Int.natCast_nonneg, Int.toNat_natCast, Nat.mul_one, hc, List.length_append, w2]
      exact ih _ _ (by omega) rfl (by rw [hdr, List.reverse_cons, pathL_snoc _ _ hne, ← hp])
    · have d1 : decide ((k : Int) < (l.length : Int) - 1) = false := decide_eq_false (by omega)
      have b2 : p.length + y.length ≤ 9223372036854775807 := by omega
      have hz : l.drop (k + 1) = [] := List.drop_eq_nil_of_le (by omega)
      have hp0 : p = [] := by rw [hp, hz]; rfl
      simp -implicitDefEqProofs -dsimp only [go_sem, Nat.reduceEqDiff, Nat.reduceAdd, Nat.reduceMul, Nat.reduceSub, Nat.reduceLT, Nat.reduceLeDiff, Nat.reduceBEq, reduceIte, reduceCtorEq, Int.reduceLT, Int.reduceLE, Int.reduceEq, Int.reduceNeg, Int.reduceToNat, Int.reduceAdd, Int.reduceSub, d, w1, d1, b2, hlt, Int.ofNat_lt, Int.natCast_nonneg, Int.toNat_natCast, Nat.mul_one, hc, List.length_append, w2]
      exact ih _ _ (by omega) rfl (by rw [hdr, hz, hp0]; exact (pathL_one y).symm)
theorem pc_rPath (l : List (List UInt8)) (cap : Option Nat) (hl : l.length ≤ 10) (hs : ∀ s ∈ l, s.length ≤ 40) : PCalls prog f_sautoirref03_Path [.fz l.length (strs l) cap] (.s (pathL l.reverse)) := by
  refine pcalls_of mixed t_sautoirref03_Path (by simp) fun T => ?_
  unfold s_sautoirref03_Path
  have lp := fun (R : RPost) (hR : ExtR R) h => lp_rPath (R := R) hR (T := T) (l := l) (cap := cap) hl hs h l.length ((l.length : Int) - 1) [] (Nat.le_refl _) rfl (by rw [List.drop_length]; rfl)
  have w1 : IntKind.i64.wrap ((l.length : Int) - 1) = (l.length : Int) - 1 := IntWalk.i64_in _ (by omega)
  simp -implicitDefEqProofs -dsimp only [go_sem, Nat.reduceEqDiff, Nat.reduceAdd, Nat.reduceMul, Nat.reduceSub, Nat.reduceLT, Nat.reduceLeDiff, Nat.reduceBEq, reduceIte, reduceCtorEq, Int.reduceLT, Int.reduceLE, Int.reduceEq, Int.reduceNeg, Int.reduceToNat, Int.reduceAdd, Int.reduceSub, w1]
  refine lp _ (by repeat' (first | exact finX_ext _ _ | assumption | apply blkR_ext | apply thenR_ext | apply AW_ext)) fun tail => ?_
  simp -implicitDefEqProofs -dsimp only [go_sem, Nat.reduceEqDiff, Nat.reduceAdd, Nat.reduceMul, Nat.reduceSub, Nat.reduceLT, Nat.reduceLeDiff, Nat.reduceBEq, reduceIte, reduceCtorEq, Int.reduceLT, Int.reduceLE, Int.reduceEq, Int.reduceNeg, Int.reduceToNat, Int.reduceAdd, Int.reduceSub]
  exact finL_pure rfl
end Go.Aw
