import Derived.Test.YtoeaikcebjideaaDoorE03K
namespace Go.Aw
open Go
open Go.Proofs.Tryd (prog)
open Go.Proofs
set_option linter.all false
set_option maxHeartbeats 4000000

/-! Places, made short. -/
def shortS (s : List UInt8) : List UInt8 := 112 :: s.take 20
def shortL (l : List (List UInt8)) : List (List UInt8) := (l.take 8).map shortS
theorem shortL_len (l : List (List UInt8)) : (shortL l).length ≤ 8 := by simp only [shortL, List.length_map, List.length_take]; omega
theorem shortL_s (l : List (List UInt8)) : ∀ s ∈ shortL l, s.length ≤ 40 := by
  intro s hs
  obtain ⟨x, _, rfl⟩ := List.mem_map.1 hs
  simp only [shortS, List.length_cons, List.length_take]
  omega
theorem lp_short {R : RPost} (hR : ExtR R) {T : Tab} {l : List (List UInt8)} {cap : Option Nat} (hl : Len l.length) : ∀ (ys : List (List UInt8)) (k : Nat), l.drop k = ys → k ≤ l.length → k ≤ 8 → ∀ (v : AV) (T1 : Tab),
    Own T 1 v k (strs ((l.take k).map shortS)) T1 →
    (∀ n v T1 tail, Own T 1 v n (strs (shortL l)) T1 → R (.exit 0) ((3, v) :: tail) [] T1) →
    AW prog sautoirlaw03_short_l0 R [(3, v), (6, .fz l.length (strs l) cap), (7, .i .i64 l.length), (8, .i .i64 k)] [] T1 := by
  unfold Len at hl
  intro ys
  induction ys with
  | nil =>
    intro k hk hle h8 v T1 ho h2
    have hk' := drop_nil hk hle
    obtain ⟨p1, p2, p3, p4, p5, p6⟩ := ho.form
    have e : (l.take k).map shortS = shortL l := by
      unfold shortL
      rw [List.take_of_length_le (by omega), List.take_of_length_le (by omega)]
    rw [e] at ho
    refine AW_loop hR ?_
    unfold sautoirlaw03_short_l0b
    simp -implicitDefEqProofs -dsimp only [go_sem, Nat.reduceEqDiff, Nat.reduceAdd, Nat.reduceMul, Nat.reduceSub, Nat.reduceLT, Nat.reduceLeDiff, Nat.reduceBEq, reduceIte, reduceCtorEq, Int.reduceLT, Int.reduceLE, Int.reduceEq, Int.reduceNeg, Int.reduceToNat, Int.reduceAdd, Int.reduceSub, hk', Int.lt_irrefl, p1, p2, p3, p4, p5, p6]
    exact h2 _ v T1 _ ho
  | cons y ys ih =>
    intro k hk hle h8 v T1 ho h2
    obtain ⟨hlt, hy, hk'⟩ := drop_lt hk
    have hws : IntKind.i64.wrap ((k : Int) + 1) = ((k + 1 : Nat) : Int) := wrap_succ (by omega)
    have hc := strs_at hy
    obtain ⟨p1, p2, p3, p4, p5, p6⟩ := ho.form
    refine AW_loopD (l := sautoirlaw03_short_l0) rfl hR ?_
    unfold sautoirlaw03_short_l0b
    by_cases h88 : k = 8
    · have d8 : decide ((8 : Int) ≤ k) = true := decide_eq_true (by omega)
      have e : (l.take k).map shortS = shortL l := by rw [h88]; rfl
      rw [e] at ho
      simp -implicitDefEqProofs -dsimp only [go_sem, Nat.reduceEqDiff, Nat.reduceAdd, Nat.reduceMul, Nat.reduceSub, Nat.reduceLT, Nat.reduceLeDiff, Nat.reduceBEq, reduceIte, reduceCtorEq, Int.reduceLT, Int.reduceLE, Int.reduceEq, Int.reduceNeg, Int.reduceToNat, Int.reduceAdd, Int.reduceSub, Int.ofNat_lt, hlt, Int.natCast_nonneg, Int.toNat_natCast, Nat.mul_one, hc, d8, p1, p2, p3, p4, p5, p6]
      exact h2 _ v T1 _ ho
    have d8 : decide ((8 : Int) ≤ k) = false := decide_eq_false (by omega)
    have hnx : strs ((l.take k).map shortS) ++ strs [112 :: y.take 20] = strs ((l.take (k + 1)).map shortS) := by
      have e : l.take (k + 1) = l.take k ++ [y] := by
        have := List.take_add_one (l := l) (i := k)
        rw [hy] at this; exact this
      rw [e, strs_append, List.map_append]; rfl
    by_cases h20 : 20 < y.length
    · have d : decide ((20 : Int) < y.length) = true := decide_eq_true (by omega)
      have h2b : 20 ≤ y.length := by omega
      have e20 : (y.take 20).length = 20 := by rw [List.length_take]; omega
      simp -implicitDefEqProofs -dsimp only [go_sem, Nat.reduceEqDiff, Nat.reduceAdd, Nat.reduceMul, Nat.reduceSub, Nat.reduceLT, Nat.reduceLeDiff, Nat.reduceBEq, reduceIte, reduceCtorEq, Int.reduceLT, Int.reduceLE, Int.reduceEq, Int.reduceNeg, Int.reduceToNat, Int.reduceAdd, Int.reduceSub, Int.ofNat_lt, hlt, Int.natCast_nonneg, Int.toNat_natCast, Nat.mul_one, hc, d8, d, h2b, e20, p1, p2, p3, p4, p5, p6]
      refine ho.app (m := 1) (news := strs [112 :: y.take 20]) (by simp [slCells, strs]) rfl (by omega) (by omega) fun v' T2 ho2 => aft_nil ?_
      rw [hnx] at ho2
      obtain ⟨p1, p2, p3, p4, p5, p6⟩ := ho2.form
      simp -implicitDefEqProofs -dsimp only [go_sem, Nat.reduceEqDiff, Nat.reduceAdd, Nat.reduceMul, Nat.reduceSub, Nat.reduceLT, Nat.reduceLeDiff, Nat.reduceBEq, reduceIte, reduceCtorEq, Int.reduceLT, Int.reduceLE, Int.reduceEq, Int.reduceNeg, Int.reduceToNat, Int.reduceAdd, Int.reduceSub, p1, p2, p3, p4, p5, p6, hws]
      exact ih (k + 1) hk' hlt (by omega) v' T2 ho2 h2
    · have d : decide ((20 : Int) < y.length) = false := decide_eq_false (by omega)
      have e : y.take 20 = y := List.take_of_length_le (by omega)
      have hb : 1 + y.length ≤ 9223372036854775807 := by omega
      rw [e] at hnx
      simp -implicitDefEqProofs -dsimp only [go_sem, Nat.reduceEqDiff, Nat.reduceAdd, Nat.reduceMul, Nat.reduceSub, Nat.reduceLT, Nat.reduceLeDiff, Nat.reduceBEq, reduceIte, reduceCtorEq, Int.reduceLT, Int.reduceLE, Int.reduceEq, Int.reduceNeg, Int.reduceToNat, Int.reduceAdd, Int.reduceSub, Int.ofNat_lt, hlt, Int.natCast_nonneg, Int.toNat_natCast, Nat.mul_one, hc, d8, d, hb, p1, p2, p3, p4, p5, p6]
      refine ho.app (m := 1) (news := strs [112 :: y]) (by simp [slCells, strs]) rfl (by omega) (by omega) fun v' T2 ho2 => aft_nil ?_
      rw [hnx] at ho2
      obtain ⟨p1, p2, p3, p4, p5, p6⟩ := ho2.form
      simp -implicitDefEqProofs -dsimp only [go_sem, Nat.reduceEqDiff, Nat.reduceAdd, Nat.reduceMul, Nat.reduceSub, Nat.reduceLT, Nat.reduceLeDiff, Nat.reduceBEq, reduceIte, reduceCtorEq, Int.reduceLT, Int.reduceLE, Int.reduceEq, Int.reduceNeg, Int.reduceToNat, Int.reduceAdd, Int.reduceSub, p1, p2, p3, p4, p5, p6, hws]
      exact ih (k + 1) hk' hlt (by omega) v' T2 ho2 h2
theorem pc_short (l : List (List UInt8)) (cap : Option Nat) (hl : Len l.length) : PCalls prog f_sautoirlaw03_short [.fz l.length (strs l) cap] (.fz (shortL l).length (strs (shortL l)) none) := by
  refine pcalls_of mixed t_sautoirlaw03_short (by simp) fun T => ?_
  unfold s_sautoirlaw03_short
  have lp := fun (R : RPost) (hR : ExtR R) h => lp_short (R := R) hR (T := T) (l := l) (cap := cap) hl l 0 rfl (Nat.zero_le _) (by omega) (.fz 0 [] (some 0)) T (Own.nil _ 1) h
  simp -implicitDefEqProofs -dsimp only [go_sem, Nat.reduceEqDiff, Nat.reduceAdd, Nat.reduceMul, Nat.reduceSub, Nat.reduceLT, Nat.reduceLeDiff, Nat.reduceBEq, reduceIte, reduceCtorEq, Int.reduceLT, Int.reduceLE, Int.reduceEq, Int.reduceNeg, Int.reduceToNat, Int.reduceAdd, Int.reduceSub]
  refine lp _ (by repeat' (first | exact finX_ext _ _ | assumption | apply blkR_ext | apply thenR_ext | apply AW_ext)) fun n v T1 tail ho => ?_
  obtain ⟨p1, p2, p3, p4, p5, p6⟩ := ho.form
  simp -implicitDefEqProofs -dsimp only [go_sem, Nat.reduceEqDiff, Nat.reduceAdd, Nat.reduceMul, Nat.reduceSub, Nat.reduceLT, Nat.reduceLeDiff, Nat.reduceBEq, reduceIte, reduceCtorEq, Int.reduceLT, Int.reduceLE, Int.reduceEq, Int.reduceNeg, Int.reduceToNat, Int.reduceAdd, Int.reduceSub, p1, p2, p3, p4, p5, p6]
  have hn : n = (shortL l).length := by have := ho.1; simp only [strs_len, Nat.mul_one] at this; omega
  rw [← hn]
  exact ho.fzn
end Go.Aw
