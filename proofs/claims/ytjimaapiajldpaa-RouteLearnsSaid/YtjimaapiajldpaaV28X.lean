import Derived.Test.YtjimaapiajldpaaR28V
import Derived.Test.YtjimaapiajldpaaR28Q
namespace Go.Aw
open Go
open Go.Proofs.Try (prog)
set_option linter.all false
set_option maxHeartbeats 4000000

theorem lp_rKeys0 {R : RPost} (hR : ExtR R) {T : Tab} {xs : List Rd} {cap : Option Nat} {tc : List AV} (hl : xs.length < 1000000000) : ∀ (ys : List Rd) (k : Nat), xs.drop k = ys → k ≤ xs.length → ∀ (os : List Bs) (v : AV) (T1 : Tab), os.length ≤ k →
    Own T 1 v os.length (strs os) T1 →
    (∀ v T1, Own T 1 v (os ++ ys.map (·.k)).length (strs (os ++ ys.map (·.k))) T1 → R (.exit 0) [(1, .lp 1 0), (3, v), (9, .fz xs.length (xs.flatMap rdC) cap), (10, .i .i64 xs.length), (11, .i .i64 xs.length), (12, .b false)] [(1, tc)] T1) →
    AW prog sautoirref12_Keys_l0 R [(1, .lp 1 0), (3, v), (9, .fz xs.length (xs.flatMap rdC) cap), (10, .i .i64 xs.length), (11, .i .i64 k)] [(1, tc)] T1 := by
  intro ys
  induction ys with
  | nil =>
    intro k hk hle os v T1 hx ho h2
    obtain ⟨p1, p2, p3, p4, p5, p6⟩ := ho.form
    have hk' := drop_nil hk hle
    refine AW_loop hR ?_
    unfold sautoirref12_Keys_l0b
    simp -implicitDefEqProofs -dsimp only [go_sem, Nat.reduceEqDiff, Nat.reduceAdd, Nat.reduceMul, Nat.reduceSub, Nat.reduceLT, Nat.reduceLeDiff, Nat.reduceBEq, reduceIte, reduceCtorEq, Int.reduceLT, Int.reduceLE, Int.reduceEq, Int.reduceNeg, Int.reduceToNat, Int.reduceAdd, Int.reduceSub, hk', Int.lt_irrefl, p1, p2, p3, p4, p5, p6]
    rw [hk'] at h2
    refine h2 _ _ ?_
    simpa only [List.map_nil, List.append_nil] using ho
  | cons y ys ih =>
    intro k hk hle os v T1 hx ho h2
    obtain ⟨hlt, hy, hk'⟩ := drop_lt hk
    obtain ⟨p1, p2, p3, p4, p5, p6⟩ := ho.form
    have hc := flat_at rdC_len hy
    have hc5 : k * 2 + 2 ≤ (xs.flatMap rdC).length := by rw [flat_length rdC_len]; omega
    refine AW_loopD (l := sautoirref12_Keys_l0) rfl hR ?_
    unfold sautoirref12_Keys_l0b
    simp -implicitDefEqProofs -dsimp only [go_sem, Nat.reduceEqDiff, Nat.reduceAdd, Nat.reduceMul, Nat.reduceSub, Nat.reduceLT, Nat.reduceLeDiff, Nat.reduceBEq, reduceIte, reduceCtorEq, Int.reduceLT, Int.reduceLE, Int.reduceEq, Int.reduceNeg, Int.reduceToNat, Int.reduceAdd, Int.reduceSub, Int.ofNat_lt, hlt, Int.natCast_nonneg, Int.toNat_natCast, hc, hc5, rdC, List.cons_append, List.nil_append, p1, p2, p3, p4, p5, p6]
    refine ho.app (m := 1) (news := [.s y.k]) rfl rfl (by omega) (by omega) fun v2 T2 ho => aft_nil ?_
    obtain ⟨p1, p2, p3, p4, p5, p6⟩ := ho.form
    simp -implicitDefEqProofs -dsimp only [go_sem, Nat.reduceEqDiff, Nat.reduceAdd, Nat.reduceMul, Nat.reduceSub, Nat.reduceLT, Nat.reduceLeDiff, Nat.reduceBEq, reduceIte, reduceCtorEq, Int.reduceLT, Int.reduceLE, Int.reduceEq, Int.reduceNeg, Int.reduceToNat, Int.reduceAdd, Int.reduceSub, p1, p2, p3, p4, p5, p6]
    rw [wrap_succ (by omega)]
    have e : strs os ++ [.s y.k] = strs (os ++ [y.k]) := by simp [strs]
    rw [e] at ho
    refine ih (k + 1) hk' hlt (os ++ [y.k]) v2 T2 (by simp; omega) (by simpa using ho) fun v T1 ho => h2 v T1 ?_
    simpa only [List.map_cons, List.append_assoc, List.cons_append, List.nil_append] using ho

theorem lp_rKeys1 {R : RPost} (hR : ExtR R) {T : Tab} {xs : List Wt} {cap : Option Nat} (hl : xs.length < 1000000000) : ∀ (ys : List Wt) (k : Nat), xs.drop k = ys → k ≤ xs.length → ∀ (os : List Bs) (v : AV) (T1 : Tab), os.length ≤ 1000000000 + k →
    Own T 1 v os.length (strs os) T1 →
    (∀ v T1, Own T 1 v (os ++ ys.map (·.k)).length (strs (os ++ ys.map (·.k))) T1 → R (.exit 2) [(3, v), (22, .fz xs.length (xs.flatMap wtC) cap), (23, .i .i64 xs.length), (24, .i .i64 xs.length), (25, .b false)] [] T1) →
    AW prog sautoirref12_Keys_l1 R [(3, v), (22, .fz xs.length (xs.flatMap wtC) cap), (23, .i .i64 xs.length), (24, .i .i64 k)] [] T1 := by
  intro ys
  induction ys with
  | nil =>
    intro k hk hle os v T1 hx ho h2
    obtain ⟨p1, p2, p3, p4, p5, p6⟩ := ho.form
    have hk' := drop_nil hk hle
    refine AW_loop hR ?_
    unfold sautoirref12_Keys_l1b
    simp -implicitDefEqProofs -dsimp only [go_sem, Nat.reduceEqDiff, Nat.reduceAdd, Nat.reduceMul, Nat.reduceSub, Nat.reduceLT, Nat.reduceLeDiff, Nat.reduceBEq, reduceIte, reduceCtorEq, Int.reduceLT, Int.reduceLE, Int.reduceEq, Int.reduceNeg, Int.reduceToNat, Int.reduceAdd, Int.reduceSub, hk', Int.lt_irrefl, p1, p2, p3, p4, p5, p6]
    rw [hk'] at h2
    refine h2 _ _ ?_
    simpa only [List.map_nil, List.append_nil] using ho
  | cons y ys ih =>
    intro k hk hle os v T1 hx ho h2
    obtain ⟨hlt, hy, hk'⟩ := drop_lt hk
    obtain ⟨p1, p2, p3, p4, p5, p6⟩ := ho.form
    have hc := flat_at wtC_len hy
    have hc5 : k * 3 + 3 ≤ (xs.flatMap wtC).length := by rw [flat_length wtC_len]; omega
    refine AW_loopD (l := sautoirref12_Keys_l1) rfl hR ?_
    unfold sautoirref12_Keys_l1b
    simp -implicitDefEqProofs -dsimp only [go_sem, Nat.reduceEqDiff, Nat.reduceAdd, Nat.reduceMul, Nat.reduceSub, Nat.reduceLT, Nat.reduceLeDiff, Nat.reduceBEq, reduceIte, reduceCtorEq, Int.reduceLT, Int.reduceLE, Int.reduceEq, Int.reduceNeg, Int.reduceToNat, Int.reduceAdd, Int.reduceSub, Int.ofNat_lt, hlt, Int.natCast_nonneg, Int.toNat_natCast, hc, hc5, wtC, List.cons_append, List.nil_append, p1, p2, p3, p4, p5, p6]
    refine ho.app (m := 1) (news := [.s y.k]) rfl rfl (by omega) (by omega) fun v2 T2 ho => aft_nil ?_
    obtain ⟨p1, p2, p3, p4, p5, p6⟩ := ho.form
    simp -implicitDefEqProofs -dsimp only [go_sem, Nat.reduceEqDiff, Nat.reduceAdd, Nat.reduceMul, Nat.reduceSub, Nat.reduceLT, Nat.reduceLeDiff, Nat.reduceBEq, reduceIte, reduceCtorEq, Int.reduceLT, Int.reduceLE, Int.reduceEq, Int.reduceNeg, Int.reduceToNat, Int.reduceAdd, Int.reduceSub, p1, p2, p3, p4, p5, p6]
    rw [wrap_succ (by omega)]
    have e : strs os ++ [.s y.k] = strs (os ++ [y.k]) := by simp [strs]
    rw [e] at ho
    refine ih (k + 1) hk' hlt (os ++ [y.k]) v2 T2 (by simp; omega) (by simpa using ho) fun v T1 ho => h2 v T1 ?_
    simpa only [List.map_cons, List.append_assoc, List.cons_append, List.nil_append] using ho

theorem pc_rKeys (t : Tx) (k1 k2 : Option Nat) (hf : t.Fine) : PCalls prog f_sautoirref12_Keys [.agg (t.cells k1 k2)] (.fz t.keys.length (strs t.keys) none) := by
  refine pcalls_of mixed t_sautoirref12_Keys (by simp) fun T => ?_
  unfold s_sautoirref12_Keys
  simp -implicitDefEqProofs -dsimp only [go_sem, Nat.reduceEqDiff, Nat.reduceAdd, Nat.reduceMul, Nat.reduceSub, Nat.reduceLT, Nat.reduceLeDiff, Nat.reduceBEq, reduceIte, reduceCtorEq, Int.reduceLT, Int.reduceLE, Int.reduceEq, Int.reduceNeg, Int.reduceToNat, Int.reduceAdd, Int.reduceSub, Tx.cells]
  refine lp_rKeys0 (T := T) (by repeat' (first | exact finX_ext _ _ | assumption | apply blkR_ext | apply thenR_ext | apply AW_ext)) hf.r t.rs 0 rfl (by omega) [] _ _ (by simp) (.nil ..) (fun v1 T1 o1 => ?_)
  obtain ⟨p1, p2, p3, p4, p5, p6⟩ := o1.form
  simp -implicitDefEqProofs -dsimp only [go_sem, Nat.reduceEqDiff, Nat.reduceAdd, Nat.reduceMul, Nat.reduceSub, Nat.reduceLT, Nat.reduceLeDiff, Nat.reduceBEq, reduceIte, reduceCtorEq, Int.reduceLT, Int.reduceLE, Int.reduceEq, Int.reduceNeg, Int.reduceToNat, Int.reduceAdd, Int.reduceSub, p1, p2, p3, p4, p5, p6]
  have h1 := hf.r
  refine lp_rKeys1 (T := T) (by repeat' (first | exact finX_ext _ _ | assumption | apply blkR_ext | apply thenR_ext | apply AW_ext)) hf.w t.ws 0 rfl (by omega) ([] ++ t.rs.map (·.k)) _ _ (by simp; omega) o1 (fun v2 T2 o2 => ?_)
  obtain ⟨q1, q2, q3, q4, q5, q6⟩ := o2.form
  simp -implicitDefEqProofs -dsimp only [go_sem, Nat.reduceEqDiff, Nat.reduceAdd, Nat.reduceMul, Nat.reduceSub, Nat.reduceLT, Nat.reduceLeDiff, Nat.reduceBEq, reduceIte, reduceCtorEq, Int.reduceLT, Int.reduceLE, Int.reduceEq, Int.reduceNeg, Int.reduceToNat, Int.reduceAdd, Int.reduceSub, q1, q2, q3, q4, q5, q6]
  exact o2.fzn

end Go.Aw
