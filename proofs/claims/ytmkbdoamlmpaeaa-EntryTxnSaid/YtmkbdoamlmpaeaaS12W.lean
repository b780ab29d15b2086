import Derived.Test.YtmkbdoamlmpaeaaS12V
namespace Go.Aw
open Go
open Go.Proofs.Try (prog)
set_option linter.all false
set_option maxHeartbeats 4000000

def inS (sh n : Int) (k : Bs) : Bool := decide ((shardOf k n : Int) = sh)

theorem lp_PartR {R : RPost} (hR : ExtR R) {T : Tab} {xs : List Rd} {cap : Option Nat} {tc : List AV} {sh n : Int} {v9 : AV} (hv : v9.plain = true ∧ ∀ k, v9.offLp k = v9) (hl : xs.length < 1000000000) (hs : ∀ r ∈ xs, Len r.k.length) : ∀ (ys : List Rd) (k : Nat), xs.drop k = ys → k ≤ xs.length → ∀ (os : List Rd) (v : AV) (T1 : Tab), os.length ≤ k →
    Own T 2 v os.length (os.flatMap rdC) T1 →
    (∀ v T1, Own T 2 v (os ++ ys.filter fun r => inS sh n r.k).length ((os ++ ys.filter fun r => inS sh n r.k).flatMap rdC) T1 → R (.exit 0) [(1, .i .i64 sh), (2, .i .i64 n), (3, .lp 3 0), (8, v), (9, v9), (15, .fz xs.length (xs.flatMap rdC) cap), (16, .i .i64 xs.length), (17, .i .i64 xs.length), (18, .b false)] [(3, tc)] T1) →
    AW prog entry_Txn_Part_l0 R [(1, .i .i64 sh), (2, .i .i64 n), (3, .lp 3 0), (8, v), (9, v9), (15, .fz xs.length (xs.flatMap rdC) cap), (16, .i .i64 xs.length), (17, .i .i64 k)] [(3, tc)] T1 := by
  obtain ⟨u1, u2⟩ := hv
  intro ys
  induction ys with
  | nil =>
    intro k hk hle os v T1 hx ho h2
    obtain ⟨p1, p2, p3, p4, p5, p6⟩ := ho.form
    have hk' := drop_nil hk hle
    refine AW_loop hR ?_
    unfold entry_Txn_Part_l0b
    simp -implicitDefEqProofs -dsimp only [go_sem, Nat.reduceEqDiff, Nat.reduceAdd, Nat.reduceMul, Nat.reduceSub, Nat.reduceLT, Nat.reduceLeDiff, Nat.reduceBEq, reduceIte, reduceCtorEq, Int.reduceLT, Int.reduceLE, Int.reduceEq, Int.reduceNeg, Int.reduceToNat, Int.reduceAdd, Int.reduceSub, hk', Int.lt_irrefl, p1, p2, p3, p4, p5, p6, u1, u2]
    rw [hk'] at h2
    refine h2 _ _ ?_
    simpa only [List.filter_nil, List.append_nil] using ho
  | cons y ys ih =>
    intro k hk hle os v T1 hx ho h2
    obtain ⟨hlt, hy, hk'⟩ := drop_lt hk
    obtain ⟨p1, p2, p3, p4, p5, p6⟩ := ho.form
    have hc := flat_at rdC_len hy
    have hc5 : k * 2 + 2 ≤ (xs.flatMap rdC).length := by rw [flat_length rdC_len]; omega
    have hm : y ∈ xs := List.mem_of_getElem? hy
    refine AW_loopD (l := entry_Txn_Part_l0) rfl hR ?_
    unfold entry_Txn_Part_l0b
    simp -implicitDefEqProofs -dsimp only [go_sem, Nat.reduceEqDiff, Nat.reduceAdd, Nat.reduceMul, Nat.reduceSub, Nat.reduceLT, Nat.reduceLeDiff, Nat.reduceBEq, reduceIte, reduceCtorEq, Int.reduceLT, Int.reduceLE, Int.reduceEq, Int.reduceNeg, Int.reduceToNat, Int.reduceAdd, Int.reduceSub, Int.ofNat_lt, hlt, Int.natCast_nonneg, Int.toNat_natCast, hc, hc5, rdC, List.cons_append, List.nil_append, p1, p2, p3, p4, p5, p6, u1, u2, ↓g_call _ _ c_keys_Shard]
    refine CallK.pure (pc_kShard y.k n (hs y hm)) (aft_nil ?_)
    rcases hin : inS sh n y.k with _ | _
    · have hin' : decide ((shardOf y.k n : Int) = sh) = false := hin
      simp -implicitDefEqProofs -dsimp only [go_sem, Nat.reduceEqDiff, Nat.reduceAdd, Nat.reduceMul, Nat.reduceSub, Nat.reduceLT, Nat.reduceLeDiff, Nat.reduceBEq, reduceIte, reduceCtorEq, Int.reduceLT, Int.reduceLE, Int.reduceEq, Int.reduceNeg, Int.reduceToNat, Int.reduceAdd, Int.reduceSub, hin', p1, p2, p3, p4, p5, p6, u1, u2]
      rw [wrap_succ (by omega)]
      refine ih (k + 1) hk' hlt os v T1 (by omega) ho fun v T1 ho => h2 v T1 ?_
      rw [List.filter_cons_of_neg (by rw [hin]; decide)]
      exact ho
    · have hin' : decide ((shardOf y.k n : Int) = sh) = true := hin
      simp -implicitDefEqProofs -dsimp only [go_sem, Nat.reduceEqDiff, Nat.reduceAdd, Nat.reduceMul, Nat.reduceSub, Nat.reduceLT, Nat.reduceLeDiff, Nat.reduceBEq, reduceIte, reduceCtorEq, Int.reduceLT, Int.reduceLE, Int.reduceEq, Int.reduceNeg, Int.reduceToNat, Int.reduceAdd, Int.reduceSub, hin', p1, p2, p3, p4, p5, p6, u1, u2]
      refine ho.app (m := 1) (news := rdC y) rfl rfl (by omega) (by omega) fun v2 T2 ho => aft_nil ?_
      obtain ⟨p1, p2, p3, p4, p5, p6⟩ := ho.form
      simp -implicitDefEqProofs -dsimp only [go_sem, Nat.reduceEqDiff, Nat.reduceAdd, Nat.reduceMul, Nat.reduceSub, Nat.reduceLT, Nat.reduceLeDiff, Nat.reduceBEq, reduceIte, reduceCtorEq, Int.reduceLT, Int.reduceLE, Int.reduceEq, Int.reduceNeg, Int.reduceToNat, Int.reduceAdd, Int.reduceSub, p1, p2, p3, p4, p5, p6, u1, u2]
      rw [wrap_succ (by omega)]
      refine ih (k + 1) hk' hlt (os ++ [y]) v2 T2 (by simp; omega) (by simpa using ho) fun v T1 ho => h2 v T1 ?_
      rw [List.filter_cons_of_pos (by rw [hin])]
      simpa only [List.append_assoc, List.cons_append, List.nil_append] using ho

theorem lp_PartW {R : RPost} (hR : ExtR R) {T : Tab} {xs : List Wt} {cap : Option Nat} {sh n : Int} {v8 : AV} (hv : v8.plain = true ∧ ∀ k, v8.offLp k = v8) (hl : xs.length < 1000000000) (hs : ∀ r ∈ xs, Len r.k.length) : ∀ (ys : List Wt) (k : Nat), xs.drop k = ys → k ≤ xs.length → ∀ (os : List Wt) (v : AV) (T1 : Tab), os.length ≤ k →
    Own T 3 v os.length (os.flatMap wtC) T1 →
    (∀ v T1, Own T 3 v (os ++ ys.filter fun r => inS sh n r.k).length ((os ++ ys.filter fun r => inS sh n r.k).flatMap wtC) T1 → R (.exit 2) [(1, .i .i64 sh), (2, .i .i64 n), (8, v8), (9, v), (33, .fz xs.length (xs.flatMap wtC) cap), (34, .i .i64 xs.length), (35, .i .i64 xs.length), (36, .b false)] [] T1) →
    AW prog entry_Txn_Part_l1 R [(1, .i .i64 sh), (2, .i .i64 n), (8, v8), (9, v), (33, .fz xs.length (xs.flatMap wtC) cap), (34, .i .i64 xs.length), (35, .i .i64 k)] [] T1 := by
  obtain ⟨u1, u2⟩ := hv
  intro ys
  induction ys with
  | nil =>
    intro k hk hle os v T1 hx ho h2
    obtain ⟨p1, p2, p3, p4, p5, p6⟩ := ho.form
    have hk' := drop_nil hk hle
    refine AW_loop hR ?_
    unfold entry_Txn_Part_l1b
    simp -implicitDefEqProofs -dsimp only [go_sem, Nat.reduceEqDiff, Nat.reduceAdd, Nat.reduceMul, Nat.reduceSub, Nat.reduceLT, Nat.reduceLeDiff, Nat.reduceBEq, reduceIte, reduceCtorEq, Int.reduceLT, Int.reduceLE, Int.reduceEq, Int.reduceNeg, Int.reduceToNat, Int.reduceAdd, Int.reduceSub, hk', Int.lt_irrefl, p1, p2, p3, p4, p5, p6, u1, u2]
    rw [hk'] at h2
    refine h2 _ _ ?_
    simpa only [List.filter_nil, List.append_nil] using ho
  | cons y ys ih =>
    intro k hk hle os v T1 hx ho h2
    obtain ⟨hlt, hy, hk'⟩ := drop_lt hk
    obtain ⟨p1, p2, p3, p4, p5, p6⟩ := ho.form
    have hc := flat_at wtC_len hy
    have hc5 : k * 3 + 3 ≤ (xs.flatMap wtC).length := by rw [flat_length wtC_len]; omega
    have hm : y ∈ xs := List.mem_of_getElem? hy
    refine AW_loopD (l := entry_Txn_Part_l1) rfl hR ?_
    unfold entry_Txn_Part_l1b
    simp -implicitDefEqProofs -dsimp only [go_sem, Nat.reduceEqDiff, Nat.reduceAdd, Nat.reduceMul, Nat.reduceSub, Nat.reduceLT, Nat.reduceLeDiff, Nat.reduceBEq, reduceIte, reduceCtorEq, Int.reduceLT, Int.reduceLE, Int.reduceEq, Int.reduceNeg, Int.reduceToNat, Int.reduceAdd, Int.reduceSub, Int.ofNat_lt, hlt, Int.natCast_nonneg, Int.toNat_natCast, hc, hc5, wtC, List.cons_append, List.nil_append, p1, p2, p3, p4, p5, p6, u1, u2, ↓g_call _ _ c_keys_Shard]
    refine CallK.pure (pc_kShard y.k n (hs y hm)) (aft_nil ?_)
    rcases hin : inS sh n y.k with _ | _
    · have hin' : decide ((shardOf y.k n : Int) = sh) = false := hin
      simp -implicitDefEqProofs -dsimp only [go_sem, Nat.reduceEqDiff, Nat.reduceAdd, Nat.reduceMul, Nat.reduceSub, Nat.reduceLT, Nat.reduceLeDiff, Nat.reduceBEq, reduceIte, reduceCtorEq, Int.reduceLT, Int.reduceLE, Int.reduceEq, Int.reduceNeg, Int.reduceToNat, Int.reduceAdd, Int.reduceSub, hin', p1, p2, p3, p4, p5, p6, u1, u2]
      rw [wrap_succ (by omega)]
      refine ih (k + 1) hk' hlt os v T1 (by omega) ho fun v T1 ho => h2 v T1 ?_
      rw [List.filter_cons_of_neg (by rw [hin]; decide)]
      exact ho
    · have hin' : decide ((shardOf y.k n : Int) = sh) = true := hin
      simp -implicitDefEqProofs -dsimp only [go_sem, Nat.reduceEqDiff, Nat.reduceAdd, Nat.reduceMul, Nat.reduceSub, Nat.reduceLT, Nat.reduceLeDiff, Nat.reduceBEq, reduceIte, reduceCtorEq, Int.reduceLT, Int.reduceLE, Int.reduceEq, Int.reduceNeg, Int.reduceToNat, Int.reduceAdd, Int.reduceSub, hin', p1, p2, p3, p4, p5, p6, u1, u2]
      refine ho.app (m := 1) (news := wtC y) rfl rfl (by omega) (by omega) fun v2 T2 ho => aft_nil ?_
      obtain ⟨p1, p2, p3, p4, p5, p6⟩ := ho.form
      simp -implicitDefEqProofs -dsimp only [go_sem, Nat.reduceEqDiff, Nat.reduceAdd, Nat.reduceMul, Nat.reduceSub, Nat.reduceLT, Nat.reduceLeDiff, Nat.reduceBEq, reduceIte, reduceCtorEq, Int.reduceLT, Int.reduceLE, Int.reduceEq, Int.reduceNeg, Int.reduceToNat, Int.reduceAdd, Int.reduceSub, p1, p2, p3, p4, p5, p6, u1, u2]
      rw [wrap_succ (by omega)]
      refine ih (k + 1) hk' hlt (os ++ [y]) v2 T2 (by simp; omega) (by simpa using ho) fun v T1 ho => h2 v T1 ?_
      rw [List.filter_cons_of_pos (by rw [hin])]
      simpa only [List.append_assoc, List.cons_append, List.nil_append] using ho

def Tx.pr (t : Tx) (sh n : Int) : List Rd := t.rs.filter fun r => inS sh n r.k
def Tx.pw (t : Tx) (sh n : Int) : List Wt := t.ws.filter fun r => inS sh n r.k
theorem pc_Part (t : Tx) (k1 k2 : Option Nat) (sh n : Int) (hf : t.Fine) : PCalls prog f_entry_Txn_Part [.agg (t.cells k1 k2), .i .i64 sh, .i .i64 n]
    (.tup [.fz (t.pr sh n).length ((t.pr sh n).flatMap rdC) none, .fz (t.pw sh n).length ((t.pw sh n).flatMap wtC) none]) := by
  refine pcalls_of mixed t_entry_Txn_Part (by simp) fun T => ?_
  unfold s_entry_Txn_Part
  simp -implicitDefEqProofs -dsimp only [go_sem, Nat.reduceEqDiff, Nat.reduceAdd, Nat.reduceMul, Nat.reduceSub, Nat.reduceLT, Nat.reduceLeDiff, Nat.reduceBEq, reduceIte, reduceCtorEq, Int.reduceLT, Int.reduceLE, Int.reduceEq, Int.reduceNeg, Int.reduceToNat, Int.reduceAdd, Int.reduceSub, Tx.cells]
  refine lp_PartR (T := T) (by repeat' (first | exact finX_ext _ _ | assumption | apply blkR_ext | apply thenR_ext | apply AW_ext)) ⟨rfl, fun _ => rfl⟩ hf.r hf.rk t.rs 0 rfl (by omega) [] _ _ (by simp) (.nil ..) (fun v1 T1 o1 => ?_)
  obtain ⟨p1, p2, p3, p4, p5, p6⟩ := o1.form
  simp -implicitDefEqProofs -dsimp only [go_sem, Nat.reduceEqDiff, Nat.reduceAdd, Nat.reduceMul, Nat.reduceSub, Nat.reduceLT, Nat.reduceLeDiff, Nat.reduceBEq, reduceIte, reduceCtorEq, Int.reduceLT, Int.reduceLE, Int.reduceEq, Int.reduceNeg, Int.reduceToNat, Int.reduceAdd, Int.reduceSub, p1, p2, p3, p4, p5, p6]
  refine lp_PartW (T := T1) (by repeat' (first | exact finX_ext _ _ | assumption | apply blkR_ext | apply thenR_ext | apply AW_ext)) ⟨p1, p6⟩ hf.w hf.wk t.ws 0 rfl (by omega) [] _ _ (by simp) (.nil ..) (fun v2 T2 o2 => ?_)
  obtain ⟨q1, q2, q3, q4, q5, q6⟩ := o2.form
  simp -implicitDefEqProofs -dsimp only [go_sem, Nat.reduceEqDiff, Nat.reduceAdd, Nat.reduceMul, Nat.reduceSub, Nat.reduceLT, Nat.reduceLeDiff, Nat.reduceBEq, reduceIte, reduceCtorEq, Int.reduceLT, Int.reduceLE, Int.reduceEq, Int.reduceNeg, Int.reduceToNat, Int.reduceAdd, Int.reduceSub, p1, p2, p3, p4, p5, p6, q1, q2, q3, q4, q5, q6]
  have how : Owns T [⟨3, v2, (t.pw sh n).length, (t.pw sh n).flatMap wtC⟩, ⟨2, v1, (t.pr sh n).length, (t.pr sh n).flatMap rdC⟩] T2 := ⟨T1, ⟨T, rfl, o1⟩, o2⟩
  refine finL_owns how fun S hS => ?_
  obtain ⟨c1, e1⟩ := hS _ (List.mem_cons_of_mem _ (List.mem_cons_self ..))
  obtain ⟨c2, e2⟩ := hS _ (List.mem_cons_self ..)
  simp only at e1 e2
  have f1 : frzv T2 S v1 = .fz (t.pr sh n).length ((t.pr sh n).flatMap rdC) c1 := by
    rw [← e1]; rcases o1.2 with ⟨rfl, _⟩ | ⟨id, rfl, _⟩ <;> rfl
  have f2 : frzv T2 S v2 = .fz (t.pw sh n).length ((t.pw sh n).flatMap wtC) c2 := by
    rw [← e2]; rcases o2.2 with ⟨rfl, _⟩ | ⟨id, rfl, _⟩ <;> rfl
  simp only [frzt, List.map_cons, List.map_nil, f1, f2]
  exact Wk.tup ⟨.fz, .fz, trivial⟩
end Go.Aw
