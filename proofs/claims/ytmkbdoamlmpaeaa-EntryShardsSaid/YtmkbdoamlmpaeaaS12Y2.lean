import Derived.Test.YtmkbdoamlmpaeaaS12Y
import Derived.Test.YtmkbdoamlmpaeaaAwMore2
namespace Go.Aw
open Go
open Go.Proofs.Try (prog)
set_option linter.all false
set_option maxHeartbeats 4000000

theorem pr_le (t : Tx) (s n : Int) : (t.pr s n).length ≤ t.rs.length := List.length_filter_le ..
theorem pw_le (t : Tx) (s n : Int) : (t.pw s n).length ≤ t.ws.length := List.length_filter_le ..
theorem wrap_add {a b : Nat} (h : a + b < 1000000000) : IntKind.i64.wrap ((a : Int) + (b : Int)) = ((a + b : Nat) : Int) := by
  rw [wrap_i64 (by unfold I64; omega)]; omega

theorem lp_ES0 {R : RPost} (hR : ExtR R) {T : Tab} {t : Tx} {n sh : Int} {ss : List Int} {c1 c2 : Option Nat} {k1 k2 : Option Nat} {wc : List AV} (hf : t.Fine) (hr : t.rs.length ≤ 10) (hw : t.ws.length ≤ 10) (h4 : ss.length ≤ 4) (hpos : ∀ s ∈ ss, 0 < (t.pr s n).length + (t.pw s n).length) : ∀ (ys : List Int) (k : Nat), ss.drop k = ys → k ≤ ss.length → ∀ (r w : Nat), r ≤ 10 * k → w ≤ 10 * k →
    (R (.exit 0) [(1, .i .i64 n), (2, .i .i64 sh), (7, .lp 7 0), (8, .lp 8 0), (10, .fz ss.length (ints ss) c2), (11, .i .i64 ((r + sumR t n ys : Nat) : Int)), (12, .i .i64 ((w + sumW t n ys : Nat) : Int)), (44, .fz ss.length (ints ss) c1), (45, .i .i64 ss.length), (46, .i .i64 ss.length), (47, .b false)] [(7, t.cells k1 k2), (8, wc)] T) →
    AW prog sautoirlaw12_EntryShards_l0 R [(1, .i .i64 n), (2, .i .i64 sh), (7, .lp 7 0), (8, .lp 8 0), (10, .fz ss.length (ints ss) c2), (11, .i .i64 r), (12, .i .i64 w), (44, .fz ss.length (ints ss) c1), (45, .i .i64 ss.length), (46, .i .i64 k)] [(7, t.cells k1 k2), (8, wc)] T := by
  intro ys
  induction ys with
  | nil =>
    intro k hk hle r w hr0 hw0 h2
    have hk' := drop_nil hk hle
    refine AW_loop hR ?_
    unfold sautoirlaw12_EntryShards_l0b
    simp -implicitDefEqProofs -dsimp only [go_sem, Nat.reduceEqDiff, Nat.reduceAdd, Nat.reduceMul, Nat.reduceSub, Nat.reduceLT, Nat.reduceLeDiff, Nat.reduceBEq, reduceIte, reduceCtorEq, Int.reduceLT, Int.reduceLE, Int.reduceEq, Int.reduceNeg, Int.reduceToNat, Int.reduceAdd, Int.reduceSub, hk', Int.lt_irrefl]
    rw [hk'] at h2
    exact h2
  | cons y ys ih =>
    intro k hk hle r w hr0 hw0 h2
    obtain ⟨hlt, hy, hk'⟩ := drop_lt hk
    have hm : y ∈ ss := List.mem_of_getElem? hy
    have hp := hpos y hm
    have l1 := pr_le t y n
    have l2 := pw_le t y n
    have c := pc_Part t k1 k2 y n hf
    simp only [Tx.cells] at c
    have hl5 : (t.cells k1 k2).length = 5 := rfl
    have ht5 : (t.cells k1 k2).take 5 = t.cells k1 k2 := rfl
    have w1 := wrap_add (a := r) (b := (t.pr y n).length) (by omega)
    have w2 := wrap_add (a := w) (b := (t.pw y n).length) (by omega)
    have w3 := wrap_add (a := (t.pr y n).length) (b := (t.pw y n).length) (by omega)
    have hne : decide ((((t.pr y n).length + (t.pw y n).length : Nat) : Int) = 0) = false := decide_eq_false (by omega)
    refine AW_loopD (l := sautoirlaw12_EntryShards_l0) rfl hR ?_
    unfold sautoirlaw12_EntryShards_l0b
    simp only [Tx.cells] at h2 ⊢
    simp -implicitDefEqProofs -dsimp only [go_sem, Nat.reduceEqDiff, Nat.reduceAdd, Nat.reduceMul, Nat.reduceSub, Nat.reduceLT, Nat.reduceLeDiff, Nat.reduceBEq, reduceIte, reduceCtorEq, Int.reduceLT, Int.reduceLE, Int.reduceEq, Int.reduceNeg, Int.reduceToNat, Int.reduceAdd, Int.reduceSub, Int.ofNat_lt, hlt, Int.natCast_nonneg, Int.toNat_natCast, ints_at, hy, ↓g_call _ _ c_entry_Txn_Part]
    refine CallK.pure c (aft_nil ?_)
    simp -implicitDefEqProofs -dsimp only [go_sem, Nat.reduceEqDiff, Nat.reduceAdd, Nat.reduceMul, Nat.reduceSub, Nat.reduceLT, Nat.reduceLeDiff, Nat.reduceBEq, reduceIte, reduceCtorEq, Int.reduceLT, Int.reduceLE, Int.reduceEq, Int.reduceNeg, Int.reduceToNat, Int.reduceAdd, Int.reduceSub, w1, w2, w3, hne, Int.ofNat_lt, hlt, Int.natCast_nonneg, Int.toNat_natCast, ints_at, hy, decide_true, decide_false]
    rw [wrap_succ (by omega)]
    refine ih (k + 1) hk' hlt (r + (t.pr y n).length) (w + (t.pw y n).length) (by omega) (by omega) ?_
    simpa only [sumR, sumW, List.map_cons, List.sum_cons, Nat.add_assoc, Tx.cells] using h2

theorem lp_ES1 {R : RPost} (hR : ExtR R) {T : Tab} {xs : List Rd} {cap : Option Nat} {sh n : Int} {a11 a12 a17 a18 b1 b2 b3 b5 : AV} {c7 c8 : List AV} (ha : (∀ k, a11.offLp k = a11) ∧ (∀ k, a12.offLp k = a12) ∧ (∀ k, a17.offLp k = a17) ∧ (∀ k, a18.offLp k = a18)) (hl : xs.length < 1000000000) (hs : ∀ r ∈ xs, Len r.k.length) (hb : b1.plain = true ∧ b2.plain = true ∧ b3.plain = true ∧ b5.plain = true) : ∀ (ys : List Rd) (k : Nat), xs.drop k = ys → k ≤ xs.length → ∀ (os : List Rd) (v : AV) (T1 : Tab), os.length ≤ k →
    Own T 2 v os.length (os.flatMap rdC) T1 →
    (∀ v T1, Own T 2 v (os ++ ys.filter fun r => inS sh n r.k).length ((os ++ ys.filter fun r => inS sh n r.k).flatMap rdC) T1 → R (.exit 2) [(1, .i .i64 n), (2, .i .i64 sh), (7, .lp 7 0), (8, .lp 8 0), (11, a11), (12, a12), (17, a17), (18, a18), (19, .lp 19 0), (89, .fz xs.length (xs.flatMap rdC) cap), (90, .i .i64 xs.length), (91, .i .i64 xs.length), (92, .b false)] [(7, c7), (8, c8), (19, [b1, b2, b3, v, b5])] T1) →
    AW prog sautoirlaw12_EntryShards_l1 R [(1, .i .i64 n), (2, .i .i64 sh), (7, .lp 7 0), (8, .lp 8 0), (11, a11), (12, a12), (17, a17), (18, a18), (19, .lp 19 0), (89, .fz xs.length (xs.flatMap rdC) cap), (90, .i .i64 xs.length), (91, .i .i64 k)] [(7, c7), (8, c8), (19, [b1, b2, b3, v, b5])] T1 := by
  obtain ⟨u1, u2, u3, u4⟩ := ha
  intro ys
  induction ys with
  | nil =>
    intro k hk hle os v T1 hx ho h2
    obtain ⟨p1, p2, p3, p4, p5, p6⟩ := ho.form
    have hk' := drop_nil hk hle
    refine AW_loop hR ?_
    unfold sautoirlaw12_EntryShards_l1b
    simp -implicitDefEqProofs -dsimp only [go_sem, Nat.reduceEqDiff, Nat.reduceAdd, Nat.reduceMul, Nat.reduceSub, Nat.reduceLT, Nat.reduceLeDiff, Nat.reduceBEq, reduceIte, reduceCtorEq, Int.reduceLT, Int.reduceLE, Int.reduceEq, Int.reduceNeg, Int.reduceToNat, Int.reduceAdd, Int.reduceSub, hk', Int.lt_irrefl, p1, p2, p3, p4, p5, p6, u1, u2, u3, u4]
    rw [hk'] at h2
    refine h2 _ _ ?_
    simpa only [List.filter_nil, List.append_nil] using ho
  | cons y ys ih =>
    intro k hk hle os v T1 hx ho h2
    obtain ⟨hlt, hy, hk'⟩ := drop_lt hk
    obtain ⟨p1, p2, p3, p4, p5, p6⟩ := ho.form
    have hc := flat_at rdC_len hy
    have hc5 : k * 2 + 2 ≤ (xs.flatMap rdC).length := by rw [flat_length rdC_len]; omega
    have hm : y ∈ xs := List.mem_of_getElem? hy
    refine AW_loopD (l := sautoirlaw12_EntryShards_l1) rfl hR ?_
    unfold sautoirlaw12_EntryShards_l1b
    simp -implicitDefEqProofs -dsimp only [go_sem, Nat.reduceEqDiff, Nat.reduceAdd, Nat.reduceMul, Nat.reduceSub, Nat.reduceLT, Nat.reduceLeDiff, Nat.reduceBEq, reduceIte, reduceCtorEq, Int.reduceLT, Int.reduceLE, Int.reduceEq, Int.reduceNeg, Int.reduceToNat, Int.reduceAdd, Int.reduceSub, Int.ofNat_lt, hlt, Int.natCast_nonneg, Int.toNat_natCast, hc, hc5, rdC, List.cons_append, List.nil_append, p1, p2, p3, p4, p5, p6, u1, u2, u3, u4, ↓g_call _ _ c_sautoirref08_Shard]
    refine CallK.pure (pc_rShard y.k n (hs y hm)) (aft_nil ?_)
    rcases hin : inS sh n y.k with _ | _
    · have hin' : decide ((shardOf y.k n : Int) = sh) = false := hin
      simp -implicitDefEqProofs -dsimp only [go_sem, Nat.reduceEqDiff, Nat.reduceAdd, Nat.reduceMul, Nat.reduceSub, Nat.reduceLT, Nat.reduceLeDiff, Nat.reduceBEq, reduceIte, reduceCtorEq, Int.reduceLT, Int.reduceLE, Int.reduceEq, Int.reduceNeg, Int.reduceToNat, Int.reduceAdd, Int.reduceSub, hin', p1, p2, p3, p4, p5, p6, u1, u2, u3, u4]
      rw [wrap_succ (by omega)]
      refine ih (k + 1) hk' hlt os v T1 (by omega) ho fun v T1 ho => h2 v T1 ?_
      rw [List.filter_cons_of_neg (by rw [hin]; decide)]
      exact ho
    · have hin' : decide ((shardOf y.k n : Int) = sh) = true := hin
      obtain ⟨hb1, hb2, hb3, hb5⟩ := hb
      simp -implicitDefEqProofs -dsimp only [go_sem, Nat.reduceEqDiff, Nat.reduceAdd, Nat.reduceMul, Nat.reduceSub, Nat.reduceLT, Nat.reduceLeDiff, Nat.reduceBEq, reduceIte, reduceCtorEq, Int.reduceLT, Int.reduceLE, Int.reduceEq, Int.reduceNeg, Int.reduceToNat, Int.reduceAdd, Int.reduceSub, hin', p1, p2, p3, p4, p5, p6, u1, u2, u3, u4, hb1, hb2, hb3, hb5]
      refine ho.app (m := 1) (news := rdC y) rfl rfl (by omega) (by omega) fun v2 T2 ho => aft_nil ?_
      obtain ⟨p1, p2, p3, p4, p5, p6⟩ := ho.form
      simp -implicitDefEqProofs -dsimp only [go_sem, Nat.reduceEqDiff, Nat.reduceAdd, Nat.reduceMul, Nat.reduceSub, Nat.reduceLT, Nat.reduceLeDiff, Nat.reduceBEq, reduceIte, reduceCtorEq, Int.reduceLT, Int.reduceLE, Int.reduceEq, Int.reduceNeg, Int.reduceToNat, Int.reduceAdd, Int.reduceSub, p1, p2, p3, p4, p5, p6, u1, u2, u3, u4, hb1, hb2, hb3, hb5]
      rw [wrap_succ (by omega)]
      refine ih (k + 1) hk' hlt (os ++ [y]) v2 T2 (by simp; omega) (by simpa using ho) fun v T1 ho => h2 v T1 ?_
      rw [List.filter_cons_of_pos (by rw [hin])]
      simpa only [List.append_assoc, List.cons_append, List.nil_append] using ho

theorem lp_ES2 {R : RPost} (hR : ExtR R) {T : Tab} {xs : List Wt} {cap : Option Nat} {sh n : Int} {a11 a12 a17 a18 b1 b2 b3 b4 : AV} {c7 c8 : List AV} (ha : (∀ k, a11.offLp k = a11) ∧ (∀ k, a12.offLp k = a12) ∧ (∀ k, a17.offLp k = a17) ∧ (∀ k, a18.offLp k = a18)) (hl : xs.length < 1000000000) (hs : ∀ r ∈ xs, Len r.k.length) (hb : b1.plain = true ∧ b2.plain = true ∧ b3.plain = true ∧ b4.plain = true) : ∀ (ys : List Wt) (k : Nat), xs.drop k = ys → k ≤ xs.length → ∀ (os : List Wt) (v : AV) (T1 : Tab), os.length ≤ k →
    Own T 3 v os.length (os.flatMap wtC) T1 →
    (∀ v T1, Own T 3 v (os ++ ys.filter fun r => inS sh n r.k).length ((os ++ ys.filter fun r => inS sh n r.k).flatMap wtC) T1 → R (.exit 4) [(1, .i .i64 n), (2, .i .i64 sh), (7, .lp 7 0), (8, .lp 8 0), (11, a11), (12, a12), (17, a17), (18, a18), (19, .lp 19 0), (109, .fz xs.length (xs.flatMap wtC) cap), (110, .i .i64 xs.length), (111, .i .i64 xs.length), (112, .b false)] [(7, c7), (8, c8), (19, [b1, b2, b3, b4, v])] T1) →
    AW prog sautoirlaw12_EntryShards_l2 R [(1, .i .i64 n), (2, .i .i64 sh), (7, .lp 7 0), (8, .lp 8 0), (11, a11), (12, a12), (17, a17), (18, a18), (19, .lp 19 0), (109, .fz xs.length (xs.flatMap wtC) cap), (110, .i .i64 xs.length), (111, .i .i64 k)] [(7, c7), (8, c8), (19, [b1, b2, b3, b4, v])] T1 := by
  obtain ⟨u1, u2, u3, u4⟩ := ha
  intro ys
  induction ys with
  | nil =>
    intro k hk hle os v T1 hx ho h2
    obtain ⟨p1, p2, p3, p4, p5, p6⟩ := ho.form
    have hk' := drop_nil hk hle
    refine AW_loop hR ?_
    unfold sautoirlaw12_EntryShards_l2b
    simp -implicitDefEqProofs -dsimp only [go_sem, Nat.reduceEqDiff, Nat.reduceAdd, Nat.reduceMul, Nat.reduceSub, Nat.reduceLT, Nat.reduceLeDiff, Nat.reduceBEq, reduceIte, reduceCtorEq, Int.reduceLT, Int.reduceLE, Int.reduceEq, Int.reduceNeg, Int.reduceToNat, Int.reduceAdd, Int.reduceSub, hk', Int.lt_irrefl, p1, p2, p3, p4, p5, p6, u1, u2, u3, u4]
    rw [hk'] at h2
    refine h2 _ _ ?_
    simpa only [List.filter_nil, List.append_nil] using ho
  | cons y ys ih =>
    intro k hk hle os v T1 hx ho h2
    obtain ⟨hlt, hy, hk'⟩ := drop_lt hk
    obtain ⟨p1, p2, p3, p4, p5, p6⟩ := ho.form
    have hc := flat_at wtC_len hy
    have hc5 : k * 3 + 3 ≤ (xs.flatMap wtC).length := by rw [flat_length wtC_len]; omega
    have hm : y ∈ xs := List.mem_of_getElem? hy
    refine AW_loopD (l := sautoirlaw12_EntryShards_l2) rfl hR ?_
    unfold sautoirlaw12_EntryShards_l2b
    simp -implicitDefEqProofs -dsimp only [go_sem, Nat.reduceEqDiff, Nat.reduceAdd, Nat.reduceMul, Nat.reduceSub, Nat.reduceLT, Nat.reduceLeDiff, Nat.reduceBEq, reduceIte, reduceCtorEq, Int.reduceLT, Int.reduceLE, Int.reduceEq, Int.reduceNeg, Int.reduceToNat, Int.reduceAdd, Int.reduceSub, Int.ofNat_lt, hlt, Int.natCast_nonneg, Int.toNat_natCast, hc, hc5, wtC, List.cons_append, List.nil_append, p1, p2, p3, p4, p5, p6, u1, u2, u3, u4, ↓g_call _ _ c_sautoirref08_Shard]
    refine CallK.pure (pc_rShard y.k n (hs y hm)) (aft_nil ?_)
    rcases hin : inS sh n y.k with _ | _
    · have hin' : decide ((shardOf y.k n : Int) = sh) = false := hin
      simp -implicitDefEqProofs -dsimp only [go_sem, Nat.reduceEqDiff, Nat.reduceAdd, Nat.reduceMul, Nat.reduceSub, Nat.reduceLT, Nat.reduceLeDiff, Nat.reduceBEq, reduceIte, reduceCtorEq, Int.reduceLT, Int.reduceLE, Int.reduceEq, Int.reduceNeg, Int.reduceToNat, Int.reduceAdd, Int.reduceSub, hin', p1, p2, p3, p4, p5, p6, u1, u2, u3, u4]
      rw [wrap_succ (by omega)]
      refine ih (k + 1) hk' hlt os v T1 (by omega) ho fun v T1 ho => h2 v T1 ?_
      rw [List.filter_cons_of_neg (by rw [hin]; decide)]
      exact ho
    · have hin' : decide ((shardOf y.k n : Int) = sh) = true := hin
      obtain ⟨hb1, hb2, hb3, hb5⟩ := hb
      simp -implicitDefEqProofs -dsimp only [go_sem, Nat.reduceEqDiff, Nat.reduceAdd, Nat.reduceMul, Nat.reduceSub, Nat.reduceLT, Nat.reduceLeDiff, Nat.reduceBEq, reduceIte, reduceCtorEq, Int.reduceLT, Int.reduceLE, Int.reduceEq, Int.reduceNeg, Int.reduceToNat, Int.reduceAdd, Int.reduceSub, hin', p1, p2, p3, p4, p5, p6, u1, u2, u3, u4, hb1, hb2, hb3, hb5]
      refine ho.app (m := 1) (news := wtC y) rfl rfl (by omega) (by omega) fun v2 T2 ho => aft_nil ?_
      obtain ⟨p1, p2, p3, p4, p5, p6⟩ := ho.form
      simp -implicitDefEqProofs -dsimp only [go_sem, Nat.reduceEqDiff, Nat.reduceAdd, Nat.reduceMul, Nat.reduceSub, Nat.reduceLT, Nat.reduceLeDiff, Nat.reduceBEq, reduceIte, reduceCtorEq, Int.reduceLT, Int.reduceLE, Int.reduceEq, Int.reduceNeg, Int.reduceToNat, Int.reduceAdd, Int.reduceSub, p1, p2, p3, p4, p5, p6, u1, u2, u3, u4, hb1, hb2, hb3, hb5]
      rw [wrap_succ (by omega)]
      refine ih (k + 1) hk' hlt (os ++ [y]) v2 T2 (by simp; omega) (by simpa using ho) fun v T1 ho => h2 v T1 ?_
      rw [List.filter_cons_of_pos (by rw [hin])]
      simpa only [List.append_assoc, List.cons_append, List.nil_append] using ho

theorem pc_EntryShards (t : Tx) (k1 k2 : Option Nat) (n sh : Int) (hf : t.Wide) (hsq : 0 ≤ t.sq) : PCalls prog f_sautoirlaw12_EntryShards [.agg (t.cells k1 k2), .i .i64 n, .i .i64 sh] (.b true) := by
  refine pcalls_of mixed t_sautoirlaw12_EntryShards (by simp) fun T => ?_
  have hr : t.our.rs.length ≤ 10 := by simp only [Tx.our, List.length_take]; omega
  have hw : t.our.ws.length ≤ 10 := by simp only [Tx.our, List.length_take]; omega
  have c1 := pc_OurTxn t k1 k2 hf
  have c2 := pc_PlainTxn t.our none none hf.our
  have c3 := pc_rRightTxn t.our none none hf.our hsq
  have c4 := pc_tShards t.our none none n hf.our (by omega) (by omega)
  have c5 := pc_rKeys t.our none none hf.our
  have c6 := pc_rShards t.our.keys none n (by simp [Tx.keys]; omega) (Tx.keys_len hf.our)
  have c7 := pc_Part t.our none none sh n hf.our
  have c8 := pc_Keys t.our none none hf.our (by omega) (by omega)
  simp only [Tx.cells] at c1 c2 c3 c4 c5 c7 c8
  unfold s_sautoirlaw12_EntryShards
  simp -implicitDefEqProofs -dsimp only [go_sem, Nat.reduceEqDiff, Nat.reduceAdd, Nat.reduceMul, Nat.reduceSub, Nat.reduceLT, Nat.reduceLeDiff, Nat.reduceBEq, reduceIte, reduceCtorEq, Int.reduceLT, Int.reduceLE, Int.reduceEq, Int.reduceNeg, Int.reduceToNat, Int.reduceAdd, Int.reduceSub, Tx.cells, ↓g_call _ _ c_sautoirlaw12_OurTxn]
  refine CallK.pure c1 (aft_nil ?_)
  simp -implicitDefEqProofs -dsimp only [go_sem, Nat.reduceEqDiff, Nat.reduceAdd, Nat.reduceMul, Nat.reduceSub, Nat.reduceLT, Nat.reduceLeDiff, Nat.reduceBEq, reduceIte, reduceCtorEq, Int.reduceLT, Int.reduceLE, Int.reduceEq, Int.reduceNeg, Int.reduceToNat, Int.reduceAdd, Int.reduceSub, ↓g_call _ _ c_sautoirlaw12_PlainTxn]
  refine CallK.pure c2 (aft_nil ?_)
  simp -implicitDefEqProofs -dsimp only [go_sem, Nat.reduceEqDiff, Nat.reduceAdd, Nat.reduceMul, Nat.reduceSub, Nat.reduceLT, Nat.reduceLeDiff, Nat.reduceBEq, reduceIte, reduceCtorEq, Int.reduceLT, Int.reduceLE, Int.reduceEq, Int.reduceNeg, Int.reduceToNat, Int.reduceAdd, Int.reduceSub, ↓g_call _ _ c_sautoirref12_RightTxn]
  refine CallK.pure c3 (aft_nil ?_)
  rcases hok : txOk t.our with _ | _
  · simp -implicitDefEqProofs -dsimp only [go_sem, Nat.reduceEqDiff, Nat.reduceAdd, Nat.reduceMul, Nat.reduceSub, Nat.reduceLT, Nat.reduceLeDiff, Nat.reduceBEq, reduceIte, reduceCtorEq, Int.reduceLT, Int.reduceLE, Int.reduceEq, Int.reduceNeg, Int.reduceToNat, Int.reduceAdd, Int.reduceSub, hok, ↓g_call _ _ c_sautoirlaw12_awake]
    refine CallK.pure pc_awake12 (aft_nil ?_)
    simp -implicitDefEqProofs -dsimp only [go_sem, Nat.reduceEqDiff, Nat.reduceAdd, Nat.reduceMul, Nat.reduceSub, Nat.reduceLT, Nat.reduceLeDiff, Nat.reduceBEq, reduceIte, reduceCtorEq, Int.reduceLT, Int.reduceLE, Int.reduceEq, Int.reduceNeg, Int.reduceToNat, Int.reduceAdd, Int.reduceSub]
    exact finL_pure rfl
  simp -implicitDefEqProofs -dsimp only [go_sem, Nat.reduceEqDiff, Nat.reduceAdd, Nat.reduceMul, Nat.reduceSub, Nat.reduceLT, Nat.reduceLeDiff, Nat.reduceBEq, reduceIte, reduceCtorEq, Int.reduceLT, Int.reduceLE, Int.reduceEq, Int.reduceNeg, Int.reduceToNat, Int.reduceAdd, Int.reduceSub, hok, ↓g_call _ _ c_entry_Txn_Shards]
  refine CallK.pure c4 (aft_nil ?_)
  simp -implicitDefEqProofs -dsimp only [go_sem, Nat.reduceEqDiff, Nat.reduceAdd, Nat.reduceMul, Nat.reduceSub, Nat.reduceLT, Nat.reduceLeDiff, Nat.reduceBEq, reduceIte, reduceCtorEq, Int.reduceLT, Int.reduceLE, Int.reduceEq, Int.reduceNeg, Int.reduceToNat, Int.reduceAdd, Int.reduceSub, ↓g_call _ _ c_sautoirref12_Keys]
  refine CallK.pure c5 (aft_nil ?_)
  simp -implicitDefEqProofs -dsimp only [go_sem, Nat.reduceEqDiff, Nat.reduceAdd, Nat.reduceMul, Nat.reduceSub, Nat.reduceLT, Nat.reduceLeDiff, Nat.reduceBEq, reduceIte, reduceCtorEq, Int.reduceLT, Int.reduceLE, Int.reduceEq, Int.reduceNeg, Int.reduceToNat, Int.reduceAdd, Int.reduceSub, ↓g_call _ _ c_sautoirref08_Shards]
  refine CallK.pure c6 (aft_nil ?_)
  simp -implicitDefEqProofs -dsimp only [go_sem, Nat.reduceEqDiff, Nat.reduceAdd, Nat.reduceMul, Nat.reduceSub, Nat.reduceLT, Nat.reduceLeDiff, Nat.reduceBEq, reduceIte, reduceCtorEq, Int.reduceLT, Int.reduceLE, Int.reduceEq, Int.reduceNeg, Int.reduceToNat, Int.reduceAdd, Int.reduceSub, decide_true, decide_false]
  refine lp_ES0 (T := T) (t := t.our) (k1 := none) (k2 := none) (by repeat' (first | exact finX_ext _ _ | assumption | apply blkR_ext | apply thenR_ext | apply AW_ext)) hf.our hr hw (idxs_len 0 (seenL t.our.keys n)) (fun s hs => part_pos hs) (shardsOf t.our.keys n) 0 rfl (by omega) 0 0 (by omega) (by omega) ?_
  simp only [sumR_all, sumW_all, Nat.zero_add, Tx.cells]
  simp -implicitDefEqProofs -dsimp only [go_sem, Nat.reduceEqDiff, Nat.reduceAdd, Nat.reduceMul, Nat.reduceSub, Nat.reduceLT, Nat.reduceLeDiff, Nat.reduceBEq, reduceIte, reduceCtorEq, Int.reduceLT, Int.reduceLE, Int.reduceEq, Int.reduceNeg, Int.reduceToNat, Int.reduceAdd, Int.reduceSub, ↓g_call _ _ c_entry_Txn_Part]
  refine CallK.pure c7 (aft_nil ?_)
  simp -implicitDefEqProofs -dsimp only [go_sem, Nat.reduceEqDiff, Nat.reduceAdd, Nat.reduceMul, Nat.reduceSub, Nat.reduceLT, Nat.reduceLeDiff, Nat.reduceBEq, reduceIte, reduceCtorEq, Int.reduceLT, Int.reduceLE, Int.reduceEq, Int.reduceNeg, Int.reduceToNat, Int.reduceAdd, Int.reduceSub]
  refine lp_ES1 (T := T) (by repeat' (first | exact finX_ext _ _ | assumption | apply blkR_ext | apply thenR_ext | apply AW_ext)) ⟨fun _ => rfl, fun _ => rfl, fun _ => rfl, fun _ => rfl⟩ hf.our.r hf.our.rk ⟨rfl, rfl, rfl, rfl⟩ t.our.rs 0 rfl (by omega) [] _ _ (by simp) (.nil ..) (fun v1 T1 o1 => ?_)
  obtain ⟨p1, p2, p3, p4, p5, p6⟩ := o1.form
  simp -implicitDefEqProofs -dsimp only [go_sem, Nat.reduceEqDiff, Nat.reduceAdd, Nat.reduceMul, Nat.reduceSub, Nat.reduceLT, Nat.reduceLeDiff, Nat.reduceBEq, reduceIte, reduceCtorEq, Int.reduceLT, Int.reduceLE, Int.reduceEq, Int.reduceNeg, Int.reduceToNat, Int.reduceAdd, Int.reduceSub, p1, p2, p3, p4, p5, p6]
  refine lp_ES2 (T := T1) (by repeat' (first | exact finX_ext _ _ | assumption | apply blkR_ext | apply thenR_ext | apply AW_ext)) ⟨fun _ => rfl, fun _ => rfl, fun _ => rfl, fun _ => rfl⟩ hf.our.w hf.our.wk ⟨rfl, rfl, rfl, p1⟩ t.our.ws 0 rfl (by omega) [] _ _ (by simp) (.nil ..) (fun v2 T2 o2 => ?_)
  obtain ⟨q1, q2, q3, q4, q5, q6⟩ := o2.form
  simp -implicitDefEqProofs -dsimp only [go_sem, Nat.reduceEqDiff, Nat.reduceAdd, Nat.reduceMul, Nat.reduceSub, Nat.reduceLT, Nat.reduceLeDiff, Nat.reduceBEq, reduceIte, reduceCtorEq, Int.reduceLT, Int.reduceLE, Int.reduceEq, Int.reduceNeg, Int.reduceToNat, Int.reduceAdd, Int.reduceSub, p1, p2, p3, p4, p5, p6, q1, q2, q3, q4, q5, q6, decide_true, decide_false]
  have how : Owns T [⟨3, v2, (t.our.pw sh n).length, (t.our.pw sh n).flatMap wtC⟩, ⟨2, v1, (t.our.pr sh n).length, (t.our.pr sh n).flatMap rdC⟩] T2 := ⟨T1, ⟨T, rfl, o1⟩, o2⟩
  have hpf : (⟨0, 0, false, t.our.pr sh n, t.our.pw sh n⟩ : Tx).Fine := ⟨by have := pr_le t.our sh n; simp only; omega, by have := pw_le t.our sh n; simp only; omega, fun r h => hf.our.rk r ((List.mem_filter.1 h).1), fun r h => hf.our.wk r ((List.mem_filter.1 h).1), fun r h => hf.our.wv r ((List.mem_filter.1 h).1)⟩
  have c9 := pc_PlainTxn ⟨0, 0, false, t.our.pr sh n, t.our.pw sh n⟩ none none hpf
  simp only [Tx.cells] at c9
  simp -implicitDefEqProofs -dsimp only [go_sem, Nat.reduceEqDiff, Nat.reduceAdd, Nat.reduceMul, Nat.reduceSub, Nat.reduceLT, Nat.reduceLeDiff, Nat.reduceBEq, reduceIte, reduceCtorEq, Int.reduceLT, Int.reduceLE, Int.reduceEq, Int.reduceNeg, Int.reduceToNat, Int.reduceAdd, Int.reduceSub, ↓g_call _ _ c_sautoirlaw12_PlainTxn]
  refine CallK.pure c9 (aft_nil ?_)
  simp -implicitDefEqProofs -dsimp only [go_sem, Nat.reduceEqDiff, Nat.reduceAdd, Nat.reduceMul, Nat.reduceSub, Nat.reduceLT, Nat.reduceLeDiff, Nat.reduceBEq, reduceIte, reduceCtorEq, Int.reduceLT, Int.reduceLE, Int.reduceEq, Int.reduceNeg, Int.reduceToNat, Int.reduceAdd, Int.reduceSub, ↓g_gdc, rcOk, true_and, ↓g_call _ _ c_sautoirref12_SameTxn]
  refine CallK.owns (R := fun v T' => v = .b true ∧ T' = T) how (fun S hS => ?_) (fun v T' h => ?_)
  · obtain ⟨d1, e1⟩ := hS _ (List.mem_cons_of_mem _ (List.mem_cons_self ..))
    obtain ⟨d2, e2⟩ := hS _ (List.mem_cons_self ..)
    simp only at e1 e2
    have c10 := pc_SameTxn_refl ⟨0, 0, false, t.our.pr sh n, t.our.pw sh n⟩ none none d1 d2 hpf T
    simp only [Tx.cells] at c10
    simp only [List.map_cons, List.map_nil, frzv, frz1_i, frz1_b, frz1_fz, e1, e2]
    exact c10
  obtain ⟨rfl, rfl⟩ := h
  refine aft_nil ?_
  simp -implicitDefEqProofs -dsimp only [go_sem, Nat.reduceEqDiff, Nat.reduceAdd, Nat.reduceMul, Nat.reduceSub, Nat.reduceLT, Nat.reduceLeDiff, Nat.reduceBEq, reduceIte, reduceCtorEq, Int.reduceLT, Int.reduceLE, Int.reduceEq, Int.reduceNeg, Int.reduceToNat, Int.reduceAdd, Int.reduceSub, p1, p2, p3, p4, p5, p6, q1, q2, q3, q4, q5, q6, decide_true, decide_false, ↓g_gdc, rcOk, true_and, ↓g_call _ _ c_entry_Txn_Keys]
  refine CallK.pure c8 (aft_nil ?_)
  have e8 : decide ((t.our.keys.length : Int) = ((t.our.rs.length + t.our.ws.length : Nat) : Int)) = true := decide_eq_true (by simp [Tx.keys])
  simp -implicitDefEqProofs -dsimp only [go_sem, Nat.reduceEqDiff, Nat.reduceAdd, Nat.reduceMul, Nat.reduceSub, Nat.reduceLT, Nat.reduceLeDiff, Nat.reduceBEq, reduceIte, reduceCtorEq, Int.reduceLT, Int.reduceLE, Int.reduceEq, Int.reduceNeg, Int.reduceToNat, Int.reduceAdd, Int.reduceSub, wrap_add (a := t.our.rs.length) (b := t.our.ws.length) (by omega), e8, ↓g_gdc, rcOk, true_and, ↓g_call _ _ c_sautoirlaw12_awake]
  refine CallK.pure pc_awake12 (aft_nil ?_)
  simp -implicitDefEqProofs -dsimp only [go_sem, Nat.reduceEqDiff, Nat.reduceAdd, Nat.reduceMul, Nat.reduceSub, Nat.reduceLT, Nat.reduceLeDiff, Nat.reduceBEq, reduceIte, reduceCtorEq, Int.reduceLT, Int.reduceLE, Int.reduceEq, Int.reduceNeg, Int.reduceToNat, Int.reduceAdd, Int.reduceSub]
  exact finL_pure rfl
end Go.Aw
