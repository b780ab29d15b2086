import Derived.Test.YtmkbdoamlmpaeaaDoorE12C
namespace Go.Aw
open Go
open Go.Proofs.Tryd (prog)
set_option linter.all false
set_option maxHeartbeats 4000000

/-! In the document's own way. -/
theorem pc_rBit (b : Bool) : PCalls prog f_sautoirref12_bit [.b b] (bts [bitB b] (some 1)) := by
  refine pcalls_of mixed t_sautoirref12_bit (by simp) fun T => ?_
  unfold s_sautoirref12_bit
  cases b <;> (simp -implicitDefEqProofs -dsimp only [go_sem, Nat.reduceEqDiff, Nat.reduceAdd, Nat.reduceMul, Nat.reduceSub, Nat.reduceLT, Nat.reduceLeDiff, Nat.reduceBEq, reduceIte, reduceCtorEq, Int.reduceLT, Int.reduceLE, Int.reduceEq, Int.reduceNeg, Int.reduceToNat, Int.reduceAdd, Int.reduceSub]; exact finL_pure rfl)

theorem ac_rId (T : Tab) (cl sq : Nat) (hc : cl < 9223372036854775808) (hs : sq < 18446744073709551616) : ACalls prog f_sautoirref12_id [.agg [.i .i64 cl, .i .u64 sq]] T (fun v T' => Own T 1 v (enc cl ++ enc sq).length (byteCells (enc cl ++ enc sq)) T') := by
  refine acalls_of mixed t_sautoirref12_id (by simp) ?_
  have l1 := enc_len10 (m := cl) (by omega)
  have l2 := enc_len10 (m := sq) (by omega)
  unfold s_sautoirref12_id
  simp -implicitDefEqProofs -dsimp only [go_sem, Nat.reduceEqDiff, Nat.reduceAdd, Nat.reduceMul, Nat.reduceSub, Nat.reduceLT, Nat.reduceLeDiff, Nat.reduceBEq, reduceIte, reduceCtorEq, Int.reduceLT, Int.reduceLE, Int.reduceEq, Int.reduceNeg, Int.reduceToNat, Int.reduceAdd, Int.reduceSub, wrap_u64n (n := cl) (by omega), ↓g_call _ _ c_sautoirref01_Put]
  refine CallK.of (ac_rPutG cl (by omega) T) (fun v T1 ho => aft_nil ?_)
  obtain ⟨p1, p2, p3, p4, p5, p6⟩ := ho.form
  simp -implicitDefEqProofs -dsimp only [go_sem, Nat.reduceEqDiff, Nat.reduceAdd, Nat.reduceMul, Nat.reduceSub, Nat.reduceLT, Nat.reduceLeDiff, Nat.reduceBEq, reduceIte, reduceCtorEq, Int.reduceLT, Int.reduceLE, Int.reduceEq, Int.reduceNeg, Int.reduceToNat, Int.reduceAdd, Int.reduceSub, p1, p2, p3, p4, p5, p6, ↓g_call _ _ c_sautoirref01_Put]
  refine CallK.pure (pc_rPut sq hs) (aft_nil ?_)
  simp -implicitDefEqProofs -dsimp only [go_sem, Nat.reduceEqDiff, Nat.reduceAdd, Nat.reduceMul, Nat.reduceSub, Nat.reduceLT, Nat.reduceLeDiff, Nat.reduceBEq, reduceIte, reduceCtorEq, Int.reduceLT, Int.reduceLE, Int.reduceEq, Int.reduceNeg, Int.reduceToNat, Int.reduceAdd, Int.reduceSub, p1, p2, p3, p4, p5, p6, bts]
  refine ho.app (m := (enc sq).length) (news := byteCells (enc sq)) (by simp [slCells, byteCells_length]) rfl (List.length_pos_iff.2 (enc_ne _)) (by omega) (by omega) fun v2 T3 ho => aft_nil ?_
  obtain ⟨p1, p2, p3, p4, p5, p6⟩ := ho.form
  simp -implicitDefEqProofs -dsimp only [go_sem, Nat.reduceEqDiff, Nat.reduceAdd, Nat.reduceMul, Nat.reduceSub, Nat.reduceLT, Nat.reduceLeDiff, Nat.reduceBEq, reduceIte, reduceCtorEq, Int.reduceLT, Int.reduceLE, Int.reduceEq, Int.reduceNeg, Int.reduceToNat, Int.reduceAdd, Int.reduceSub, p1, p2, p3, p4, p5, p6]
  rw [byteCells_append, ← List.length_append] at ho
  exact Own.fin ho (fun _ _ h => h)

theorem Own.appB {T T1 : Tab} {v : AV} {b m : List UInt8} {c : Option Nat} {K : AV → Tab → Prop} (h : Own T 1 v b.length (byteCells b) T1) (hb : b.length + m.length ≤ 1000000000)
    (hk : ∀ v' T2, Own T 1 v' (b ++ m).length (byteCells (b ++ m)) T2 → K v' T2) : appStep 1 1 T1 v (bts m c) K := by
  refine h.app (m := m.length) (news := byteCells m) (by simp [bts, slCells, byteCells_length]) rfl (by omega) (by omega) fun v' T2 ho => hk v' T2 ?_
  rw [byteCells_append, ← List.length_append] at ho
  exact ho
theorem bts_one {n : Int} {b : UInt8} (h : n = b.toNat) : (AV.fz 1 [.i .u8 n] (some 1)) = bts [b] (some 1) := by subst h; rfl

theorem lp_rPutTxn0 {R : RPost} (hR : ExtR R) {T : Tab} {xs : List Rd} {cap : Option Nat} {tc : List AV} (hl : xs.length ≤ 8) (hs : ∀ r ∈ xs, r.k.length ≤ 32 ∧ 0 ≤ r.n ∧ r.n < 18446744073709551616) : ∀ (ys : List Rd) (k : Nat), xs.drop k = ys → k ≤ xs.length → ∀ (b : List UInt8) (v : AV) (T1 : Tab), b.length ≤ 1001000 + 100 * k → Own T 1 v b.length (byteCells b) T1 →
    (∀ v T1, Own T 1 v (b ++ ys.flatMap encRd).length (byteCells (b ++ ys.flatMap encRd)) T1 → R (.exit 0) [(1, .lp 1 0), (3, v), (23, .fz xs.length (xs.flatMap rdC) cap), (24, .i .i64 xs.length), (25, .i .i64 xs.length), (26, .b false)] [(1, tc)] T1) →
    AW prog sautoirref12_PutTxn_l0 R [(1, .lp 1 0), (3, v), (23, .fz xs.length (xs.flatMap rdC) cap), (24, .i .i64 xs.length), (25, .i .i64 k)] [(1, tc)] T1 := by
  intro ys
  induction ys with
  | nil =>
    intro k hk hle b v T1 hb ho h2
    obtain ⟨p1, p2, p3, p4, p5, p6⟩ := ho.form
    have hk' := drop_nil hk hle
    refine AW_loop hR ?_
    unfold sautoirref12_PutTxn_l0b
    simp -implicitDefEqProofs -dsimp only [go_sem, Nat.reduceEqDiff, Nat.reduceAdd, Nat.reduceMul, Nat.reduceSub, Nat.reduceLT, Nat.reduceLeDiff, Nat.reduceBEq, reduceIte, reduceCtorEq, Int.reduceLT, Int.reduceLE, Int.reduceEq, Int.reduceNeg, Int.reduceToNat, Int.reduceAdd, Int.reduceSub, hk', Int.lt_irrefl, p1, p2, p3, p4, p5, p6]
    rw [hk'] at h2
    simp only [List.flatMap_nil, List.append_nil] at h2
    exact h2 _ _ ho
  | cons y ys ih =>
    intro k hk hle b v T1 hb ho h2
    obtain ⟨p1, p2, p3, p4, p5, p6⟩ := ho.form
    obtain ⟨hlt, hy, hk'⟩ := drop_lt hk
    have hc := flat_at rdC_len hy
    have hc5 : k * 2 + 2 ≤ (xs.flatMap rdC).length := by rw [flat_length rdC_len]; omega
    obtain ⟨q1, q2, q3⟩ := hs y (List.mem_of_getElem? hy)
    obtain ⟨m, hm⟩ := Int.eq_ofNat_of_zero_le q2
    have h1 := enc_len10 (m := y.k.length) (by omega)
    have h3 := enc_len10 (m := m) (by omega)
    refine AW_loopD (l := sautoirref12_PutTxn_l0) rfl hR ?_
    unfold sautoirref12_PutTxn_l0b
    simp -implicitDefEqProofs -dsimp only [go_sem, Nat.reduceEqDiff, Nat.reduceAdd, Nat.reduceMul, Nat.reduceSub, Nat.reduceLT, Nat.reduceLeDiff, Nat.reduceBEq, reduceIte, reduceCtorEq, Int.reduceLT, Int.reduceLE, Int.reduceEq, Int.reduceNeg, Int.reduceToNat, Int.reduceAdd, Int.reduceSub, Int.ofNat_lt, hlt, Int.natCast_nonneg, Int.toNat_natCast, hc, hc5, rdC, List.cons_append, List.nil_append, p1, p2, p3, p4, p5, p6, ↓g_call _ _ c_sautoirref01_Text]
    refine CallK.pure (pc_rText y.k (by omega)) (aft_nil ?_)
    simp -implicitDefEqProofs -dsimp only [go_sem, Nat.reduceEqDiff, Nat.reduceAdd, Nat.reduceMul, Nat.reduceSub, Nat.reduceLT, Nat.reduceLeDiff, Nat.reduceBEq, reduceIte, reduceCtorEq, Int.reduceLT, Int.reduceLE, Int.reduceEq, Int.reduceNeg, Int.reduceToNat, Int.reduceAdd, Int.reduceSub, p1, p2, p3, p4, p5, p6]
    refine ho.appB (by simp [encT]; omega) fun v2 T2 ho => aft_nil ?_
    obtain ⟨p1, p2, p3, p4, p5, p6⟩ := ho.form
    simp -implicitDefEqProofs -dsimp only [go_sem, Nat.reduceEqDiff, Nat.reduceAdd, Nat.reduceMul, Nat.reduceSub, Nat.reduceLT, Nat.reduceLeDiff, Nat.reduceBEq, reduceIte, reduceCtorEq, Int.reduceLT, Int.reduceLE, Int.reduceEq, Int.reduceNeg, Int.reduceToNat, Int.reduceAdd, Int.reduceSub, p1, p2, p3, p4, p5, p6, hm, ↓g_call _ _ c_sautoirref01_Put]
    refine CallK.pure (pc_rPut m (by omega)) (aft_nil ?_)
    simp -implicitDefEqProofs -dsimp only [go_sem, Nat.reduceEqDiff, Nat.reduceAdd, Nat.reduceMul, Nat.reduceSub, Nat.reduceLT, Nat.reduceLeDiff, Nat.reduceBEq, reduceIte, reduceCtorEq, Int.reduceLT, Int.reduceLE, Int.reduceEq, Int.reduceNeg, Int.reduceToNat, Int.reduceAdd, Int.reduceSub, p1, p2, p3, p4, p5, p6]
    refine ho.appB (by simp [encT]; omega) fun v3 T3 ho => aft_nil ?_
    obtain ⟨p1, p2, p3, p4, p5, p6⟩ := ho.form
    simp -implicitDefEqProofs -dsimp only [go_sem, Nat.reduceEqDiff, Nat.reduceAdd, Nat.reduceMul, Nat.reduceSub, Nat.reduceLT, Nat.reduceLeDiff, Nat.reduceBEq, reduceIte, reduceCtorEq, Int.reduceLT, Int.reduceLE, Int.reduceEq, Int.reduceNeg, Int.reduceToNat, Int.reduceAdd, Int.reduceSub, p1, p2, p3, p4, p5, p6]
    rw [wrap_succ (by omega)]
    have e : b ++ encT y.k ++ enc m = b ++ encRd y := by simp [encRd, hm]
    rw [e] at ho
    refine ih (k + 1) hk' hlt _ _ _ (by simp [encRd, encT, hm]; omega) ho fun v T1 ho => h2 v T1 ?_
    simpa only [List.flatMap_cons, List.append_assoc] using ho

theorem lp_rPutTxn1 {R : RPost} (hR : ExtR R) {T : Tab} {xs : List Wt} {cap : Option Nat} (hl : xs.length ≤ 8) (hs : ∀ w ∈ xs, w.k.length ≤ 32 ∧ w.v.length ≤ 64) : ∀ (ys : List Wt) (k : Nat), xs.drop k = ys → k ≤ xs.length → ∀ (b : List UInt8) (v : AV) (T1 : Tab), b.length ≤ 1002000 + 200 * k → Own T 1 v b.length (byteCells b) T1 →
    (∀ v T1, Own T 1 v (b ++ ys.flatMap encWt).length (byteCells (b ++ ys.flatMap encWt)) T1 → R (.exit 2) [(3, v), (48, .fz xs.length (xs.flatMap wtC) cap), (49, .i .i64 xs.length), (50, .i .i64 xs.length), (51, .b false)] [] T1) →
    AW prog sautoirref12_PutTxn_l1 R [(3, v), (48, .fz xs.length (xs.flatMap wtC) cap), (49, .i .i64 xs.length), (50, .i .i64 k)] [] T1 := by
  intro ys
  induction ys with
  | nil =>
    intro k hk hle b v T1 hb ho h2
    obtain ⟨p1, p2, p3, p4, p5, p6⟩ := ho.form
    have hk' := drop_nil hk hle
    refine AW_loop hR ?_
    unfold sautoirref12_PutTxn_l1b
    simp -implicitDefEqProofs -dsimp only [go_sem, Nat.reduceEqDiff, Nat.reduceAdd, Nat.reduceMul, Nat.reduceSub, Nat.reduceLT, Nat.reduceLeDiff, Nat.reduceBEq, reduceIte, reduceCtorEq, Int.reduceLT, Int.reduceLE, Int.reduceEq, Int.reduceNeg, Int.reduceToNat, Int.reduceAdd, Int.reduceSub, hk', Int.lt_irrefl, p1, p2, p3, p4, p5, p6]
    rw [hk'] at h2
    simp only [List.flatMap_nil, List.append_nil] at h2
    exact h2 _ _ ho
  | cons y ys ih =>
    intro k hk hle b v T1 hb ho h2
    obtain ⟨p1, p2, p3, p4, p5, p6⟩ := ho.form
    obtain ⟨hlt, hy, hk'⟩ := drop_lt hk
    have hc := flat_at wtC_len hy
    have hc5 : k * 3 + 3 ≤ (xs.flatMap wtC).length := by rw [flat_length wtC_len]; omega
    obtain ⟨q1, q2⟩ := hs y (List.mem_of_getElem? hy)
    have h1 := enc_len10 (m := y.k.length) (by omega)
    have h3 := enc_len10 (m := y.v.length) (by omega)
    refine AW_loopD (l := sautoirref12_PutTxn_l1) rfl hR ?_
    unfold sautoirref12_PutTxn_l1b
    simp -implicitDefEqProofs -dsimp only [go_sem, Nat.reduceEqDiff, Nat.reduceAdd, Nat.reduceMul, Nat.reduceSub, Nat.reduceLT, Nat.reduceLeDiff, Nat.reduceBEq, reduceIte, reduceCtorEq, Int.reduceLT, Int.reduceLE, Int.reduceEq, Int.reduceNeg, Int.reduceToNat, Int.reduceAdd, Int.reduceSub, Int.ofNat_lt, hlt, Int.natCast_nonneg, Int.toNat_natCast, hc, hc5, wtC, List.cons_append, List.nil_append, p1, p2, p3, p4, p5, p6, ↓g_call _ _ c_sautoirref01_Text]
    refine CallK.pure (pc_rText y.k (by omega)) (aft_nil ?_)
    simp -implicitDefEqProofs -dsimp only [go_sem, Nat.reduceEqDiff, Nat.reduceAdd, Nat.reduceMul, Nat.reduceSub, Nat.reduceLT, Nat.reduceLeDiff, Nat.reduceBEq, reduceIte, reduceCtorEq, Int.reduceLT, Int.reduceLE, Int.reduceEq, Int.reduceNeg, Int.reduceToNat, Int.reduceAdd, Int.reduceSub, p1, p2, p3, p4, p5, p6]
    refine ho.appB (by simp [encT]; omega) fun v2 T2 ho => aft_nil ?_
    obtain ⟨p1, p2, p3, p4, p5, p6⟩ := ho.form
    simp -implicitDefEqProofs -dsimp only [go_sem, Nat.reduceEqDiff, Nat.reduceAdd, Nat.reduceMul, Nat.reduceSub, Nat.reduceLT, Nat.reduceLeDiff, Nat.reduceBEq, reduceIte, reduceCtorEq, Int.reduceLT, Int.reduceLE, Int.reduceEq, Int.reduceNeg, Int.reduceToNat, Int.reduceAdd, Int.reduceSub, p1, p2, p3, p4, p5, p6, ↓g_call _ _ c_sautoirref01_Text]
    refine CallK.pure (pc_rText y.v (by omega)) (aft_nil ?_)
    simp -implicitDefEqProofs -dsimp only [go_sem, Nat.reduceEqDiff, Nat.reduceAdd, Nat.reduceMul, Nat.reduceSub, Nat.reduceLT, Nat.reduceLeDiff, Nat.reduceBEq, reduceIte, reduceCtorEq, Int.reduceLT, Int.reduceLE, Int.reduceEq, Int.reduceNeg, Int.reduceToNat, Int.reduceAdd, Int.reduceSub, p1, p2, p3, p4, p5, p6]
    refine ho.appB (by simp [encT]; omega) fun v3 T3 ho => aft_nil ?_
    obtain ⟨p1, p2, p3, p4, p5, p6⟩ := ho.form
    simp -implicitDefEqProofs -dsimp only [go_sem, Nat.reduceEqDiff, Nat.reduceAdd, Nat.reduceMul, Nat.reduceSub, Nat.reduceLT, Nat.reduceLeDiff, Nat.reduceBEq, reduceIte, reduceCtorEq, Int.reduceLT, Int.reduceLE, Int.reduceEq, Int.reduceNeg, Int.reduceToNat, Int.reduceAdd, Int.reduceSub, p1, p2, p3, p4, p5, p6, ↓g_call _ _ c_sautoirref12_bit]
    refine CallK.pure (pc_rBit y.g) (aft_nil ?_)
    simp -implicitDefEqProofs -dsimp only [go_sem, Nat.reduceEqDiff, Nat.reduceAdd, Nat.reduceMul, Nat.reduceSub, Nat.reduceLT, Nat.reduceLeDiff, Nat.reduceBEq, reduceIte, reduceCtorEq, Int.reduceLT, Int.reduceLE, Int.reduceEq, Int.reduceNeg, Int.reduceToNat, Int.reduceAdd, Int.reduceSub, p1, p2, p3, p4, p5, p6]
    refine ho.appB (by simp [encT]; omega) fun v3 T3 ho => aft_nil ?_
    obtain ⟨p1, p2, p3, p4, p5, p6⟩ := ho.form
    simp -implicitDefEqProofs -dsimp only [go_sem, Nat.reduceEqDiff, Nat.reduceAdd, Nat.reduceMul, Nat.reduceSub, Nat.reduceLT, Nat.reduceLeDiff, Nat.reduceBEq, reduceIte, reduceCtorEq, Int.reduceLT, Int.reduceLE, Int.reduceEq, Int.reduceNeg, Int.reduceToNat, Int.reduceAdd, Int.reduceSub, p1, p2, p3, p4, p5, p6]
    rw [wrap_succ (by omega)]
    have e : b ++ encT y.k ++ encT y.v ++ [bitB y.g] = b ++ encWt y := by simp [encWt]
    rw [e] at ho
    refine ih (k + 1) hk' hlt _ _ _ (by simp [encWt, encT]; omega) ho fun v T1 ho => h2 v T1 ?_
    simpa only [List.flatMap_cons, List.append_assoc] using ho

theorem wrap_u8n {n : Nat} (h : n < 128) : IntKind.u8.wrap (n : Int) = ((UInt8.ofNat n).toNat : Int) := by
  rw [wrap_u8, UInt8.toNat_ofNat_of_lt' (by show n < 256; omega)]; omega

theorem ac_rPutTxn (t : Tx) (k1 k2 : Option Nat) (h : t.Good) (T : Tab) : ACalls prog f_sautoirref12_PutTxn [.agg (t.cells k1 k2)] T (fun v T' => Own T 1 v (encTx t).length (byteCells (encTx t)) T') := by
  refine acalls_of mixed t_sautoirref12_PutTxn (by simp) ?_
  obtain ⟨hcl, hsq, hr, hw, hrr, hww⟩ := h
  obtain ⟨cl, hclm⟩ := Int.eq_ofNat_of_zero_le hcl.1
  obtain ⟨sq, hsqm⟩ := Int.eq_ofNat_of_zero_le (show 0 ≤ t.sq by omega)
  have l1 := enc_len10 (m := cl) (by omega)
  have l2 := enc_len10 (m := sq) (by omega)
  have l5 := flatB_len (g := encRd) t.rs fun r hr => encRd_len (hrr r hr)
  unfold s_sautoirref12_PutTxn
  simp -implicitDefEqProofs -dsimp only [go_sem, Nat.reduceEqDiff, Nat.reduceAdd, Nat.reduceMul, Nat.reduceSub, Nat.reduceLT, Nat.reduceLeDiff, Nat.reduceBEq, reduceIte, reduceCtorEq, Int.reduceLT, Int.reduceLE, Int.reduceEq, Int.reduceNeg, Int.reduceToNat, Int.reduceAdd, Int.reduceSub, Tx.cells, hclm, hsqm, ↓g_call _ _ c_sautoirref12_id]
  refine CallK.of (ac_rId T cl sq (by omega) (by omega)) (fun v T1 ho => aft_nil ?_)
  obtain ⟨p1, p2, p3, p4, p5, p6⟩ := ho.form
  simp -implicitDefEqProofs -dsimp only [go_sem, Nat.reduceEqDiff, Nat.reduceAdd, Nat.reduceMul, Nat.reduceSub, Nat.reduceLT, Nat.reduceLeDiff, Nat.reduceBEq, reduceIte, reduceCtorEq, Int.reduceLT, Int.reduceLE, Int.reduceEq, Int.reduceNeg, Int.reduceToNat, Int.reduceAdd, Int.reduceSub, p1, p2, p3, p4, p5, p6, ↓g_call _ _ c_sautoirref12_bit]
  refine CallK.pure (pc_rBit t.pl) (aft_nil ?_)
  simp -implicitDefEqProofs -dsimp only [go_sem, Nat.reduceEqDiff, Nat.reduceAdd, Nat.reduceMul, Nat.reduceSub, Nat.reduceLT, Nat.reduceLeDiff, Nat.reduceBEq, reduceIte, reduceCtorEq, Int.reduceLT, Int.reduceLE, Int.reduceEq, Int.reduceNeg, Int.reduceToNat, Int.reduceAdd, Int.reduceSub, p1, p2, p3, p4, p5, p6]
  refine ho.appB (by simp; omega) fun v2 T2 ho => aft_nil ?_
  obtain ⟨p1, p2, p3, p4, p5, p6⟩ := ho.form
  simp -implicitDefEqProofs -dsimp only [go_sem, Nat.reduceEqDiff, Nat.reduceAdd, Nat.reduceMul, Nat.reduceSub, Nat.reduceLT, Nat.reduceLeDiff, Nat.reduceBEq, reduceIte, reduceCtorEq, Int.reduceLT, Int.reduceLE, Int.reduceEq, Int.reduceNeg, Int.reduceToNat, Int.reduceAdd, Int.reduceSub, p1, p2, p3, p4, p5, p6, wrap_u8n (n := t.rs.length) (by omega), bts_one (rfl : ((UInt8.ofNat t.rs.length).toNat : Int) = _)]
  refine ho.appB (by simp; omega) fun v2 T2 ho => aft_nil ?_
  obtain ⟨p1, p2, p3, p4, p5, p6⟩ := ho.form
  simp -implicitDefEqProofs -dsimp only [go_sem, Nat.reduceEqDiff, Nat.reduceAdd, Nat.reduceMul, Nat.reduceSub, Nat.reduceLT, Nat.reduceLeDiff, Nat.reduceBEq, reduceIte, reduceCtorEq, Int.reduceLT, Int.reduceLE, Int.reduceEq, Int.reduceNeg, Int.reduceToNat, Int.reduceAdd, Int.reduceSub, p1, p2, p3, p4, p5, p6]
  refine lp_rPutTxn0 (T := T) (by repeat' (first | exact finX_ext _ _ | assumption | apply blkR_ext | apply thenR_ext | apply AW_ext)) hr hrr t.rs 0 rfl (by omega) _ _ _ (by simp; omega) ho (fun v T1 ho => ?_)
  obtain ⟨p1, p2, p3, p4, p5, p6⟩ := ho.form
  simp -implicitDefEqProofs -dsimp only [go_sem, Nat.reduceEqDiff, Nat.reduceAdd, Nat.reduceMul, Nat.reduceSub, Nat.reduceLT, Nat.reduceLeDiff, Nat.reduceBEq, reduceIte, reduceCtorEq, Int.reduceLT, Int.reduceLE, Int.reduceEq, Int.reduceNeg, Int.reduceToNat, Int.reduceAdd, Int.reduceSub, p1, p2, p3, p4, p5, p6, wrap_u8n (n := t.ws.length) (by omega), bts_one (rfl : ((UInt8.ofNat t.ws.length).toNat : Int) = _)]
  refine ho.appB (by simp only [List.length_append, List.length_cons, List.length_nil]; omega) fun v2 T2 ho => aft_nil ?_
  obtain ⟨p1, p2, p3, p4, p5, p6⟩ := ho.form
  simp -implicitDefEqProofs -dsimp only [go_sem, Nat.reduceEqDiff, Nat.reduceAdd, Nat.reduceMul, Nat.reduceSub, Nat.reduceLT, Nat.reduceLeDiff, Nat.reduceBEq, reduceIte, reduceCtorEq, Int.reduceLT, Int.reduceLE, Int.reduceEq, Int.reduceNeg, Int.reduceToNat, Int.reduceAdd, Int.reduceSub, p1, p2, p3, p4, p5, p6]
  refine lp_rPutTxn1 (T := T) (by repeat' (first | exact finX_ext _ _ | assumption | apply blkR_ext | apply thenR_ext | apply AW_ext)) hw hww t.ws 0 rfl (by omega) _ _ _ (by simp only [List.length_append, List.length_cons, List.length_nil]; omega) ho (fun v T1 ho => ?_)
  obtain ⟨p1, p2, p3, p4, p5, p6⟩ := ho.form
  simp -implicitDefEqProofs -dsimp only [go_sem, Nat.reduceEqDiff, Nat.reduceAdd, Nat.reduceMul, Nat.reduceSub, Nat.reduceLT, Nat.reduceLeDiff, Nat.reduceBEq, reduceIte, reduceCtorEq, Int.reduceLT, Int.reduceLE, Int.reduceEq, Int.reduceNeg, Int.reduceToNat, Int.reduceAdd, Int.reduceSub, p1, p2, p3, p4, p5, p6]
  have e : enc cl ++ enc sq ++ [bitB t.pl] ++ [UInt8.ofNat t.rs.length] ++ t.rs.flatMap encRd ++ [UInt8.ofNat t.ws.length] ++ t.ws.flatMap encWt = encTx t := by
    rw [← enc_small (n := t.rs.length) (by omega), ← enc_small (n := t.ws.length) (by omega)]
    simp [encTx, hclm, hsqm]
  rw [e] at ho
  exact Own.fin ho (fun _ _ h => h)
end Go.Aw
