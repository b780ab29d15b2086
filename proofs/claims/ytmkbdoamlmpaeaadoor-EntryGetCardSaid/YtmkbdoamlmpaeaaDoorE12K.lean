import Derived.Test.YtmkbdoamlmpaeaaDoorE12J
namespace Go.Aw
open Go
open Go.Proofs.Tryd (prog)
set_option linter.all false
set_option maxHeartbeats 4000000

theorem lp_EqR {R : RPost} (hR : ExtR R) {T : Tab} {xs : List Rd} {c1 c2 : Option Nat} (hl : xs.length < 1000000000) : ∀ (ys : List Rd) (k : Nat), xs.drop k = ys → k ≤ xs.length →
    (R (.exit 0) [(0, .fz xs.length (xs.flatMap rdC) c1), (1, .fz xs.length (xs.flatMap rdC) c2), (12, .i .i64 xs.length), (13, .i .i64 xs.length), (14, .b false)] [] T) →
    AW prog slices_Equal_entry_Read_entry_Read_l0 R [(0, .fz xs.length (xs.flatMap rdC) c1), (1, .fz xs.length (xs.flatMap rdC) c2), (12, .i .i64 xs.length), (13, .i .i64 k)] [] T := by
  intro ys
  induction ys with
  | nil =>
    intro k hk hle h2
    have hk' := drop_nil hk hle
    refine AW_loop hR ?_
    unfold slices_Equal_entry_Read_entry_Read_l0b
    simp -implicitDefEqProofs -dsimp only [go_sem, Nat.reduceEqDiff, Nat.reduceAdd, Nat.reduceMul, Nat.reduceSub, Nat.reduceLT, Nat.reduceLeDiff, Nat.reduceBEq, reduceIte, reduceCtorEq, Int.reduceLT, Int.reduceLE, Int.reduceEq, Int.reduceNeg, Int.reduceToNat, Int.reduceAdd, Int.reduceSub, hk', Int.lt_irrefl]
    rw [hk'] at h2
    exact h2
  | cons y ys ih =>
    intro k hk hle h2
    obtain ⟨hlt, hy, hk'⟩ := drop_lt hk
    have hc := flat_at rdC_len hy
    have hc5 : k * 2 + 2 ≤ (xs.flatMap rdC).length := by rw [flat_length rdC_len]; omega
    refine AW_loopD (l := slices_Equal_entry_Read_entry_Read_l0) rfl hR ?_
    unfold slices_Equal_entry_Read_entry_Read_l0b
    simp -implicitDefEqProofs -dsimp only [go_sem, Nat.reduceEqDiff, Nat.reduceAdd, Nat.reduceMul, Nat.reduceSub, Nat.reduceLT, Nat.reduceLeDiff, Nat.reduceBEq, reduceIte, reduceCtorEq, Int.reduceLT, Int.reduceLE, Int.reduceEq, Int.reduceNeg, Int.reduceToNat, Int.reduceAdd, Int.reduceSub, Int.ofNat_lt, hlt, Int.natCast_nonneg, Int.toNat_natCast, hc, hc5, rdC, List.cons_append, List.nil_append, aggEq, scalarEq, decide_true, Bool.and_true]
    rw [wrap_succ (by omega)]
    exact ih (k + 1) hk' hlt h2
theorem lp_EqW {R : RPost} (hR : ExtR R) {T : Tab} {xs : List Wt} {c1 c2 : Option Nat} (hl : xs.length < 1000000000) : ∀ (ys : List Wt) (k : Nat), xs.drop k = ys → k ≤ xs.length →
    (R (.exit 0) [(0, .fz xs.length (xs.flatMap wtC) c1), (1, .fz xs.length (xs.flatMap wtC) c2), (12, .i .i64 xs.length), (13, .i .i64 xs.length), (14, .b false)] [] T) →
    AW prog slices_Equal_entry_Write_entry_Write_l0 R [(0, .fz xs.length (xs.flatMap wtC) c1), (1, .fz xs.length (xs.flatMap wtC) c2), (12, .i .i64 xs.length), (13, .i .i64 k)] [] T := by
  intro ys
  induction ys with
  | nil =>
    intro k hk hle h2
    have hk' := drop_nil hk hle
    refine AW_loop hR ?_
    unfold slices_Equal_entry_Write_entry_Write_l0b
    simp -implicitDefEqProofs -dsimp only [go_sem, Nat.reduceEqDiff, Nat.reduceAdd, Nat.reduceMul, Nat.reduceSub, Nat.reduceLT, Nat.reduceLeDiff, Nat.reduceBEq, reduceIte, reduceCtorEq, Int.reduceLT, Int.reduceLE, Int.reduceEq, Int.reduceNeg, Int.reduceToNat, Int.reduceAdd, Int.reduceSub, hk', Int.lt_irrefl]
    rw [hk'] at h2
    exact h2
  | cons y ys ih =>
    intro k hk hle h2
    obtain ⟨hlt, hy, hk'⟩ := drop_lt hk
    have hc := flat_at wtC_len hy
    have hbb : ∀ b : Bool, (b == b) = true := fun b => by cases b <;> rfl
    have hc5 : k * 3 + 3 ≤ (xs.flatMap wtC).length := by rw [flat_length wtC_len]; omega
    refine AW_loopD (l := slices_Equal_entry_Write_entry_Write_l0) rfl hR ?_
    unfold slices_Equal_entry_Write_entry_Write_l0b
    simp -implicitDefEqProofs -dsimp only [go_sem, Nat.reduceEqDiff, Nat.reduceAdd, Nat.reduceMul, Nat.reduceSub, Nat.reduceLT, Nat.reduceLeDiff, Nat.reduceBEq, reduceIte, reduceCtorEq, Int.reduceLT, Int.reduceLE, Int.reduceEq, Int.reduceNeg, Int.reduceToNat, Int.reduceAdd, Int.reduceSub, Int.ofNat_lt, hlt, Int.natCast_nonneg, Int.toNat_natCast, hc, hc5, wtC, List.cons_append, List.nil_append, aggEq, scalarEq, decide_true, Bool.and_true, hbb]
    rw [wrap_succ (by omega)]
    exact ih (k + 1) hk' hlt h2
theorem pc_EqR (xs : List Rd) (c1 c2 : Option Nat) (hl : xs.length < 1000000000) : PCalls prog f_slices_Equal_entry_Read_entry_Read [.fz xs.length (xs.flatMap rdC) c1, .fz xs.length (xs.flatMap rdC) c2] (.b true) := by
  refine pcalls_of mixed t_slices_Equal_entry_Read_entry_Read (by simp) fun T => ?_
  unfold s_slices_Equal_entry_Read_entry_Read
  simp -implicitDefEqProofs -dsimp only [go_sem, Nat.reduceEqDiff, Nat.reduceAdd, Nat.reduceMul, Nat.reduceSub, Nat.reduceLT, Nat.reduceLeDiff, Nat.reduceBEq, reduceIte, reduceCtorEq, Int.reduceLT, Int.reduceLE, Int.reduceEq, Int.reduceNeg, Int.reduceToNat, Int.reduceAdd, Int.reduceSub, decide_true]
  refine lp_EqR (T := T) (by repeat' (first | exact finX_ext _ _ | assumption | apply blkR_ext | apply thenR_ext | apply AW_ext)) hl xs 0 rfl (by omega) ?_
  simp -implicitDefEqProofs -dsimp only [go_sem, Nat.reduceEqDiff, Nat.reduceAdd, Nat.reduceMul, Nat.reduceSub, Nat.reduceLT, Nat.reduceLeDiff, Nat.reduceBEq, reduceIte, reduceCtorEq, Int.reduceLT, Int.reduceLE, Int.reduceEq, Int.reduceNeg, Int.reduceToNat, Int.reduceAdd, Int.reduceSub]
  exact finL_pure rfl
theorem pc_EqW (xs : List Wt) (c1 c2 : Option Nat) (hl : xs.length < 1000000000) : PCalls prog f_slices_Equal_entry_Write_entry_Write [.fz xs.length (xs.flatMap wtC) c1, .fz xs.length (xs.flatMap wtC) c2] (.b true) := by
  refine pcalls_of mixed t_slices_Equal_entry_Write_entry_Write (by simp) fun T => ?_
  unfold s_slices_Equal_entry_Write_entry_Write
  simp -implicitDefEqProofs -dsimp only [go_sem, Nat.reduceEqDiff, Nat.reduceAdd, Nat.reduceMul, Nat.reduceSub, Nat.reduceLT, Nat.reduceLeDiff, Nat.reduceBEq, reduceIte, reduceCtorEq, Int.reduceLT, Int.reduceLE, Int.reduceEq, Int.reduceNeg, Int.reduceToNat, Int.reduceAdd, Int.reduceSub, decide_true]
  refine lp_EqW (T := T) (by repeat' (first | exact finX_ext _ _ | assumption | apply blkR_ext | apply thenR_ext | apply AW_ext)) hl xs 0 rfl (by omega) ?_
  simp -implicitDefEqProofs -dsimp only [go_sem, Nat.reduceEqDiff, Nat.reduceAdd, Nat.reduceMul, Nat.reduceSub, Nat.reduceLT, Nat.reduceLeDiff, Nat.reduceBEq, reduceIte, reduceCtorEq, Int.reduceLT, Int.reduceLE, Int.reduceEq, Int.reduceNeg, Int.reduceToNat, Int.reduceAdd, Int.reduceSub]
  exact finL_pure rfl
theorem pc_eSame_refl (e : En) (k1 k2 k3 k4 : Option Nat) (hf : e.t.Fine) : PCalls prog f_entry_Same [.agg (e.cells k1 k2), .agg (e.cells k3 k4)] (.b true) := by
  refine pcalls_of mixed t_entry_Same (by simp) fun T => ?_
  have hbb : ∀ b : Bool, (b == b) = true := fun b => by cases b <;> rfl
  unfold s_entry_Same
  simp -implicitDefEqProofs -dsimp only [go_sem, Nat.reduceEqDiff, Nat.reduceAdd, Nat.reduceMul, Nat.reduceSub, Nat.reduceLT, Nat.reduceLeDiff, Nat.reduceBEq, reduceIte, reduceCtorEq, Int.reduceLT, Int.reduceLE, Int.reduceEq, Int.reduceNeg, Int.reduceToNat, Int.reduceAdd, Int.reduceSub, En.cells, aggEq, scalarEq, hbb, decide_true, Bool.and_true, ↓g_gdc, rcOk, true_and, ↓g_call _ _ c_slices_Equal_entry_Read_entry_Read]
  refine CallK.pure (pc_EqR e.t.rs k1 k3 hf.r) (aft_nil ?_)
  simp -implicitDefEqProofs -dsimp only [go_sem, Nat.reduceEqDiff, Nat.reduceAdd, Nat.reduceMul, Nat.reduceSub, Nat.reduceLT, Nat.reduceLeDiff, Nat.reduceBEq, reduceIte, reduceCtorEq, Int.reduceLT, Int.reduceLE, Int.reduceEq, Int.reduceNeg, Int.reduceToNat, Int.reduceAdd, Int.reduceSub, decide_true, ↓g_gdc, rcOk, true_and, ↓g_call _ _ c_slices_Equal_entry_Write_entry_Write]
  refine CallK.pure (pc_EqW e.t.ws k2 k4 hf.w) (aft_nil ?_)
  simp -implicitDefEqProofs -dsimp only [go_sem, Nat.reduceEqDiff, Nat.reduceAdd, Nat.reduceMul, Nat.reduceSub, Nat.reduceLT, Nat.reduceLeDiff, Nat.reduceBEq, reduceIte, reduceCtorEq, Int.reduceLT, Int.reduceLE, Int.reduceEq, Int.reduceNeg, Int.reduceToNat, Int.reduceAdd, Int.reduceSub]
  exact finL_pure rfl
theorem pc_rSame_refl (e : En) (k1 k2 k3 k4 : Option Nat) (hf : e.t.Fine) : PCalls prog f_sautoirref12_Same [.agg (e.cells k1 k2), .agg (e.cells k3 k4)] (.b true) := by
  refine pcalls_of mixed t_sautoirref12_Same (by simp) fun T => ?_
  have c := pc_SameTxn_refl e.t k1 k2 k3 k4 hf
  simp only [Tx.cells] at c
  unfold s_sautoirref12_Same
  simp -implicitDefEqProofs -dsimp only [go_sem, Nat.reduceEqDiff, Nat.reduceAdd, Nat.reduceMul, Nat.reduceSub, Nat.reduceLT, Nat.reduceLeDiff, Nat.reduceBEq, reduceIte, reduceCtorEq, Int.reduceLT, Int.reduceLE, Int.reduceEq, Int.reduceNeg, Int.reduceToNat, Int.reduceAdd, Int.reduceSub, En.cells, aggEq, scalarEq, decide_true, Bool.and_true, ↓g_gdc, rcOk, true_and, ↓g_call _ _ c_sautoirref12_SameTxn]
  refine CallK.pure c (aft_nil ?_)
  simp -implicitDefEqProofs -dsimp only [go_sem, Nat.reduceEqDiff, Nat.reduceAdd, Nat.reduceMul, Nat.reduceSub, Nat.reduceLT, Nat.reduceLeDiff, Nat.reduceBEq, reduceIte, reduceCtorEq, Int.reduceLT, Int.reduceLE, Int.reduceEq, Int.reduceNeg, Int.reduceToNat, Int.reduceAdd, Int.reduceSub]
  exact finL_pure rfl

theorem Gr.appB {T T1 : Tab} {v : AV} {b m : List UInt8} {c : Option Nat} {K : AV → Tab → Prop} (h : Gr T 1 v b.length (byteCells b) T1) (hb : b.length + m.length ≤ 1000000000) (h0 : 0 < m.length)
    (hk : ∀ v' T2, Own T 1 v' (b ++ m).length (byteCells (b ++ m)) T2 → K v' T2) : appStep 1 1 T1 v (bts m c) K := by
  refine h.app (m := m.length) (news := byteCells m) (by simp [bts, slCells, byteCells_length]) rfl h0 (by omega) (by omega) fun v' T2 ho => hk v' T2 ?_
  rw [byteCells_append, ← List.length_append] at ho
  exact ho
/-- Own bytes, appended to own bytes. -/
theorem Own.appO {B T1 T2 : Tab} {v w : AV} {b m : List UInt8} {K : AV → Tab → Prop} (h1 : Own B 1 v b.length (byteCells b) T1) (h2 : Own T1 1 w m.length (byteCells m) T2) (hb : b.length + m.length ≤ 1000000000)
    (hk : ∀ v' T3, Owns B [⟨1, v', (b ++ m).length, byteCells (b ++ m)⟩, ⟨1, w, m.length, byteCells m⟩] T3 → K v' T3) : appStep 1 1 T2 v w K := by
  have how : Owns B [⟨1, v, b.length, byteCells b⟩, ⟨1, w, m.length, byteCells m⟩] T2 := Owns.swap ⟨T1, ⟨B, rfl, h1⟩, h2⟩
  obtain ⟨e1, e2⟩ := h2.sl
  refine how.app (m := m.length) (news := byteCells m) e1 e2 (by simp only; omega) (by simp only; omega) fun v' T3 ho => hk v' T3 ?_
  simp only [byteCells_append, ← List.length_append] at ho
  exact ho

theorem ac_rePut (e : En) (k1 k2 : Option Nat) (h : e.Good) (T : Tab) : ACalls prog f_sautoirref12_Put [.agg (e.cells k1 k2)] T (fun v T' => v = bts (encEn e) none ∧ T' = T) := by
  refine acalls_of mixed t_sautoirref12_Put (by simp) ?_
  obtain ⟨hep, hkd⟩ := h
  obtain ⟨ep, hepm⟩ := Int.eq_ofNat_of_zero_le (show 0 ≤ e.ep by omega)
  have l1 := enc_len10 (m := ep) (by omega)
  unfold s_sautoirref12_Put
  rcases hkd with ⟨h3, h4, h5, h6, h7, h8⟩ | ⟨h3, h4, h5, h6, h7⟩
  · have u1 : IntKind.u8.wrap 1 = ((UInt8.ofNat 1).toNat : Int) := by decide +kernel
    have ht := encTx_len h4
    have c := fun T => ac_rPutTxn e.t k1 k2 h4 T
    simp only [Tx.cells] at c
    simp -implicitDefEqProofs -dsimp only [go_sem, Nat.reduceEqDiff, Nat.reduceAdd, Nat.reduceMul, Nat.reduceSub, Nat.reduceLT, Nat.reduceLeDiff, Nat.reduceBEq, reduceIte, reduceCtorEq, Int.reduceLT, Int.reduceLE, Int.reduceEq, Int.reduceNeg, Int.reduceToNat, Int.reduceAdd, Int.reduceSub, En.cells, hepm, h3, u1, bts_one (rfl : ((UInt8.ofNat 1).toNat : Int) = _), ↓g_call _ _ c_sautoirref01_Put]
    refine CallK.of (ac_rPutG ep (by omega) T) (fun v T1 ho => aft_nil ?_)
    obtain ⟨p1, p2, p3, p4, p5, p6⟩ := ho.form
    simp -implicitDefEqProofs -dsimp only [go_sem, Nat.reduceEqDiff, Nat.reduceAdd, Nat.reduceMul, Nat.reduceSub, Nat.reduceLT, Nat.reduceLeDiff, Nat.reduceBEq, reduceIte, reduceCtorEq, Int.reduceLT, Int.reduceLE, Int.reduceEq, Int.reduceNeg, Int.reduceToNat, Int.reduceAdd, Int.reduceSub, p1, p2, p3, p4, p5, p6]
    refine ho.appB (by simp; omega) (by simp) fun v2 T2 ho => aft_nil ?_
    obtain ⟨p1, p2, p3, p4, p5, p6⟩ := ho.form
    simp -implicitDefEqProofs -dsimp only [go_sem, Nat.reduceEqDiff, Nat.reduceAdd, Nat.reduceMul, Nat.reduceSub, Nat.reduceLT, Nat.reduceLeDiff, Nat.reduceBEq, reduceIte, reduceCtorEq, Int.reduceLT, Int.reduceLE, Int.reduceEq, Int.reduceNeg, Int.reduceToNat, Int.reduceAdd, Int.reduceSub, p1, p2, p3, p4, p5, p6, decide_true, ↓g_call _ _ c_sautoirref12_PutTxn]
    refine CallK.of (c T2) (fun w T3 ho3 => aft_nil ?_)
    obtain ⟨q1, q2, q3, q4, q5, q6⟩ := ho3.form
    simp -implicitDefEqProofs -dsimp only [go_sem, Nat.reduceEqDiff, Nat.reduceAdd, Nat.reduceMul, Nat.reduceSub, Nat.reduceLT, Nat.reduceLeDiff, Nat.reduceBEq, reduceIte, reduceCtorEq, Int.reduceLT, Int.reduceLE, Int.reduceEq, Int.reduceNeg, Int.reduceToNat, Int.reduceAdd, Int.reduceSub, p1, p2, p3, p4, p5, p6, q1, q2, q3, q4, q5, q6]
    refine ho.appO ho3 (by simp; omega) fun v4 T4 how => aft_nil ?_
    obtain ⟨q1, q2, q3, q4, q5, q6⟩ := how.form (List.mem_cons_self ..)
    simp only at q1 q2 q3 q4 q5 q6
    simp -implicitDefEqProofs -dsimp only [go_sem, Nat.reduceEqDiff, Nat.reduceAdd, Nat.reduceMul, Nat.reduceSub, Nat.reduceLT, Nat.reduceLeDiff, Nat.reduceBEq, reduceIte, reduceCtorEq, Int.reduceLT, Int.reduceLE, Int.reduceEq, Int.reduceNeg, Int.reduceToNat, Int.reduceAdd, Int.reduceSub, q1, q2, q3, q4, q5, q6]
    have e1 : enc ep ++ [UInt8.ofNat 1] ++ encTx e.t = encEn e := by
      rw [← enc_small (n := 1) (by omega)]; simp [encEn, h3, hepm]
    refine finL_owns how fun S hS => ?_
    obtain ⟨c1, e2⟩ := hS _ (List.mem_cons_self ..)
    simp only [e1] at e2
    obtain ⟨T0, _, hv4⟩ := how
    have : frzt T4 S v4 = frz1 T4 S v4 := by
      rcases hv4.2 with ⟨h, _⟩ | ⟨j, h, _⟩ <;> (simp only at h; rw [h]; rfl)
    rw [this, e2]; exact .fz
  · have u1 : IntKind.u8.wrap 2 = ((UInt8.ofNat 2).toNat : Int) := by decide +kernel
    obtain ⟨cl, hcl⟩ := Int.eq_ofNat_of_zero_le h5.1
    obtain ⟨sq, hsq⟩ := Int.eq_ofNat_of_zero_le (show 0 ≤ e.sq by omega)
    obtain ⟨co, hco⟩ := Int.eq_ofNat_of_zero_le (show 0 ≤ e.co by omega)
    have l3 := enc_len10 (m := cl) (by omega)
    have l4 := enc_len10 (m := sq) (by omega)
    simp -implicitDefEqProofs -dsimp only [go_sem, Nat.reduceEqDiff, Nat.reduceAdd, Nat.reduceMul, Nat.reduceSub, Nat.reduceLT, Nat.reduceLeDiff, Nat.reduceBEq, reduceIte, reduceCtorEq, Int.reduceLT, Int.reduceLE, Int.reduceEq, Int.reduceNeg, Int.reduceToNat, Int.reduceAdd, Int.reduceSub, En.cells, hepm, h3, hcl, hsq, hco, u1, bts_one (rfl : ((UInt8.ofNat 2).toNat : Int) = _), ↓g_call _ _ c_sautoirref01_Put]
    refine CallK.of (ac_rPutG ep (by omega) T) (fun v T1 ho => aft_nil ?_)
    obtain ⟨p1, p2, p3, p4, p5, p6⟩ := ho.form
    simp -implicitDefEqProofs -dsimp only [go_sem, Nat.reduceEqDiff, Nat.reduceAdd, Nat.reduceMul, Nat.reduceSub, Nat.reduceLT, Nat.reduceLeDiff, Nat.reduceBEq, reduceIte, reduceCtorEq, Int.reduceLT, Int.reduceLE, Int.reduceEq, Int.reduceNeg, Int.reduceToNat, Int.reduceAdd, Int.reduceSub, p1, p2, p3, p4, p5, p6]
    refine ho.appB (by simp; omega) (by simp) fun v2 T2 ho => aft_nil ?_
    obtain ⟨p1, p2, p3, p4, p5, p6⟩ := ho.form
    simp -implicitDefEqProofs -dsimp only [go_sem, Nat.reduceEqDiff, Nat.reduceAdd, Nat.reduceMul, Nat.reduceSub, Nat.reduceLT, Nat.reduceLeDiff, Nat.reduceBEq, reduceIte, reduceCtorEq, Int.reduceLT, Int.reduceLE, Int.reduceEq, Int.reduceNeg, Int.reduceToNat, Int.reduceAdd, Int.reduceSub, p1, p2, p3, p4, p5, p6, decide_false, ↓g_call _ _ c_sautoirref12_id]
    refine CallK.of (ac_rId T2 cl sq (by omega) (by omega)) (fun w T3 ho3 => aft_nil ?_)
    obtain ⟨q1, q2, q3, q4, q5, q6⟩ := ho3.form
    simp -implicitDefEqProofs -dsimp only [go_sem, Nat.reduceEqDiff, Nat.reduceAdd, Nat.reduceMul, Nat.reduceSub, Nat.reduceLT, Nat.reduceLeDiff, Nat.reduceBEq, reduceIte, reduceCtorEq, Int.reduceLT, Int.reduceLE, Int.reduceEq, Int.reduceNeg, Int.reduceToNat, Int.reduceAdd, Int.reduceSub, p1, p2, p3, p4, p5, p6, q1, q2, q3, q4, q5, q6]
    refine ho.appO ho3 (by simp; omega) fun v4 T4 how => aft_nil ?_
    obtain ⟨q1, q2, q3, q4, q5, q6⟩ := how.form (List.mem_cons_self ..)
    simp only at q1 q2 q3 q4 q5 q6
    simp -implicitDefEqProofs -dsimp only [go_sem, Nat.reduceEqDiff, Nat.reduceAdd, Nat.reduceMul, Nat.reduceSub, Nat.reduceLT, Nat.reduceLeDiff, Nat.reduceBEq, reduceIte, reduceCtorEq, Int.reduceLT, Int.reduceLE, Int.reduceEq, Int.reduceNeg, Int.reduceToNat, Int.reduceAdd, Int.reduceSub, q1, q2, q3, q4, q5, q6, wrap_u8n (n := co) (by omega), bts_one (rfl : ((UInt8.ofNat co).toNat : Int) = _)]
    refine how.app (b := 1) (m := 1) (news := byteCells [UInt8.ofNat co]) (by simp [bts, slCells, byteCells]) rfl (by simp; omega) (by simp; omega) fun v5 T5 how => aft_nil ?_
    obtain ⟨q1, q2, q3, q4, q5, q6⟩ := how.form (List.mem_cons_self ..)
    simp only at q1 q2 q3 q4 q5 q6
    simp -implicitDefEqProofs -dsimp only [go_sem, Nat.reduceEqDiff, Nat.reduceAdd, Nat.reduceMul, Nat.reduceSub, Nat.reduceLT, Nat.reduceLeDiff, Nat.reduceBEq, reduceIte, reduceCtorEq, Int.reduceLT, Int.reduceLE, Int.reduceEq, Int.reduceNeg, Int.reduceToNat, Int.reduceAdd, Int.reduceSub, q1, q2, q3, q4, q5, q6]
    have e1 : enc ep ++ [UInt8.ofNat 2] ++ (enc cl ++ enc sq) ++ [UInt8.ofNat co] = encEn e := by
      rw [← enc_small (n := 2) (by omega), ← enc_small (n := co) (by omega)]; simp [encEn, h3, hepm, hcl, hsq, hco]
    refine finL_owns how fun S hS => ?_
    obtain ⟨c1, e2⟩ := hS _ (List.mem_cons_self ..)
    simp only [byteCells_append] at e2
    rw [show (enc ep ++ [UInt8.ofNat 2] ++ (enc cl ++ enc sq)).length + 1 = (enc ep ++ [UInt8.ofNat 2] ++ (enc cl ++ enc sq) ++ [UInt8.ofNat co]).length by simp only [List.length_append, List.length_cons, List.length_nil], e1] at e2
    obtain ⟨T0, _, hv4⟩ := how
    have : frzt T5 S v5 = frz1 T5 S v5 := by
      rcases hv4.2 with ⟨h, _⟩ | ⟨j, h, _⟩ <;> (simp only at h; rw [h]; rfl)
    rw [this, e2]; exact .fz
end Go.Aw
