import Derived.Test.YteiamcnjlpbihaaL17S12H
namespace Go.Aw
open Go
open Go.Proofs.Try (prog)
set_option linter.all false
set_option maxHeartbeats 4000000

theorem pc_flag (b : Bool) : PCalls prog f_entry_flag [.b b] (.i .u64 (if b = true then (1 : Nat) else 0 : Nat)) := by
  refine pcalls_of mixed t_entry_flag (by simp) fun T => ?_
  unfold s_entry_flag
  cases b <;> (simp -implicitDefEqProofs -dsimp only [go_sem, seval]; exact finL_pure rfl)

theorem lp_tBytes0 {R : RPost} (hR : ExtR R) {T : Tab} {xs : List Rd} {cap : Option Nat} {tc : List AV} (hl : xs.length ≤ 8) (hs : ∀ r ∈ xs, r.k.length ≤ 32 ∧ 0 ≤ r.n ∧ r.n < 18446744073709551616) : ∀ (ys : List Rd) (k : Nat), xs.drop k = ys → k ≤ xs.length → ∀ (b : List UInt8) (c : Option Nat), b.length ≤ 1001000 + 100 * k →
    (∀ c, R (.exit 0) [(1, bts (b ++ ys.flatMap encRd) c), (2, .lp 2 0), (24, .fz xs.length (xs.flatMap rdC) cap), (25, .i .i64 xs.length), (26, .i .i64 xs.length), (27, .b false)] [(2, tc)] T) →
    AW prog entry_Txn_Bytes_l0 R [(1, bts b c), (2, .lp 2 0), (24, .fz xs.length (xs.flatMap rdC) cap), (25, .i .i64 xs.length), (26, .i .i64 k)] [(2, tc)] T := by
  intro ys
  induction ys with
  | nil =>
    intro k hk hle b c hb h2
    have hk' := drop_nil hk hle
    refine AW_loop hR ?_
    unfold entry_Txn_Bytes_l0b
    simp -implicitDefEqProofs -dsimp only [go_sem, seval, hk', Int.lt_irrefl]
    rw [hk'] at h2
    simpa only [List.flatMap_nil, List.append_nil] using h2 c
  | cons y ys ih =>
    intro k hk hle b c hb h2
    obtain ⟨hlt, hy, hk'⟩ := drop_lt hk
    have hc := flat_at rdC_len hy
    have hc5 : k * 2 + 2 ≤ (xs.flatMap rdC).length := by rw [flat_length rdC_len]; omega
    obtain ⟨q1, q2, q3⟩ := hs y (List.mem_of_getElem? hy)
    obtain ⟨m, hm⟩ := Int.eq_ofNat_of_zero_le q2
    have h1 := enc_len10 (m := y.k.length) (by omega)
    have h3 := enc_len10 (m := m) (by omega)
    refine AW_loopD (l := entry_Txn_Bytes_l0) rfl hR ?_
    unfold entry_Txn_Bytes_l0b
    simp -implicitDefEqProofs -dsimp only [go_sem, seval, Int.ofNat_lt, hlt, Int.natCast_nonneg, Int.toNat_natCast, hc, hc5, rdC, List.cons_append, List.nil_append, ↓g_call _ _ c_octet_Text]
    refine CallK.pure (pc_oText b c y.k (by omega) (by omega)) (aft_nil ?_)
    simp -implicitDefEqProofs -dsimp only [go_sem, seval, hm, ↓g_call _ _ c_octet_Put]
    refine CallK.pure (pc_oPut (b ++ encT y.k) none m (by simp [encT]; omega) (by omega)) (aft_nil ?_)
    simp -implicitDefEqProofs -dsimp only [go_sem, seval]
    rw [wrap_succ (by omega)]
    have e : b ++ encT y.k ++ enc m = b ++ encRd y := by simp [encRd, hm]
    rw [e]
    refine ih (k + 1) hk' hlt (b ++ encRd y) none (by simp [encRd, encT, hm]; omega) fun c => ?_
    simpa only [List.flatMap_cons, List.append_assoc] using h2 c

theorem lp_tBytes1 {R : RPost} (hR : ExtR R) {T : Tab} {xs : List Wt} {cap : Option Nat} (hl : xs.length ≤ 8) (hs : ∀ w ∈ xs, w.k.length ≤ 32 ∧ w.v.length ≤ 64) : ∀ (ys : List Wt) (k : Nat), xs.drop k = ys → k ≤ xs.length → ∀ (b : List UInt8) (c : Option Nat), b.length ≤ 1002000 + 200 * k →
    (∀ c, R (.exit 2) [(1, bts (b ++ ys.flatMap encWt) c), (45, .fz xs.length (xs.flatMap wtC) cap), (46, .i .i64 xs.length), (47, .i .i64 xs.length), (48, .b false)] [] T) →
    AW prog entry_Txn_Bytes_l1 R [(1, bts b c), (45, .fz xs.length (xs.flatMap wtC) cap), (46, .i .i64 xs.length), (47, .i .i64 k)] [] T := by
  intro ys
  induction ys with
  | nil =>
    intro k hk hle b c hb h2
    have hk' := drop_nil hk hle
    refine AW_loop hR ?_
    unfold entry_Txn_Bytes_l1b
    simp -implicitDefEqProofs -dsimp only [go_sem, seval, hk', Int.lt_irrefl]
    rw [hk'] at h2
    simpa only [List.flatMap_nil, List.append_nil] using h2 c
  | cons y ys ih =>
    intro k hk hle b c hb h2
    obtain ⟨hlt, hy, hk'⟩ := drop_lt hk
    have hc := flat_at wtC_len hy
    have hc5 : k * 3 + 3 ≤ (xs.flatMap wtC).length := by rw [flat_length wtC_len]; omega
    obtain ⟨q1, q2⟩ := hs y (List.mem_of_getElem? hy)
    have h1 := enc_len10 (m := y.k.length) (by omega)
    have h3 := enc_len10 (m := y.v.length) (by omega)
    refine AW_loopD (l := entry_Txn_Bytes_l1) rfl hR ?_
    unfold entry_Txn_Bytes_l1b
    simp -implicitDefEqProofs -dsimp only [go_sem, seval, Int.ofNat_lt, hlt, Int.natCast_nonneg, Int.toNat_natCast, hc, hc5, wtC, List.cons_append, List.nil_append, ↓g_call _ _ c_octet_Text]
    refine CallK.pure (pc_oText b c y.k (by omega) (by omega)) (aft_nil ?_)
    simp -implicitDefEqProofs -dsimp only [go_sem, seval, ↓g_call _ _ c_octet_Text]
    refine CallK.pure (pc_oText (b ++ encT y.k) none y.v (by simp [encT]; omega) (by omega)) (aft_nil ?_)
    simp -implicitDefEqProofs -dsimp only [go_sem, seval, ↓g_call _ _ c_entry_flag]
    refine CallK.pure (pc_flag y.g) (aft_nil ?_)
    simp -implicitDefEqProofs -dsimp only [go_sem, seval, ↓g_call _ _ c_octet_Put]
    refine CallK.pure (pc_oPut (b ++ encT y.k ++ encT y.v) none _ (by simp [encT]; omega) (by split <;> omega)) (aft_nil ?_)
    simp -implicitDefEqProofs -dsimp only [go_sem, seval]
    rw [wrap_succ (by omega), enc_bit']
    have e : b ++ encT y.k ++ encT y.v ++ [bitB y.g] = b ++ encWt y := by simp [encWt]
    rw [e]
    refine ih (k + 1) hk' hlt (b ++ encWt y) none (by simp [encWt, encT]; omega) fun c => ?_
    simpa only [List.flatMap_cons, List.append_assoc] using h2 c

theorem encRd_len {r : Rd} (h : r.k.length ≤ 32 ∧ 0 ≤ r.n ∧ r.n < 18446744073709551616) : (encRd r).length ≤ 52 := by
  have h1 := enc_len10 (m := r.k.length) (by omega)
  have h2 := enc_len10 (m := r.n.toNat) (by omega)
  simp only [encRd, encT, List.length_append]; omega
theorem encWt_len {w : Wt} (h : w.k.length ≤ 32 ∧ w.v.length ≤ 64) : (encWt w).length ≤ 117 := by
  have h1 := enc_len10 (m := w.k.length) (by omega)
  have h2 := enc_len10 (m := w.v.length) (by omega)
  simp only [encWt, encT, List.length_append, List.length_cons, List.length_nil]; omega

theorem pc_tBytes (t : Tx) (k1 k2 : Option Nat) (b : List UInt8) (c : Option Nat) (h : t.Good) (hb : b.length ≤ 1000000) : PCalls prog f_entry_Txn_Bytes [.agg (t.cells k1 k2), bts b c] (bts (b ++ encTx t) none) := by
  refine pcalls_of mixed t_entry_Txn_Bytes (by simp) fun T => ?_
  obtain ⟨hcl, hsq, hr, hw, hrr, hww⟩ := h
  obtain ⟨cl, hclm⟩ := Int.eq_ofNat_of_zero_le hcl.1
  obtain ⟨sq, hsqm⟩ := Int.eq_ofNat_of_zero_le (show 0 ≤ t.sq by omega)
  have l1 := enc_len10 (m := cl) (by omega)
  have l2 := enc_len10 (m := sq) (by omega)
  have l3 := enc_len10 (m := t.rs.length) (by omega)
  have l4 := enc_len10 (m := t.ws.length) (by omega)
  have l5 := flatB_len (g := encRd) t.rs fun r hr => encRd_len (hrr r hr)
  have l6 := flatB_len (g := encWt) t.ws fun r hr => encWt_len (hww r hr)
  have c1 := pc_putID b c cl sq hb (by omega) (by omega)
  unfold s_entry_Txn_Bytes
  simp -implicitDefEqProofs -dsimp only [go_sem, seval, Tx.cells, hclm, hsqm, ↓g_call _ _ c_entry_putID]
  refine CallK.pure c1 (aft_nil ?_)
  simp -implicitDefEqProofs -dsimp only [go_sem, seval, ↓g_call _ _ c_entry_flag]
  refine CallK.pure (pc_flag t.pl) (aft_nil ?_)
  simp -implicitDefEqProofs -dsimp only [go_sem, seval, ↓g_call _ _ c_octet_Put]
  refine CallK.pure (pc_oPut (b ++ enc cl ++ enc sq) none _ (by simp; omega) (by split <;> omega)) (aft_nil ?_)
  rw [enc_bit']
  simp -implicitDefEqProofs -dsimp only [go_sem, seval, wrap_u64n (n := t.rs.length) (by omega), ↓g_call _ _ c_octet_Put]
  refine CallK.pure (pc_oPut (b ++ enc cl ++ enc sq ++ [bitB t.pl]) none t.rs.length (by simp; omega) (by omega)) (aft_nil ?_)
  simp -implicitDefEqProofs -dsimp only [go_sem, seval]
  refine lp_tBytes0 (T := T) (by repeat' (first | exact finX_ext _ _ | assumption | apply blkR_ext | apply thenR_ext | apply AW_ext)) hr hrr t.rs 0 rfl (by omega) _ none (by simp; omega) (fun c => ?_)
  simp -implicitDefEqProofs -dsimp only [go_sem, seval, wrap_u64n (n := t.ws.length) (by omega), ↓g_call _ _ c_octet_Put]
  refine CallK.pure (pc_oPut (b ++ enc cl ++ enc sq ++ [bitB t.pl] ++ enc t.rs.length ++ t.rs.flatMap encRd) c t.ws.length (by simp only [List.length_append, List.length_cons, List.length_nil]; omega) (by omega)) (aft_nil ?_)
  simp -implicitDefEqProofs -dsimp only [go_sem, seval]
  refine lp_tBytes1 (T := T) (by repeat' (first | exact finX_ext _ _ | assumption | apply blkR_ext | apply thenR_ext | apply AW_ext)) hw hww t.ws 0 rfl (by omega) _ none (by simp only [List.length_append, List.length_cons, List.length_nil]; omega) (fun c => ?_)
  simp -implicitDefEqProofs -dsimp only [go_sem, seval]
  refine fin_as ?_ rfl
  have e : b ++ enc cl ++ enc sq ++ [bitB t.pl] ++ enc t.rs.length ++ t.rs.flatMap encRd ++ enc t.ws.length ++ t.ws.flatMap encWt = b ++ encTx t := by simp [encTx, hclm, hsqm]
  rw [e]
  exact .fz
end Go.Aw
