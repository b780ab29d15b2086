import Derived.Test.YteiamcnjlpbihaaM17R
namespace Go.Aw
open Go
open Go.Proofs.Try (prog)
set_option linter.all false
set_option maxHeartbeats 8000000
set_option maxRecDepth 8000

def encIs (l : List Int) : Bs := l.flatMap fun n => enc n.toNat
theorem lp_Put0 {R : RPost} (hR : ExtR R) {T : Tab} {lc : List AV} {sg : AV} (hsg : sg.plain = true ∧ sg.isOne = true ∧ (∀ k, sg.offLp k = sg)) {xs : List Int} {q : Option Nat} (hl : xs.length ≤ 10) (hx : ∀ x ∈ xs, 0 ≤ x ∧ x < 1000) : ∀ (us : List Int) (k : Nat), xs.drop k = us → k ≤ xs.length → ∀ (b : Bs) (c : Option Nat), b.length ≤ 100 + 10 * k →
    (∀ c, R (.exit 0) [(1, .lp 1 0), (4, sg), (6, bts (b ++ encIs us) c), (33, .fz xs.length (ints xs) q), (34, .i .i64 xs.length), (35, .i .i64 xs.length), (36, .b false)] [(1, lc)] T) →
    AW prog letter_Put_l0 R [(1, .lp 1 0), (4, sg), (6, bts b c), (33, .fz xs.length (ints xs) q), (34, .i .i64 xs.length), (35, .i .i64 k)] [(1, lc)] T := by
  obtain ⟨s1, s2, s3⟩ := hsg
  intro us
  induction us with
  | nil =>
    intro k hk hle b c hb h2
    have hk' := drop_nil hk hle
    refine AW_loop hR ?_
    unfold letter_Put_l0b
    simp -implicitDefEqProofs -dsimp only [go_sem, seval, hk', Int.lt_irrefl, s1, s2, s3]
    rw [hk', encIs, List.flatMap_nil, List.append_nil] at h2
    exact h2 c
  | cons y us ih =>
    intro k hk hle b c hb h2
    obtain ⟨hlt, hy, hk'⟩ := drop_lt hk
    have hs : IntKind.i64.wrap ((k : Int) + 1) = ((k + 1 : Nat) : Int) := wrap_succ (by omega)
    have hy1 := hx y (List.mem_of_getElem? hy)
    have l1 := enc_len10 (m := y.toNat) (by omega)
    have hw : IntKind.u64.wrap y = y := IntWalk.u64_in _ (by omega)
    have pc := pc_oPut b c y.toNat (by omega) (by omega)
    rw [Int.toNat_of_nonneg (by omega)] at pc
    have ea := ints_at xs k
    rw [hy] at ea
    simp only [Option.map_some] at ea
    rw [encIs, List.flatMap_cons, ← List.append_assoc] at h2
    refine AW_loopD (l := letter_Put_l0) rfl hR ?_
    unfold letter_Put_l0b
    simp -implicitDefEqProofs -dsimp only [go_sem, seval, Int.ofNat_lt, hlt, Int.natCast_nonneg, Int.toNat_natCast, ea, hw, s1, s2, s3, ↓g_call _ _ c_octet_Put]
    refine CallK.pure pc (aft_nil ?_)
    simp -implicitDefEqProofs -dsimp only [go_sem, seval, hs, s1, s2, s3]
    exact ih (k + 1) hk' hlt (b ++ enc y.toNat) none (by rw [List.length_append]; omega) h2
theorem ad_rng {k n : Int} (h : adOk k n = true) : (0 ≤ k ∧ k < 1000) ∧ (0 ≤ n ∧ n < 1000) := by
  simp only [adOk, Bool.and_eq_true, decide_eq_true_eq] at h
  unfold mostA at h
  by_cases e1 : k = 1
  · rw [if_pos e1] at h; omega
  by_cases e2 : k = 2
  · rw [if_neg e1, if_pos e2] at h; omega
  by_cases e3 : k = 3
  · rw [if_neg e1, if_neg e2, if_pos e3] at h; omega
  · rw [if_neg e1, if_neg e2, if_neg e3] at h; omega
theorem enc_pos (n : Nat) : 1 ≤ (enc n).length := by
  by_cases h : n < 128
  · rw [enc_small h]; exact Nat.le_refl _
  · rw [enc_big h]; simp
def lputR (l : Lt Cf) : AV := if lrF l = true then .tup [bts (frm (encLt l)) none, .i .i64 0] else .tup [.fz 0 [] (some 0), .i .i64 1]
theorem lr_parts {l : Lt Cf} (h : lrF l = true) : kdOk l.k = true ∧ adOk l.fk l.fn = true ∧ adOk l.tk l.tn = true ∧ ltE l (baF l l.bare0 (sgnR l.k)) = true ∧ ((sgnR l.k).all fun s => maF l s.toNat) = true := by
  simp only [lrF, Bool.and_eq_true] at h
  exact ⟨h.1.1.1.1, h.1.1.1.2, h.1.1.2, h.1.2, h.2⟩
theorem encLt_len {l : Lt Cf} (hr : l.Rng) (h : lrF l = true) : 1 ≤ (encLt l).length ∧ (encLt l).length ≤ 65060 := by
  obtain ⟨h1, h2, h3, h4, h5⟩ := lr_parts h
  have a1 := ad_rng h2
  have a2 := ad_rng h3
  have hk := h1
  simp only [kdOk, decide_eq_true_eq] at hk
  have l1 := enc_len10 (m := l.fk.toNat) (by omega)
  have l2 := enc_len10 (m := l.fn.toNat) (by omega)
  have l3 := enc_len10 (m := l.tk.toNat) (by omega)
  have l4 := enc_len10 (m := l.tn.toNat) (by omega)
  have l5 := enc_len10 (m := l.k.toNat) (by omega)
  have p := enc_pos l.fk.toNat
  have key : ∀ us : Bs, us.all sgB = true → (us.all fun s => maF l s.toNat) = true → (us.flatMap fun s => enS l s.toNat).length ≤ (us.map fun s => wS s.toNat).sum := by
    intro us
    induction us with
    | nil => intros; exact Nat.le_refl _
    | cons y us ih =>
      intro ha hma
      simp only [List.all_cons, Bool.and_eq_true] at ha hma
      have e1 := enS_len hr y.toNat (sgB_or y ha.1) hma.1
      have e2 := ih ha.2 hma.2
      simp only [List.flatMap_cons, List.length_append, List.map_cons, List.sum_cons]; omega
  have s1 := (sgn_all l.k).1
  have s2 := (sgn_all l.k).2
  have e := key _ s1 h5
  simp only [encLt, List.length_append]
  omega
theorem pc_lPutF (l : Lt Cf) (hs : l.Small) (ht : l.t.Fine) (hr : l.Rng) : PCalls prog f_letter_Put [.agg l.cc] (lputR l) := by
  refine pcalls_of mixed t_letter_Put (by simp) fun T => ?_
  have hri := pc_lRight l hs ht
  unfold lputR
  unfold s_letter_Put
  simp -implicitDefEqProofs -dsimp only [go_sem, seval, cc_len, cc_take, ↓g_call _ _ c_letter_Right]
  refine CallK.pure hri (aft_nil ?_)
  rcases h : lrF l with _ | _
  · simp -implicitDefEqProofs -dsimp only [go_sem, seval]
    exact finL_pure rfl
  have hp := fun c => pc_Put (encLt l) c (by have := (encLt_len hr h).2; omega)
  have hpo : putOk (encLt l) = true := by
    have := encLt_len hr h
    simp only [putOk, Bool.and_eq_true, decide_eq_true_eq]; omega
  simp only [putR, if_pos hpo] at hp
  obtain ⟨h1, h2, h3, h4, h5⟩ := lr_parts h
  have a1 := ad_rng h2
  have a2 := ad_rng h3
  have hk := h1
  simp only [kdOk, decide_eq_true_eq] at hk
  have l1 := enc_len10 (m := l.fk.toNat) (by omega)
  have l2 := enc_len10 (m := l.fn.toNat) (by omega)
  have l3 := enc_len10 (m := l.tk.toNat) (by omega)
  have l4 := enc_len10 (m := l.tn.toNat) (by omega)
  have l5 := enc_len10 (m := l.k.toNat) (by omega)
  have s1 := (sgn_all l.k).1
  have s2 := (sgn_all l.k).2
  have hsl := sgn_len l.k
  have e5 : encIs [l.fk, l.fn, l.tk, l.tn, l.k] = enc l.fk.toNat ++ enc l.fn.toNat ++ enc l.tk.toNat ++ enc l.tn.toNat ++ enc l.k.toNat := by simp [encIs]
  have key := fun (R : RPost) (hR : ExtR R) h => lp_Put0 (R := R) hR (T := T) (lc := l.cells cfC) (sg := .s (sgnR l.k)) ⟨rfl, rfl, fun _ => rfl⟩ (xs := [l.fk, l.fn, l.tk, l.tn, l.k]) (q := some 5) (show 5 ≤ 10 by decide) (by
    intro x hx
    simp only [List.mem_cons, List.not_mem_nil, or_false] at hx
    rcases hx with rfl | rfl | rfl | rfl | rfl <;> omega) [l.fk, l.fn, l.tk, l.tn, l.k] 0 rfl (Nat.zero_le _) [] (some 0) (Nat.zero_le _) h
  have hfa : ∀ j : Nat, True := fun _ => trivial
  simp -implicitDefEqProofs -dsimp only [go_sem, seval, cc_len, cc_take, cc_k, ↓g_call _ _ c_letter_fields]
  refine CallK.pure (pc_fields l.k) (aft_nil ?_)
  simp -implicitDefEqProofs -dsimp only [go_sem, seval, cc_len, cc_take, cc_k, cc_fk, cc_fn, cc_tk, cc_tn]
  refine key _ (by repeat' (first | exact finX_ext _ _ | assumption | apply blkR_ext | apply thenR_ext | apply AW_ext)) (fun c => ?_)
  rw [e5, List.nil_append]
  simp -implicitDefEqProofs -dsimp only [go_sem, seval]
  refine lp_Put1 (T := T) (bs := sgnR l.k) (by repeat' (first | exact finX_ext _ _ | assumption | apply blkR_ext | apply thenR_ext | apply AW_ext)) (by unfold Len; omega) hr ht (sgnR l.k) 0 rfl (Nat.zero_le _) s1 h5 _ c (by simp only [List.length_append]; omega) (fun _ c => ?_)
  simp -implicitDefEqProofs -dsimp only [go_sem, seval, ↓g_call _ _ c_frame_Put]
  refine CallK.pure (hp c) (aft_nil ?_)
  simp -implicitDefEqProofs -dsimp only [go_sem, seval]
  exact finL_pure rfl
end Go.Aw
