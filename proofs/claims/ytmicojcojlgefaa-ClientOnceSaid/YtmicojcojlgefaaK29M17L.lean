import Derived.Test.YtmicojcojlgefaaK29M17G
namespace Go.Aw
open Go
open Go.Proofs.Try (prog)
set_option linter.all false
set_option maxHeartbeats 8000000
set_option maxRecDepth 8000

theorem lp_bare {R : RPost} (hR : ExtR R) {T : Tab} {l : Lt Cf} {z : List AV} {bs : Bs} (hl : Len bs.length) : ∀ (us : Bs) (k : Nat), bs.drop k = us → k ≤ bs.length → ∀ (o : Lt Cf) (oc : List AV), oc.length = 26 → Wks oc o.cc →
    (∀ oc', oc'.length = 26 → Wks oc' (baF l o us).cc → R (.exit 0) [(1, .s bs), (2, .lp 2 0), (4, .lp 4 0), (5, .lp 5 0), (15, .i .i64 bs.length), (16, .i .i64 bs.length), (17, .b false)] [(2, l.cc), (4, z), (5, oc')] T) →
    AW prog letter_Letter_bare_l0 R [(1, .s bs), (2, .lp 2 0), (4, .lp 4 0), (5, .lp 5 0), (15, .i .i64 bs.length), (16, .i .i64 k)] [(2, l.cc), (4, z), (5, oc)] T := by
  intro us
  induction us with
  | nil =>
    intro k hk hle o oc hp hw h2
    have hk' := drop_nil hk hle
    refine AW_loop hR ?_
    unfold letter_Letter_bare_l0b
    simp -implicitDefEqProofs -dsimp only [go_sem, seval, hk', Int.lt_irrefl]
    rw [hk'] at h2
    exact h2 oc hp hw
  | cons y us ih =>
    intro k hk hle o oc hp hw h2
    obtain ⟨hlt, hy, hk'⟩ := drop_lt hk
    unfold Len at hl
    have hs : IntKind.i64.wrap ((k : Int) + 1) = ((k + 1 : Nat) : Int) := wrap_succ (by omega)
    have ht : oc.take 26 = oc := List.take_of_length_le (by omega)
    have hd : oc.drop 26 = [] := List.drop_eq_nil_iff.2 (by omega)
    have pc := PCalls.wk (Wks.cons (Wk.agg hw) (Wks.refl _)) (pc_with o l y.toNat)
    refine AW_loopD (l := letter_Letter_bare_l0) rfl hR ?_
    unfold letter_Letter_bare_l0b
    simp -implicitDefEqProofs -dsimp only [go_sem, seval, Int.ofNat_lt, hlt, Int.natCast_nonneg, Int.toNat_natCast, hy, hp, ht, hd, cc_len, cc_take, cc_drop, ↓g_call _ _ c_letter_Letter_with]
    refine CallK.pure pc (aft_nil ?_)
    simp -implicitDefEqProofs -dsimp only [go_sem, seval, hp, ht, hd, cc_len, cc_take, cc_drop, hs]
    exact ih (k + 1) hk' hlt (wiF o l y.toNat) _ (cc_len _) (Wks.refl _) h2
theorem pc_bare (l : Lt Cf) (bs : Bs) (hl : Len bs.length) : PCalls prog f_letter_Letter_bare [.agg l.cc, .s bs] (.agg (baF l l.bare0 bs).cc) := by
  refine pcalls_of mixed t_letter_Letter_bare (by simp) fun T => ?_
  unfold s_letter_Letter_bare
  simp -implicitDefEqProofs -dsimp only [go_sem, seval, cc_len, cc_take, cc_drop, cc_fa, cc_ta, cc_k]
  refine lp_bare (by repeat' (first | exact finX_ext _ _ | assumption | apply blkR_ext | apply thenR_ext | apply AW_ext)) hl bs 0 rfl (Nat.zero_le _) l.bare0 _ rfl (Wk.lt0 l) (fun oc' h1 h2 => ?_)
  have ht : oc'.take 26 = oc' := List.take_of_length_le (by omega)
  simp -implicitDefEqProofs -dsimp only [go_sem, seval, h1, ht]
  exact fin_as (Wk.agg h2) rfl

theorem ite_small {c : Prop} [Decidable c] {a b : Lt Cf} (ha : a.Small) (hb : b.Small) : (if c then a else b).Small := by split <;> assumption
theorem wi_small {o l : Lt Cf} (ho : o.Small) (hl : l.Small) (s : Int) : (wiF o l s).Small := by
  obtain ⟨o1, o2, o3, o4, o5, o6, o7⟩ := ho
  obtain ⟨l1, l2, l3, l4, l5, l6, l7⟩ := hl
  unfold wiF
  iterate 15 (refine ite_small ?_ ?_; (constructor <;> assumption))
  constructor <;> assumption
theorem ba_small {l : Lt Cf} (hl : l.Small) : ∀ (ss : Bs) (o : Lt Cf), o.Small → (baF l o ss).Small
  | [], o, h => h
  | s :: ss, o, h => ba_small hl ss _ (wi_small h hl _)
theorem bare0_small (l : Lt Cf) : l.bare0.Small := ⟨(show (0 : Nat) < 9223372036854775808 by decide), (show (0 : Nat) < 9223372036854775808 by decide), (show (0 : Nat) < 9223372036854775808 by decide), (show (0 : Nat) < 9223372036854775808 by decide), (show (0 : Nat) < 9223372036854775808 by decide), fun _ h => (by cases h), fun _ h => (by cases h)⟩
def lrF (l : Lt Cf) : Bool := kdOk l.k && adOk l.fk l.fn && adOk l.tk l.tn && ltE l (baF l l.bare0 (sgnR l.k)) && (sgnR l.k).all fun s => maF l s.toNat
theorem lp_lRight {R : RPost} (hR : ExtR R) {T : Tab} {l : Lt Cf} {bs : Bs} (hl : Len bs.length) (hs : l.Small) (ht : l.t.Fine) : ∀ (us : Bs) (k : Nat), bs.drop k = us → k ≤ bs.length →
    ((us.all fun s => maF l s.toNat) = false → R .ret [(2, .b false)] [] T) →
    ((us.all fun s => maF l s.toNat) = true → R (.exit 0) [(1, .lp 1 0), (3, .s bs), (35, .i .i64 bs.length), (36, .i .i64 bs.length), (37, .b false)] [(1, l.cells cfC)] T) →
    AW prog letter_Right_l0 R [(1, .lp 1 0), (3, .s bs), (35, .i .i64 bs.length), (36, .i .i64 k)] [(1, l.cells cfC)] T := by
  intro us
  induction us with
  | nil =>
    intro k hk hle h1 h2
    have hk' := drop_nil hk hle
    refine AW_loop hR ?_
    unfold letter_Right_l0b
    simp -implicitDefEqProofs -dsimp only [go_sem, seval, hk', Int.lt_irrefl]
    rw [hk'] at h2
    exact h2 rfl
  | cons y us ih =>
    intro k hk hle h1 h2
    obtain ⟨hlt, hy, hk'⟩ := drop_lt hk
    unfold Len at hl
    have hw : IntKind.i64.wrap ((k : Int) + 1) = ((k + 1 : Nat) : Int) := wrap_succ (by omega)
    simp only [List.all_cons] at h1 h2
    refine AW_loopD (l := letter_Right_l0) rfl hR ?_
    unfold letter_Right_l0b
    simp -implicitDefEqProofs -dsimp only [go_sem, seval, Int.ofNat_lt, hlt, Int.natCast_nonneg, Int.toNat_natCast, hy, cc_len, cc_take, ↓g_call _ _ c_letter_Letter_may]
    refine CallK.pure (pc_may l y.toNat hs ht) (aft_nil ?_)
    rcases he : maF l y.toNat with _ | _
    · simp -implicitDefEqProofs -dsimp only [go_sem, seval]
      exact h1 (by rw [he]; rfl)
    · rw [he, Bool.true_and] at h1 h2
      simp -implicitDefEqProofs -dsimp only [go_sem, seval, hw]
      exact ih (k + 1) hk' hlt h1 h2
theorem sgn_no {k : Int} (h : kdOk k = false) : sgnR k = [] := by
  simp only [kdOk, decide_eq_false_iff_not] at h
  unfold sgnR
  repeat' rw [if_neg (by omega)]
theorem sgn_len (k : Int) : (sgnR k).length ≤ 6 := by
  rcases kinds k with (rfl | rfl | rfl | rfl | rfl | rfl | rfl | rfl | rfl | rfl | rfl | rfl | rfl | rfl | rfl | rfl | rfl | rfl | rfl | rfl | rfl) | h
  any_goals (decide +kernel)
  rw [sgn_no h]
  decide
set_option maxRecDepth 20000 in
theorem pc_lRight (l : Lt Cf) (hs : l.Small) (ht : l.t.Fine) : PCalls prog f_letter_Right [.agg l.cc] (.b (lrF l)) := by
  refine pcalls_of mixed t_letter_Right (by simp) fun T => ?_
  have hsl : Len (sgnR l.k).length := by have := sgn_len l.k; unfold Len; omega
  have pb := pc_bare l (sgnR l.k) hsl
  have ps := pc_letterSame l (baF l l.bare0 (sgnR l.k)) hs (ba_small hs _ _ (bare0_small l))
  unfold s_letter_Right
  simp -implicitDefEqProofs -dsimp only [go_sem, seval, cc_len, cc_take, cc_fa, cc_ta, cc_k, ↓g_call _ _ c_letter_fields]
  refine CallK.pure (pc_fields l.k) (aft_nil ?_)
  simp -implicitDefEqProofs -dsimp only [go_sem, seval, cc_len, cc_take, cc_fa, cc_ta, cc_k]
  (first | ((first | (apply br_split <;> intro h_1) | (refine CallK.pure (pc_RightAddr _ _) (aft_nil ?_); have h_1 := trivial) | (refine CallK.pure (pb) (aft_nil ?_); have h_1 := trivial) | (refine CallK.pure (ps) (aft_nil ?_); have h_1 := trivial)) <;> simp -implicitDefEqProofs -dsimp only [go_sem, seval, cc_len, cc_take, cc_fa, cc_ta, cc_k, ↓g_call _ _ c_letter_RightAddr, ↓g_call _ _ c_letter_Letter_bare, ↓g_call _ _ c_letter_Same, h_1]) | (have h_1 := trivial)) <;>
    (first | ((first | (apply br_split <;> intro h_2) | (refine CallK.pure (pc_RightAddr _ _) (aft_nil ?_); have h_2 := trivial) | (refine CallK.pure (pb) (aft_nil ?_); have h_2 := trivial) | (refine CallK.pure (ps) (aft_nil ?_); have h_2 := trivial)) <;> simp -implicitDefEqProofs -dsimp only [go_sem, seval, cc_len, cc_take, cc_fa, cc_ta, cc_k, ↓g_call _ _ c_letter_RightAddr, ↓g_call _ _ c_letter_Letter_bare, ↓g_call _ _ c_letter_Same, h_1, h_2]) | (have h_2 := trivial)) <;>
    (first | ((first | (apply br_split <;> intro h_3) | (refine CallK.pure (pc_RightAddr _ _) (aft_nil ?_); have h_3 := trivial) | (refine CallK.pure (pb) (aft_nil ?_); have h_3 := trivial) | (refine CallK.pure (ps) (aft_nil ?_); have h_3 := trivial)) <;> simp -implicitDefEqProofs -dsimp only [go_sem, seval, cc_len, cc_take, cc_fa, cc_ta, cc_k, ↓g_call _ _ c_letter_RightAddr, ↓g_call _ _ c_letter_Letter_bare, ↓g_call _ _ c_letter_Same, h_1, h_2, h_3]) | (have h_3 := trivial)) <;>
    (first | ((first | (apply br_split <;> intro h_4) | (refine CallK.pure (pc_RightAddr _ _) (aft_nil ?_); have h_4 := trivial) | (refine CallK.pure (pb) (aft_nil ?_); have h_4 := trivial) | (refine CallK.pure (ps) (aft_nil ?_); have h_4 := trivial)) <;> simp -implicitDefEqProofs -dsimp only [go_sem, seval, cc_len, cc_take, cc_fa, cc_ta, cc_k, ↓g_call _ _ c_letter_RightAddr, ↓g_call _ _ c_letter_Letter_bare, ↓g_call _ _ c_letter_Same, h_1, h_2, h_3, h_4]) | (have h_4 := trivial)) <;>
    (first | ((first | (apply br_split <;> intro h_5) | (refine CallK.pure (pc_RightAddr _ _) (aft_nil ?_); have h_5 := trivial) | (refine CallK.pure (pb) (aft_nil ?_); have h_5 := trivial) | (refine CallK.pure (ps) (aft_nil ?_); have h_5 := trivial)) <;> simp -implicitDefEqProofs -dsimp only [go_sem, seval, cc_len, cc_take, cc_fa, cc_ta, cc_k, ↓g_call _ _ c_letter_RightAddr, ↓g_call _ _ c_letter_Letter_bare, ↓g_call _ _ c_letter_Same, h_1, h_2, h_3, h_4, h_5]) | (have h_5 := trivial)) <;>
    (first | ((first | (apply br_split <;> intro h_6) | (refine CallK.pure (pc_RightAddr _ _) (aft_nil ?_); have h_6 := trivial) | (refine CallK.pure (pb) (aft_nil ?_); have h_6 := trivial) | (refine CallK.pure (ps) (aft_nil ?_); have h_6 := trivial)) <;> simp -implicitDefEqProofs -dsimp only [go_sem, seval, cc_len, cc_take, cc_fa, cc_ta, cc_k, ↓g_call _ _ c_letter_RightAddr, ↓g_call _ _ c_letter_Letter_bare, ↓g_call _ _ c_letter_Same, h_1, h_2, h_3, h_4, h_5, h_6]) | (have h_6 := trivial)) <;>
    (first | ((first | (apply br_split <;> intro h_7) | (refine CallK.pure (pc_RightAddr _ _) (aft_nil ?_); have h_7 := trivial) | (refine CallK.pure (pb) (aft_nil ?_); have h_7 := trivial) | (refine CallK.pure (ps) (aft_nil ?_); have h_7 := trivial)) <;> simp -implicitDefEqProofs -dsimp only [go_sem, seval, cc_len, cc_take, cc_fa, cc_ta, cc_k, ↓g_call _ _ c_letter_RightAddr, ↓g_call _ _ c_letter_Letter_bare, ↓g_call _ _ c_letter_Same, h_1, h_2, h_3, h_4, h_5, h_6, h_7]) | (have h_7 := trivial)) <;>
    (first | ((first | (apply br_split <;> intro h_8) | (refine CallK.pure (pc_RightAddr _ _) (aft_nil ?_); have h_8 := trivial) | (refine CallK.pure (pb) (aft_nil ?_); have h_8 := trivial) | (refine CallK.pure (ps) (aft_nil ?_); have h_8 := trivial)) <;> simp -implicitDefEqProofs -dsimp only [go_sem, seval, cc_len, cc_take, cc_fa, cc_ta, cc_k, ↓g_call _ _ c_letter_RightAddr, ↓g_call _ _ c_letter_Letter_bare, ↓g_call _ _ c_letter_Same, h_1, h_2, h_3, h_4, h_5, h_6, h_7, h_8]) | (have h_8 := trivial)) <;>
    (first | ((first | (apply br_split <;> intro h_9) | (refine CallK.pure (pc_RightAddr _ _) (aft_nil ?_); have h_9 := trivial) | (refine CallK.pure (pb) (aft_nil ?_); have h_9 := trivial) | (refine CallK.pure (ps) (aft_nil ?_); have h_9 := trivial)) <;> simp -implicitDefEqProofs -dsimp only [go_sem, seval, cc_len, cc_take, cc_fa, cc_ta, cc_k, ↓g_call _ _ c_letter_RightAddr, ↓g_call _ _ c_letter_Letter_bare, ↓g_call _ _ c_letter_Same, h_1, h_2, h_3, h_4, h_5, h_6, h_7, h_8, h_9]) | (have h_9 := trivial))
  any_goals (refine finL_pure ?_; (try simp only [Bool.not_eq_true', Bool.not_eq_false'] at *); simp only [lrF, *, Bool.true_and, Bool.and_true, Bool.false_and, Bool.and_false]; done)
  refine lp_lRight (l := l) (by repeat' (first | exact finX_ext _ _ | assumption | apply blkR_ext | apply thenR_ext | apply AW_ext)) hsl hs ht (sgnR l.k) 0 rfl (Nat.zero_le _) (fun h => ?_) (fun h => ?_) <;> simp -implicitDefEqProofs -dsimp only [go_sem, seval] <;> refine finL_pure ?_ <;> (try simp only [Bool.not_eq_true', Bool.not_eq_false'] at *) <;> simp only [lrF, *, Bool.true_and, Bool.and_true, Bool.false_and, Bool.and_false]
end Go.Aw

namespace Go.Aw
open Go
open Go.Proofs.Try (prog)
set_option linter.all false
set_option maxHeartbeats 8000000
set_option maxRecDepth 8000

section
variable {γ : Type} {f : γ → List AV} (o : Lt γ)
theorem cc_br : (o.cells f)[11]? = some (.i .u64 o.br) := rfl
theorem cc_bn : (o.cells f)[12]? = some (.i .i64 o.bn) := rfl
end
end Go.Aw

