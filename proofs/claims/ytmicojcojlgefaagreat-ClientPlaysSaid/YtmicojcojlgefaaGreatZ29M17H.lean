import Derived.Test.YtmicojcojlgefaaGreatZ29M17G
namespace Go.Aw
open Go
open Go.Proofs.Tryz (prog)
set_option linter.all false
set_option maxHeartbeats 8000000
set_option maxRecDepth 8000
theorem z6h {R : Y5} (hR : ExtR R) {T : Tab} {l : Lt Cf} {z : List AV} {bs : Bs} (hl : Len bs.length) : ∀ (us : Bs) (k : Nat), bs.drop k = us -> k <= bs.length -> ∀ (o : Lt Cf) (oc : List AV), oc.length = 26 -> Wks oc o.cc ->
  (∀ oc', oc'.length = 26 -> Wks oc' (baF l o us).cc -> R (.exit 0) [(1, .s bs), (2, .lp 2 0), (4, .lp 4 0), (5, .lp 5 0), (15, .i .i64 bs.length), (16, .i .i64 bs.length), (17, .b false)] [(2, l.cc), (4, z), (5, oc')] T) ->
  AW prog q79 R [(1, .s bs), (2, .lp 2 0), (4, .lp 4 0), (5, .lp 5 0), (15, .i .i64 bs.length), (16, .i .i64 k)] [(2, l.cc), (4, z), (5, oc)] T := by
 intro us
 induction us with
 | nil =>
  intro k hk hle o oc hp hw h2
  have hk' := O9 hk hle
  refine Q2 hR ?_
  unfold q65
  simp -implicitDefEqProofs -dsimp only [go_sem, seval, hk', Int.lt_irrefl]
  rw [hk'] at h2
  exact h2 oc hp hw
 | cons y us ih =>
  intro k hk hle o oc hp hw h2
  obtain ⟨hlt, hy, hk'⟩ := Q5 hk
  unfold Len at hl
  have hs : IntKind.i64.wrap ((k : Int) + 1) = ((k + 1 : Nat) : Int) := K9 (by omega)
  have ht : oc.take 26 = oc := List.take_of_length_le (by omega)
  have hd : oc.drop 26 = [] := List.drop_eq_nil_iff.2 (by omega)
  have pc := PCalls.wk (Wks.cons (Wk.agg hw) (Wks.refl _)) (z6g o l y.toNat)
  refine O2 (l := q79) rfl hR ?_
  unfold q65
  simp -implicitDefEqProofs -dsimp only [go_sem, seval, Int.ofNat_lt, hlt, Int.natCast_nonneg, Int.toNat_natCast, hy, hp, ht, hd, ↓J0 _ _ qjr]
  refine cpn pc ?_
  simp -implicitDefEqProofs -dsimp only [go_sem, seval, hp, ht, hd, hs]
  exact ih (k + 1) hk' hlt (wiF o l y.toNat) _ (z4s _) (Wks.refl _) h2
theorem z6i (l : Lt Cf) (bs : Bs) (hl : Len bs.length) : PCalls prog q48 [.agg l.cc, .s bs] (.agg (baF l l.bare0 bs).cc) := by
 refine K5 Q7 qjd (by simp) fun T => ?_
 unfold qbq
 simp -implicitDefEqProofs -dsimp only [go_sem, seval]
 refine z6h (by repeat' (first | exact N5 _ _ | assumption | apply N4 | apply K7 | apply U1)) hl bs 0 rfl (Nat.zero_le _) l.bare0 _ rfl (Wk.lt0 l) (fun oc' h1 h2 => ?_)
 have ht : oc'.take 26 = oc' := List.take_of_length_le (by omega)
 simp -implicitDefEqProofs -dsimp only [go_sem, seval, h1, ht]
 exact q80 (Wk.agg h2) rfl
theorem z19 {c : Prop} [Decidable c] {a b : Lt Cf} (ha : a.Small) (hb : b.Small) : (if c then a else b).Small := by split <;> assumption
theorem z3p {o l : Lt Cf} (ho : o.Small) (hl : l.Small) (s : Int) : (wiF o l s).Small := by
 obtain ⟨o1, o2, o3, o4, o5, o6, o7⟩ := ho
 obtain ⟨l1, l2, l3, l4, l5, l6, l7⟩ := hl
 unfold wiF
 iterate 15 (refine z19 ?_ ?_; (constructor <;> assumption))
 constructor <;> assumption
theorem qx5 {l : Lt Cf} (hl : l.Small) : ∀ (ss : Bs) (o : Lt Cf), o.Small -> (baF l o ss).Small
 | [], o, h => h
 | s :: ss, o, h => qx5 hl ss _ (z3p h hl _)
theorem qwa (l : Lt Cf) : l.bare0.Small := ⟨(show (0 : Nat) < 9223372036854775808 by decide), (show (0 : Nat) < 9223372036854775808 by decide), (show (0 : Nat) < 9223372036854775808 by decide), (show (0 : Nat) < 9223372036854775808 by decide), (show (0 : Nat) < 9223372036854775808 by decide), fun _ h => (by cases h), fun _ h => (by cases h)⟩
def lrF (l : Lt Cf) : Bool := qf1 l.k && qqi l.fk l.fn && qqi l.tk l.tn && ltE l (baF l l.bare0 (qa8 l.k)) && (qa8 l.k).all fun s => maF l s.toNat
theorem z1a {R : Y5} (hR : ExtR R) {T : Tab} {l : Lt Cf} {bs : Bs} (hl : Len bs.length) (hs : l.Small) (ht : l.t.Fine) : ∀ (us : Bs) (k : Nat), bs.drop k = us -> k <= bs.length ->
  ((us.all fun s => maF l s.toNat) = false -> R .ret [(2, .b false)] [] T) ->
  ((us.all fun s => maF l s.toNat) = true -> R (.exit 0) [(1, .lp 1 0), (3, .s bs), (35, .i .i64 bs.length), (36, .i .i64 bs.length), (37, .b false)] [(1, l.cells cfC)] T) ->
  AW prog qcu R [(1, .lp 1 0), (3, .s bs), (35, .i .i64 bs.length), (36, .i .i64 k)] [(1, l.cells cfC)] T := by
 intro us
 induction us with
 | nil =>
  intro k hk hle h1 h2
  have hk' := O9 hk hle
  refine Q2 hR ?_
  unfold qb5
  simp -implicitDefEqProofs -dsimp only [go_sem, seval, hk', Int.lt_irrefl]
  rw [hk'] at h2
  exact h2 rfl
 | cons y us ih =>
  intro k hk hle h1 h2
  obtain ⟨hlt, hy, hk'⟩ := Q5 hk
  unfold Len at hl
  have hw : IntKind.i64.wrap ((k : Int) + 1) = ((k + 1 : Nat) : Int) := K9 (by omega)
  simp only [List.all_cons] at h1 h2
  refine O2 (l := qcu) rfl hR ?_
  unfold qb5
  simp -implicitDefEqProofs -dsimp only [go_sem, seval, Int.ofNat_lt, hlt, Int.natCast_nonneg, Int.toNat_natCast, hy, ↓J0 _ _ ql9]
  refine cpn (zaa l y.toNat hs ht) ?_
  rcases he : maF l y.toNat with _ | _
  ·simp -implicitDefEqProofs -dsimp only [go_sem, seval]
   exact h1 (by rw [he]; rfl)
  ·rw [he, Bool.true_and] at h1 h2
   simp -implicitDefEqProofs -dsimp only [go_sem, seval, hw]
   exact ih (k + 1) hk' hlt h1 h2
theorem zab {k : Int} (h : qf1 k = false) : qa8 k = [] := by
 simp only [qf1, decide_eq_false_iff_not] at h
 unfold qa8
 repeat' rw [if_neg (by omega)]
theorem z6j (k : Int) : (qa8 k).length <= 6 := by
 rcases qdz k with (rfl | rfl | rfl | rfl | rfl | rfl | rfl | rfl | rfl | rfl | rfl | rfl | rfl | rfl | rfl | rfl | rfl | rfl | rfl | rfl | rfl) | h
 any_goals (decide +kernel)
 rw [zab h]
 decide
set_option maxRecDepth 20000 in
theorem qur (l : Lt Cf) (hs : l.Small) (ht : l.t.Fine) : PCalls prog qal [.agg l.cc] (.b (lrF l)) := by
 refine K5 Q7 qqy (by simp) fun T => ?_
 have hsl : Len (qa8 l.k).length := by have := z6j l.k; unfold Len; omega
 have pb := z6i l (qa8 l.k) hsl
 have ps := qt3 l (baF l l.bare0 (qa8 l.k)) hs (qx5 hs _ _ (qwa l))
 unfold qk6
 simp -implicitDefEqProofs -dsimp only [go_sem, seval, ↓J0 _ _ qq4]
 refine cpn (z14 l.k) ?_
 simp -implicitDefEqProofs -dsimp only [go_sem, seval]
 (first | ((first | (apply J2 <;> intro h_1) | (refine CallK.pure (q3o _ _) (J1 ?_); have h_1 := trivial) | (refine CallK.pure (pb) (J1 ?_); have h_1 := trivial) | (refine CallK.pure (ps) (J1 ?_); have h_1 := trivial)) <;> simp -implicitDefEqProofs -dsimp only [go_sem, seval, ↓J0 _ _ q03, ↓J0 _ _ G2, ↓J0 _ _ q2x, h_1]) | (have h_1 := trivial)) <;>
  (first | ((first | (apply J2 <;> intro h_2) | (refine CallK.pure (q3o _ _) (J1 ?_); have h_2 := trivial) | (refine CallK.pure (pb) (J1 ?_); have h_2 := trivial) | (refine CallK.pure (ps) (J1 ?_); have h_2 := trivial)) <;> simp -implicitDefEqProofs -dsimp only [go_sem, seval, ↓J0 _ _ q03, ↓J0 _ _ G2, ↓J0 _ _ q2x, h_1, h_2]) | (have h_2 := trivial)) <;>
  (first | ((first | (apply J2 <;> intro h_3) | (refine CallK.pure (q3o _ _) (J1 ?_); have h_3 := trivial) | (refine CallK.pure (pb) (J1 ?_); have h_3 := trivial) | (refine CallK.pure (ps) (J1 ?_); have h_3 := trivial)) <;> simp -implicitDefEqProofs -dsimp only [go_sem, seval, ↓J0 _ _ q03, ↓J0 _ _ G2, ↓J0 _ _ q2x, h_1, h_2, h_3]) | (have h_3 := trivial)) <;>
  (first | ((first | (apply J2 <;> intro h_4) | (refine CallK.pure (q3o _ _) (J1 ?_); have h_4 := trivial) | (refine CallK.pure (pb) (J1 ?_); have h_4 := trivial) | (refine CallK.pure (ps) (J1 ?_); have h_4 := trivial)) <;> simp -implicitDefEqProofs -dsimp only [go_sem, seval, ↓J0 _ _ q03, ↓J0 _ _ G2, ↓J0 _ _ q2x, h_1, h_2, h_3, h_4]) | (have h_4 := trivial)) <;>
  (first | ((first | (apply J2 <;> intro h_5) | (refine CallK.pure (q3o _ _) (J1 ?_); have h_5 := trivial) | (refine CallK.pure (pb) (J1 ?_); have h_5 := trivial) | (refine CallK.pure (ps) (J1 ?_); have h_5 := trivial)) <;> simp -implicitDefEqProofs -dsimp only [go_sem, seval, ↓J0 _ _ q03, ↓J0 _ _ G2, ↓J0 _ _ q2x, h_1, h_2, h_3, h_4, h_5]) | (have h_5 := trivial)) <;>
  (first | ((first | (apply J2 <;> intro h_6) | (refine CallK.pure (q3o _ _) (J1 ?_); have h_6 := trivial) | (refine CallK.pure (pb) (J1 ?_); have h_6 := trivial) | (refine CallK.pure (ps) (J1 ?_); have h_6 := trivial)) <;> simp -implicitDefEqProofs -dsimp only [go_sem, seval, ↓J0 _ _ q03, ↓J0 _ _ G2, ↓J0 _ _ q2x, h_1, h_2, h_3, h_4, h_5, h_6]) | (have h_6 := trivial)) <;>
  (first | ((first | (apply J2 <;> intro h_7) | (refine CallK.pure (q3o _ _) (J1 ?_); have h_7 := trivial) | (refine CallK.pure (pb) (J1 ?_); have h_7 := trivial) | (refine CallK.pure (ps) (J1 ?_); have h_7 := trivial)) <;> simp -implicitDefEqProofs -dsimp only [go_sem, seval, ↓J0 _ _ q03, ↓J0 _ _ G2, ↓J0 _ _ q2x, h_1, h_2, h_3, h_4, h_5, h_6, h_7]) | (have h_7 := trivial)) <;>
  (first | ((first | (apply J2 <;> intro h_8) | (refine CallK.pure (q3o _ _) (J1 ?_); have h_8 := trivial) | (refine CallK.pure (pb) (J1 ?_); have h_8 := trivial) | (refine CallK.pure (ps) (J1 ?_); have h_8 := trivial)) <;> simp -implicitDefEqProofs -dsimp only [go_sem, seval, ↓J0 _ _ q03, ↓J0 _ _ G2, ↓J0 _ _ q2x, h_1, h_2, h_3, h_4, h_5, h_6, h_7, h_8]) | (have h_8 := trivial)) <;>
  (first | ((first | (apply J2 <;> intro h_9) | (refine CallK.pure (q3o _ _) (J1 ?_); have h_9 := trivial) | (refine CallK.pure (pb) (J1 ?_); have h_9 := trivial) | (refine CallK.pure (ps) (J1 ?_); have h_9 := trivial)) <;> simp -implicitDefEqProofs -dsimp only [go_sem, seval, ↓J0 _ _ q03, ↓J0 _ _ G2, ↓J0 _ _ q2x, h_1, h_2, h_3, h_4, h_5, h_6, h_7, h_8, h_9]) | (have h_9 := trivial))
 any_goals (refine K1 ?_; (try simp only [Bool.not_eq_true', Bool.not_eq_false'] at *); simp only [lrF, *, Bool.true_and, Bool.and_true, Bool.false_and, Bool.and_false]; done)
 refine z1a (l := l) (by repeat' (first | exact N5 _ _ | assumption | apply N4 | apply K7 | apply U1)) hsl hs ht (qa8 l.k) 0 rfl (Nat.zero_le _) (fun h => ?_) (fun h => ?_) <;> simp -implicitDefEqProofs -dsimp only [go_sem, seval] <;> refine K1 ?_ <;> (try simp only [Bool.not_eq_true', Bool.not_eq_false'] at *) <;> simp only [lrF, *, Bool.true_and, Bool.and_true, Bool.false_and, Bool.and_false]
end Go.Aw
