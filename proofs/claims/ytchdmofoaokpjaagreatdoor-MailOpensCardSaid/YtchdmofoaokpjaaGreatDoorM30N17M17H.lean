import Derived.Test.YtchdmofoaokpjaaGreatDoorM30N17M17F
namespace Go.Aw
open Go
open Go.Proofs.Tryz (prog)
set_option linter.all false
set_option maxHeartbeats 8000000
set_option maxRecDepth 8000
def wiF (o l : Lt Cf) (s : Int) : Lt Cf :=
 if decide (s = 115) = true then { o with sh := l.sh } else if decide (s = 101) = true then { o with ep := l.ep } else if decide (s = 110) = true then { o with n := l.n } else if decide (s = 109) = true then { o with m := l.m } else
 if decide (s = 111) = true then { o with nd := l.nd } else if decide (s = 102) = true then { o with fl := l.fl } else if decide (s = 98) = true then { o with br := l.br, bn := l.bn } else if decide (s = 118) = true then { o with vs := l.vs } else
 if decide (s = 99) = true then { o with cs := l.cs } else if decide (s = 108) = true then { o with es := l.es } else if decide (s = 120) = true then { o with t := l.t } else if decide (s = 105) = true then { o with cl := l.cl, sq := l.sq } else
 if decide (s = 116) = true then { o with v := l.v } else if decide (s = 113) = true then { o with q := l.q } else if decide (s = 114) = true then { o with co := l.co } else o
section
variable {γ : Type} {f : γ -> List AV} (o : Lt γ)
theorem z3s : (o.cells f).length = 26 := rfl
theorem z5g : (o.cells f).take 26 = o.cells f := rfl
theorem z5h : (o.cells f).drop 26 = [] := rfl
theorem zd5 : (o.cells f)[5]? = some (.i .i64 o.sh) := rfl
theorem zd6 (x : Int) : (o.cells f).take 5 ++ [AV.i .i64 x] ++ (o.cells f).drop 6 = ({ o with sh := x } : Lt γ).cells f := rfl
theorem zd7 : (o.cells f)[6]? = some (.i .u64 o.ep) := rfl
theorem zd8 (x : Int) : (o.cells f).take 6 ++ [AV.i .u64 x] ++ (o.cells f).drop 7 = ({ o with ep := x } : Lt γ).cells f := rfl
theorem zf5 : (o.cells f)[7]? = some (.i .i64 o.n) := rfl
theorem zf6 (x : Int) : (o.cells f).take 7 ++ [AV.i .i64 x] ++ (o.cells f).drop 8 = ({ o with n := x } : Lt γ).cells f := rfl
theorem zf7 : (o.cells f)[8]? = some (.i .i64 o.m) := rfl
theorem zf8 (x : Int) : (o.cells f).take 8 ++ [AV.i .i64 x] ++ (o.cells f).drop 9 = ({ o with m := x } : Lt γ).cells f := rfl
theorem zd9 : (o.cells f)[9]? = some (.i .i64 o.nd) := rfl
theorem zda (x : Int) : (o.cells f).take 9 ++ [AV.i .i64 x] ++ (o.cells f).drop 10 = ({ o with nd := x } : Lt γ).cells f := rfl
theorem zdb : (o.cells f)[10]? = some (.b o.fl) := rfl
theorem zdc (x : Bool) : (o.cells f).take 10 ++ [AV.b x] ++ (o.cells f).drop 11 = ({ o with fl := x } : Lt γ).cells f := rfl
theorem zdd : (o.cells f)[13]? = some (.fz o.vs.length (o.vs.flatMap vtC) none) := rfl
theorem zde (x : List Vt) : (o.cells f).take 13 ++ [AV.fz x.length (x.flatMap vtC) none] ++ (o.cells f).drop 14 = ({ o with vs := x } : Lt γ).cells f := rfl
theorem zdf : (o.cells f)[14]? = some (.fz o.cs.length (o.cs.flatMap f) none) := rfl
theorem zdg (x : List γ) : (o.cells f).take 14 ++ [AV.fz x.length (x.flatMap f) none] ++ (o.cells f).drop 15 = ({ o with cs := x } : Lt γ).cells f := rfl
theorem zdh : (o.cells f)[15]? = some (.fz o.es.length (o.es.flatMap enC) none) := rfl
theorem zdi (x : List En) : (o.cells f).take 15 ++ [AV.fz x.length (x.flatMap enC) none] ++ (o.cells f).drop 16 = ({ o with es := x } : Lt γ).cells f := rfl
theorem zf9 : (o.cells f)[23]? = some (.s o.v) := rfl
theorem zfa (x : Bs) : (o.cells f).take 23 ++ [AV.s x] ++ (o.cells f).drop 24 = ({ o with v := x } : Lt γ).cells f := rfl
theorem zfb : (o.cells f)[24]? = some (.i .u64 o.q) := rfl
theorem zfc (x : Int) : (o.cells f).take 24 ++ [AV.i .u64 x] ++ (o.cells f).drop 25 = ({ o with q := x } : Lt γ).cells f := rfl
theorem zdj : (o.cells f)[25]? = some (.i .i64 o.co) := rfl
theorem zdk (x : Int) : (o.cells f).take 25 ++ [AV.i .i64 x] = ({ o with co := x } : Lt γ).cells f := by simp only [Lt.cells, List.take_succ_cons, List.take_zero, List.cons_append, List.nil_append]
theorem zfd : ((o.cells f).drop 11).take 2 = [.i .u64 o.br, .i .i64 o.bn] := rfl
theorem zfe (x y : Int) : (o.cells f).take 11 ++ [AV.i .u64 x, .i .i64 y] ++ (o.cells f).drop 13 = ({ o with br := x, bn := y } : Lt γ).cells f := rfl
theorem zff : ((o.cells f).drop 21).take 2 = [.i .i64 o.cl, .i .u64 o.sq] := rfl
theorem zfg (x y : Int) : (o.cells f).take 21 ++ [AV.i .i64 x, .i .u64 y] ++ (o.cells f).drop 23 = ({ o with cl := x, sq := y } : Lt γ).cells f := rfl
theorem zfh : ((o.cells f).drop 16).take 5 = o.t.cells none none := rfl
theorem zfi (t : Tx) : (o.cells f).take 16 ++ t.cells none none ++ (o.cells f).drop 21 = ({ o with t := t } : Lt γ).cells f := rfl
theorem qiq (t : Tx) (k1 k2 : Option Nat) : (t.cells k1 k2).length = 5 := rfl
theorem zdl : (o.cells f).take 2 = [.i .i64 o.fk, .i .i64 o.fn] := rfl
theorem zdm : ((o.cells f).drop 2).take 2 = [.i .i64 o.tk, .i .i64 o.tn] := rfl
theorem zfj : (o.cells f)[4]? = some (.i .i64 o.k) := rfl
attribute [go_sem] z3s z5g z5h zd5 zd6 zd7 zd8 zf5 zf6 zf7 zf8 zd9 zda zdb zdc zdd zde zdf zdg zdh zdi zf9 zfa zfb zfc zdj zdk zfd zfe zff zfg zfh zfi zdl zdm zfj
end
theorem zdn (s : Int) : (s = 115 \/ s = 101 \/ s = 110 \/ s = 109 \/ s = 111 \/ s = 102 \/ s = 98 \/ s = 118 \/ s = 99 \/ s = 108 \/ s = 120 \/ s = 105 \/ s = 116 \/ s = 113 \/ s = 114) \/ (decide (s = 115) = false /\ decide (s = 101) = false /\ decide (s = 110) = false /\ decide (s = 109) = false /\ decide (s = 111) = false /\ decide (s = 102) = false /\ decide (s = 98) = false /\ decide (s = 118) = false /\ decide (s = 99) = false /\ decide (s = 108) = false /\ decide (s = 120) = false /\ decide (s = 105) = false /\ decide (s = 116) = false /\ decide (s = 113) = false /\ decide (s = 114) = false) := by
 simp only [decide_eq_false_iff_not]; omega
theorem z5i (o l : Lt Cf) (s : Int) : PCalls prog q2y [.agg o.cc, .agg l.cc, .i .u8 s] (.agg (wiF o l s).cc) := by
 refine K6 U1 qe0 (by simp) fun T => ?_
 unfold q87
 rcases zdn s with (rfl | rfl | rfl | rfl | rfl | rfl | rfl | rfl | rfl | rfl | rfl | rfl | rfl | rfl | rfl) | ⟨h1, h2, h3, h4, h5, h6, h7, h8, h9, h10, h11, h12, h13, h14, h15⟩
 any_goals (simp -implicitDefEqProofs -dsimp only [go_sem, seval, decide_true, decide_false, qiq]; refine J9 ?_; rfl; done)
 simp -implicitDefEqProofs -dsimp only [go_sem, seval, qiq, h1, h2, h3, h4, h5, h6, h7, h8, h9, h10, h11, h12, h13, h14, h15]
 refine J9 ?_
 simp only [wiF, h1, h2, h3, h4, h5, h6, h7, h8, h9, h10, h11, h12, h13, h14, h15, if_true, Bool.false_eq_true, if_false]
def zT : Tx := ⟨0, 0, false, [], []⟩
def Lt.bare0 (l : Lt Cf) : Lt Cf := ⟨l.fk, l.fn, l.tk, l.tn, l.k, 0, 0, 0, 0, 0, false, 0, 0, [], [], [], zT, 0, 0, [], 0, 0⟩
def baF (l : Lt Cf) (o : Lt Cf) (ss : Bs) : Lt Cf := ss.foldl (fun o s => wiF o l s.toNat) o
theorem Wk.lt0 (l : Lt Cf) : Wks [.i .i64 l.fk, .i .i64 l.fn, .i .i64 l.tk, .i .i64 l.tn, .i .i64 l.k, .i .i64 0, .i .u64 0, .i .i64 0, .i .i64 0, .i .i64 0, .b false, .i .u64 0, .i .i64 0, .fz 0 [] (some 0), .fz 0 [] (some 0), .fz 0 [] (some 0), .i .i64 0, .i .u64 0, .b false, .fz 0 [] (some 0), .fz 0 [] (some 0), .i .i64 0, .i .u64 0, .s [], .i .u64 0, .i .i64 0] l.bare0.cc :=
 ⟨.refl _, .refl _, .refl _, .refl _, .refl _, .refl _, .refl _, .refl _, .refl _, .refl _, .refl _, .refl _, .refl _, .fz, .fz, .fz, .refl _, .refl _, .refl _, .fz, .fz, .refl _, .refl _, .refl _, .refl _, .refl _, trivial⟩
theorem Wks.cc (l : Lt Cf) : Wks l.cc l.cc := Wks.refl _
end Go.Aw
namespace Go.Aw
open Go
open Go.Proofs.Tryz (prog)
set_option linter.all false
set_option maxHeartbeats 8000000
set_option maxRecDepth 8000
theorem z5j {R : G9} (hR : ExtR R) {T : Tab} {l : Lt Cf} {z : List AV} {bs : Bs} (hl : Len bs.length) : ∀ (us : Bs) (k : Nat), bs.drop k = us -> k <= bs.length -> ∀ (o : Lt Cf) (oc : List AV), oc.length = 26 -> Wks oc o.cc ->
  (∀ oc', oc'.length = 26 -> Wks oc' (baF l o us).cc -> R (.exit 0) [(1, .s bs), (2, .lp 2 0), (4, .lp 4 0), (5, .lp 5 0), (15, .i .i64 bs.length), (16, .i .i64 bs.length), (17, .b false)] [(2, l.cc), (4, z), (5, oc')] T) ->
  AW prog q4s R [(1, .s bs), (2, .lp 2 0), (4, .lp 4 0), (5, .lp 5 0), (15, .i .i64 bs.length), (16, .i .i64 k)] [(2, l.cc), (4, z), (5, oc)] T := by
 intro us
 induction us with
 | nil =>
  intro k hk hle o oc hp hw h2
  have hk' := V6 hk hle
  refine V1 hR ?_
  unfold q4a
  simp -implicitDefEqProofs -dsimp only [go_sem, seval, hk', Int.lt_irrefl]
  rw [hk'] at h2
  exact h2 oc hp hw
 | cons y us ih =>
  intro k hk hle o oc hp hw h2
  obtain ⟨hlt, hy, hk'⟩ := Y6 hk
  unfold Len at hl
  have hs : IntKind.i64.wrap ((k : Int) + 1) = ((k + 1 : Nat) : Int) := O8 (by omega)
  have ht : oc.take 26 = oc := List.take_of_length_le (by omega)
  have hd : oc.drop 26 = [] := List.drop_eq_nil_iff.2 (by omega)
  have pc := PCalls.wk (Wks.cons (Wk.agg hw) (Wks.refl _)) (z5i o l y.toNat)
  refine Q1 (l := q4s) rfl hR ?_
  unfold q4a
  simp -implicitDefEqProofs -dsimp only [go_sem, seval, Int.ofNat_lt, hlt, Int.natCast_nonneg, Int.toNat_natCast, hy, hp, ht, hd, ↓J0 _ _ qe1]
  refine cpn pc ?_
  simp -implicitDefEqProofs -dsimp only [go_sem, seval, hp, ht, hd, hs]
  exact ih (k + 1) hk' hlt (wiF o l y.toNat) _ (z3s _) (Wks.refl _) h2
theorem z5k (l : Lt Cf) (bs : Bs) (hl : Len bs.length) : PCalls prog q2x [.agg l.cc, .s bs] (.agg (baF l l.bare0 bs).cc) := by
 refine K6 U1 qdw (by simp) fun T => ?_
 unfold q85
 simp -implicitDefEqProofs -dsimp only [go_sem, seval]
 refine z5j (by repeat' (first | exact O6 _ _ | assumption | apply O5 | apply N4 | apply V8)) hl bs 0 rfl (Nat.zero_le _) l.bare0 _ rfl (Wk.lt0 l) (fun oc' h1 h2 => ?_)
 have ht : oc'.take 26 = oc' := List.take_of_length_le (by omega)
 simp -implicitDefEqProofs -dsimp only [go_sem, seval, h1, ht]
 exact q82 (Wk.agg h2) rfl
theorem qz1 {c : Prop} [Decidable c] {a b : Lt Cf} (ha : a.Small) (hb : b.Small) : (if c then a else b).Small := by split <;> assumption
theorem z20 {o l : Lt Cf} (ho : o.Small) (hl : l.Small) (s : Int) : (wiF o l s).Small := by
 obtain ⟨o1, o2, o3, o4, o5, o6, o7⟩ := ho
 obtain ⟨l1, l2, l3, l4, l5, l6, l7⟩ := hl
 unfold wiF
 iterate 15 (refine qz1 ?_ ?_; (constructor <;> assumption))
 constructor <;> assumption
theorem qum {l : Lt Cf} (hl : l.Small) : ∀ (ss : Bs) (o : Lt Cf), o.Small -> (baF l o ss).Small
 | [], o, h => h
 | s :: ss, o, h => qum hl ss _ (z20 h hl _)
theorem qss (l : Lt Cf) : l.bare0.Small := ⟨(show (0 : Nat) < 9223372036854775808 by decide), (show (0 : Nat) < 9223372036854775808 by decide), (show (0 : Nat) < 9223372036854775808 by decide), (show (0 : Nat) < 9223372036854775808 by decide), (show (0 : Nat) < 9223372036854775808 by decide), fun _ h => (by cases h), fun _ h => (by cases h)⟩
def lrF (l : Lt Cf) : Bool := qop l.k && z0t l.fk l.fn && z0t l.tk l.tn && ltE l (baF l l.bare0 (qc5 l.k)) && (qc5 l.k).all fun s => maF l s.toNat
theorem qz2 {R : G9} (hR : ExtR R) {T : Tab} {l : Lt Cf} {bs : Bs} (hl : Len bs.length) (hs : l.Small) (ht : l.t.Fine) : ∀ (us : Bs) (k : Nat), bs.drop k = us -> k <= bs.length ->
  ((us.all fun s => maF l s.toNat) = false -> R .ret [(2, .b false)] [] T) ->
  ((us.all fun s => maF l s.toNat) = true -> R (.exit 0) [(1, .lp 1 0), (3, .s bs), (35, .i .i64 bs.length), (36, .i .i64 bs.length), (37, .b false)] [(1, l.cells cfC)] T) ->
  AW prog q8u R [(1, .lp 1 0), (3, .s bs), (35, .i .i64 bs.length), (36, .i .i64 k)] [(1, l.cells cfC)] T := by
 intro us
 induction us with
 | nil =>
  intro k hk hle h1 h2
  have hk' := V6 hk hle
  refine V1 hR ?_
  unfold q7z
  simp -implicitDefEqProofs -dsimp only [go_sem, seval, hk', Int.lt_irrefl]
  rw [hk'] at h2
  exact h2 rfl
 | cons y us ih =>
  intro k hk hle h1 h2
  obtain ⟨hlt, hy, hk'⟩ := Y6 hk
  unfold Len at hl
  have hw : IntKind.i64.wrap ((k : Int) + 1) = ((k + 1 : Nat) : Int) := O8 (by omega)
  simp only [List.all_cons] at h1 h2
  refine Q1 (l := q8u) rfl hR ?_
  unfold q7z
  simp -implicitDefEqProofs -dsimp only [go_sem, seval, Int.ofNat_lt, hlt, Int.natCast_nonneg, Int.toNat_natCast, hy, ↓J0 _ _ qf6]
  refine cpn (za5 l y.toNat hs ht) ?_
  rcases he : maF l y.toNat with _ | _
  ·simp -implicitDefEqProofs -dsimp only [go_sem, seval]
   exact h1 (by rw [he]; rfl)
  ·rw [he, Bool.true_and] at h1 h2
   simp -implicitDefEqProofs -dsimp only [go_sem, seval, hw]
   exact ih (k + 1) hk' hlt h1 h2
theorem qz3 {k : Int} (h : qop k = false) : qc5 k = [] := by
 simp only [qop, decide_eq_false_iff_not] at h
 unfold qc5
 repeat' rw [if_neg (by omega)]
theorem qoq (k : Int) : (qc5 k).length <= 6 := by
 rcases kinds k with (rfl | rfl | rfl | rfl | rfl | rfl | rfl | rfl | rfl | rfl | rfl | rfl | rfl | rfl | rfl | rfl | rfl | rfl | rfl | rfl | rfl) | h
 any_goals (decide +kernel)
 rw [qz3 h]
 decide
set_option maxRecDepth 20000 in
theorem qle (l : Lt Cf) (hs : l.Small) (ht : l.t.Fine) : PCalls prog q5k [.agg l.cc] (.b (lrF l)) := by
 refine K6 U1 qmd (by simp) fun T => ?_
 have hsl : Len (qc5 l.k).length := by have := qoq l.k; unfold Len; omega
 have pb := z5k l (qc5 l.k) hsl
 have ps := qgt l (baF l l.bare0 (qc5 l.k)) hs (qum hs _ _ (qss l))
 unfold qea
 simp -implicitDefEqProofs -dsimp only [go_sem, seval, ↓J0 _ _ q6x]
 refine cpn (qgr l.k) ?_
 simp -implicitDefEqProofs -dsimp only [go_sem, seval]
 (first | ((first | (apply K0 <;> intro h_1) | (refine CallK.pure (q2l _ _) (J1 ?_); have h_1 := trivial) | (refine CallK.pure (pb) (J1 ?_); have h_1 := trivial) | (refine CallK.pure (ps) (J1 ?_); have h_1 := trivial)) <;> simp -implicitDefEqProofs -dsimp only [go_sem, seval, ↓J0 _ _ I5, ↓J0 _ _ Z2, ↓J0 _ _ q0n, h_1]) | (have h_1 := trivial)) <;>
  (first | ((first | (apply K0 <;> intro h_2) | (refine CallK.pure (q2l _ _) (J1 ?_); have h_2 := trivial) | (refine CallK.pure (pb) (J1 ?_); have h_2 := trivial) | (refine CallK.pure (ps) (J1 ?_); have h_2 := trivial)) <;> simp -implicitDefEqProofs -dsimp only [go_sem, seval, ↓J0 _ _ I5, ↓J0 _ _ Z2, ↓J0 _ _ q0n, h_1, h_2]) | (have h_2 := trivial)) <;>
  (first | ((first | (apply K0 <;> intro h_3) | (refine CallK.pure (q2l _ _) (J1 ?_); have h_3 := trivial) | (refine CallK.pure (pb) (J1 ?_); have h_3 := trivial) | (refine CallK.pure (ps) (J1 ?_); have h_3 := trivial)) <;> simp -implicitDefEqProofs -dsimp only [go_sem, seval, ↓J0 _ _ I5, ↓J0 _ _ Z2, ↓J0 _ _ q0n, h_1, h_2, h_3]) | (have h_3 := trivial)) <;>
  (first | ((first | (apply K0 <;> intro h_4) | (refine CallK.pure (q2l _ _) (J1 ?_); have h_4 := trivial) | (refine CallK.pure (pb) (J1 ?_); have h_4 := trivial) | (refine CallK.pure (ps) (J1 ?_); have h_4 := trivial)) <;> simp -implicitDefEqProofs -dsimp only [go_sem, seval, ↓J0 _ _ I5, ↓J0 _ _ Z2, ↓J0 _ _ q0n, h_1, h_2, h_3, h_4]) | (have h_4 := trivial)) <;>
  (first | ((first | (apply K0 <;> intro h_5) | (refine CallK.pure (q2l _ _) (J1 ?_); have h_5 := trivial) | (refine CallK.pure (pb) (J1 ?_); have h_5 := trivial) | (refine CallK.pure (ps) (J1 ?_); have h_5 := trivial)) <;> simp -implicitDefEqProofs -dsimp only [go_sem, seval, ↓J0 _ _ I5, ↓J0 _ _ Z2, ↓J0 _ _ q0n, h_1, h_2, h_3, h_4, h_5]) | (have h_5 := trivial)) <;>
  (first | ((first | (apply K0 <;> intro h_6) | (refine CallK.pure (q2l _ _) (J1 ?_); have h_6 := trivial) | (refine CallK.pure (pb) (J1 ?_); have h_6 := trivial) | (refine CallK.pure (ps) (J1 ?_); have h_6 := trivial)) <;> simp -implicitDefEqProofs -dsimp only [go_sem, seval, ↓J0 _ _ I5, ↓J0 _ _ Z2, ↓J0 _ _ q0n, h_1, h_2, h_3, h_4, h_5, h_6]) | (have h_6 := trivial)) <;>
  (first | ((first | (apply K0 <;> intro h_7) | (refine CallK.pure (q2l _ _) (J1 ?_); have h_7 := trivial) | (refine CallK.pure (pb) (J1 ?_); have h_7 := trivial) | (refine CallK.pure (ps) (J1 ?_); have h_7 := trivial)) <;> simp -implicitDefEqProofs -dsimp only [go_sem, seval, ↓J0 _ _ I5, ↓J0 _ _ Z2, ↓J0 _ _ q0n, h_1, h_2, h_3, h_4, h_5, h_6, h_7]) | (have h_7 := trivial)) <;>
  (first | ((first | (apply K0 <;> intro h_8) | (refine CallK.pure (q2l _ _) (J1 ?_); have h_8 := trivial) | (refine CallK.pure (pb) (J1 ?_); have h_8 := trivial) | (refine CallK.pure (ps) (J1 ?_); have h_8 := trivial)) <;> simp -implicitDefEqProofs -dsimp only [go_sem, seval, ↓J0 _ _ I5, ↓J0 _ _ Z2, ↓J0 _ _ q0n, h_1, h_2, h_3, h_4, h_5, h_6, h_7, h_8]) | (have h_8 := trivial)) <;>
  (first | ((first | (apply K0 <;> intro h_9) | (refine CallK.pure (q2l _ _) (J1 ?_); have h_9 := trivial) | (refine CallK.pure (pb) (J1 ?_); have h_9 := trivial) | (refine CallK.pure (ps) (J1 ?_); have h_9 := trivial)) <;> simp -implicitDefEqProofs -dsimp only [go_sem, seval, ↓J0 _ _ I5, ↓J0 _ _ Z2, ↓J0 _ _ q0n, h_1, h_2, h_3, h_4, h_5, h_6, h_7, h_8, h_9]) | (have h_9 := trivial))
 any_goals (refine J9 ?_; (try simp only [Bool.not_eq_true', Bool.not_eq_false'] at *); simp only [lrF, *, Bool.true_and, Bool.and_true, Bool.false_and, Bool.and_false]; done)
 refine qz2 (l := l) (by repeat' (first | exact O6 _ _ | assumption | apply O5 | apply N4 | apply V8)) hsl hs ht (qc5 l.k) 0 rfl (Nat.zero_le _) (fun h => ?_) (fun h => ?_) <;> simp -implicitDefEqProofs -dsimp only [go_sem, seval] <;> refine J9 ?_ <;> (try simp only [Bool.not_eq_true', Bool.not_eq_false'] at *) <;> simp only [lrF, *, Bool.true_and, Bool.and_true, Bool.false_and, Bool.and_false]
end Go.Aw
