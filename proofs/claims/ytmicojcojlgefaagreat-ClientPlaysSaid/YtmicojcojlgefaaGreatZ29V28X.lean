import Derived.Test.YtmicojcojlgefaaGreatZ29S12N
import Derived.Test.YtmicojcojlgefaaGreatZ29R28V
import Derived.Test.YtmicojcojlgefaaGreatZ29S12Q
import Derived.Test.YtmicojcojlgefaaGreatZ29R28G
import Derived.Test.YtmicojcojlgefaaGreatZ29T16B
namespace Go.Aw
open Go
open Go.Proofs.Tryz (prog)
set_option linter.all false
set_option maxHeartbeats 4000000
structure RtOk (l : List Cf) : Prop where
 n : 1 <= l.length /\ l.length <= 4
 c : ∀ (k : Nat) c, l[k]? = some c -> c.right = true /\ c.sh = k /\ 0 <= c.ep
theorem qdi {c : Cf} (h : c.right = true) : 1 <= c.ch.length /\ c.ch.length <= 8 /\ c.fu.length = c.ch.length := by
 simp only [Cf.right, Bool.and_eq_true, Bool.not_eq_true', decide_eq_false_iff_not, Bool.not_eq_false', decide_eq_true_eq] at h
 obtain ⟨⟨⟨⟨⟨⟨⟨⟨h1, h2⟩, h3⟩, h4⟩, h5⟩, h6⟩, h7⟩, h8⟩, h9⟩ := h
 omega
theorem RtOk.small {l : List Cf} (h : RtOk l) : ∀ c ∈ l, q6r c := fun c hc => by
 obtain ⟨k, hk⟩ := List.mem_iff_getElem?.1 hc
 have := qdi (h.c k c hk).1
 unfold q6r; omega
theorem RtOk.ep {l : List Cf} (h : RtOk l) : ∀ c ∈ l, 0 <= c.ep := fun c hc => by
 obtain ⟨k, hk⟩ := List.mem_iff_getElem?.1 hc
 exact (h.c k c hk).2.2
theorem z0r : ∀ L : Fin 9, ∀ k : Fin 4, 1 <= L.val -> (k.val + 1) * L.val <= 8 -> (cf0 L.val k.val).right = true := by decide +kernel
theorem qt2 {S L : Nat} {v : Int} (h : sok S L v = true) : RtOk (qt0 L S) := by
 have hh := of_decide_eq_true h
 refine ⟨by simp [qt0]; omega, fun k c hk => ?_⟩
 simp only [qt0, List.getElem?_map, List.getElem?_range] at hk
 by_cases hkS : k < S
 ·rw [List.getElem?_range hkS] at hk
  simp only [Option.map_some, Option.some.injEq] at hk
  subst hk
  have hm : (k + 1) * L <= S * L := Nat.mul_le_mul_right _ (by omega)
  have hm2 : ((S * L : Nat) : Int) <= 8 := by have := hh.2.2.2.2.2.2; push_cast; omega
  refine ⟨z0r ⟨L, ?_⟩ ⟨k, by omega⟩ (by simp only; omega) (by simp only; omega), rfl, by simp only [cf0]; omega⟩
  have : L <= (k + 1) * L := Nat.le_mul_of_pos_left L (by omega)
  omega
 ·rw [List.getElem?_eq_none (by simp; omega)] at hk; cases hk
theorem z0s {l : List Cf} {c : Cf} (h : RtOk l) (he : 0 <= c.ep) : RtOk (qv0 l c) := by
 unfold qv0
 split
 ·rename_i hl
  have hc : c.right = true /\ 0 <= c.sh := by
   unfold lrn at hl
   split at hl
   ·rename_i o ho
    rw [Bool.and_eq_true] at hl
    unfold at? at ho
    split at ho
    ·exact ⟨hl.1, by assumption⟩
    ·cases ho
   ·cases hl
  refine ⟨by rw [List.length_set]; exact h.n, fun k d hk => ?_⟩
  rw [List.getElem?_set] at hk
  split at hk
  ·rename_i e
   split at hk
   ·injection hk with hk; subst hk
    exact ⟨hc.1, by omega, he⟩
   ·cases hk
  ·exact h.c k d hk
 ·exact h
theorem z0t {n : Nat} (h : 1 <= n /\ n <= 4) : q94 (n : Int) = n := by unfold q94; rw [if_neg (by omega), if_neg (by omega)]; omega
theorem qgf {k : Bs} {n : Nat} (h : 1 <= n /\ n <= 4) : I0 k (n : Int) < n := by unfold I0; rw [z0t h]; exact Nat.mod_lt _ (by omega)
def rdx (t : Int) (n : Nat) : Nat := (Int.tmod (Int.tmod t n + n) n).toNat
theorem qqh {t : Int} {n : Nat} (h : 1 <= n /\ n <= 8) : IntKind.i64.wrap (Int.tmod t n) = Int.tmod t n /\ IntKind.i64.wrap (Int.tmod t n + n) = Int.tmod t n + n /\ IntKind.i64.wrap (Int.tmod (Int.tmod t n + n) n) = (rdx t n : Int) /\ Int.tmod (Int.tmod t n + n) n = (rdx t n : Int) /\ rdx t n < n := by
 have hp : (0 : Int) < n := by omega
 have h1 := Int.lt_tmod_of_pos t hp
 have h2 := Int.tmod_lt_of_pos t hp
 unfold rdx
 obtain ⟨q, hq⟩ : ∃ q, Int.tmod t n = q := ⟨_, rfl⟩
 rw [hq] at h1 h2 ⊢
 have h3 : 0 <= Int.tmod (q + n) n := Int.tmod_nonneg _ (by omega)
 have h4 := Int.tmod_lt_of_pos (q + n) hp
 obtain ⟨r, hr⟩ : ∃ r, Int.tmod (q + n) n = r := ⟨_, rfl⟩
 rw [hr] at h3 h4 ⊢
 refine ⟨q02 (by unfold I64; omega), q02 (by unfold I64; omega), ?_, by omega, by omega⟩
 rw [q02 (by unfold I64; omega)]; omega
theorem z0u {T : Tab} {id idL : Nat} {l : List Cf} (hR : Rt T id idL l) (ho : RtOk l) (key : Bs) (hl : Len key.length) (t : Int) (c : Cf) (x : Int) (hc : l[I0 key l.length]? = some c) (hx : c.ch[rdx t c.ch.length]? = some x) :
  ACalls prog q46 [.ptr id 0, .s key, .i .i64 t] T (fun r T' => r = (if qdh key = true then .tup [.i .i64 x, .b true] else .tup [.i .i64 (-1), .b false]) /\ T' = T) := by
 obtain ⟨t1, t2⟩ := hR
 refine U9 Q7 qj5 (by simp) ?_
 unfold qbn
 simp -implicitDefEqProofs -dsimp only [go_sem, seval, ↓N1, U6, true_and, ↓J0 _ _ qea]
 refine cpn (qn1 key hl) ?_
 rcases hk : qdh key with _ | _
 ·simp -implicitDefEqProofs -dsimp only [go_sem, seval, hk]
  exact K1 rfl
 have hcell := qvy hc
 have hn := (qdi (ho.c _ _ hc).1)
 have hget : (qk1 l)[I0 key l.length * 5 + 2]? = some (.fz c.ch.length (q9k c.ch) none) := by
  have := congrArg (fun l : List AV => l[2]?) hcell
  simpa [List.getElem?_drop, Cf.cells] using this
 obtain ⟨w1, w2, w3, w4, w5⟩ := qqh (t := t) (n := c.ch.length) ⟨hn.1, hn.2.1⟩
 have hs := qgf (k := key) ho.n
 have z1 : ((c.ch.length : Int) = 0) = False := eq_false (by omega)
 simp -implicitDefEqProofs -dsimp only [go_sem, seval, hk, t1, ↓J0 _ _ qoa]
 refine CallK.pure (quk key l.length hl) (qk4 (fun _ => ⟨?_, trivial⟩) ?_)
 ·simp -implicitDefEqProofs -dsimp only [go_sem, seval, qdk, gdd, t1]
 simp -implicitDefEqProofs -dsimp only [go_sem, seval, t2, hs, hget, List.cons_append, List.nil_append, z1, w1, w2, w3, w4, Int.ofNat_lt, w5, qnh, hx, Int.natCast_nonneg, Int.toNat_natCast]
 exact K1 rfl
theorem qx2 : ∀ (bs : List Bool) (k : Nat) (s : Int), s ∈ idxs k bs -> ∃ j, bs[j]? = some true /\ s = ((k + j : Nat) : Int)
 | [], k, s, h => by simp [idxs] at h
 | b :: bs, k, s, h => by
  have hrec : s ∈ idxs (k + 1) bs -> ∃ j, (b :: bs)[j]? = some true /\ s = ((k + j : Nat) : Int) := fun h => by
   obtain ⟨j, h1, h2⟩ := qx2 bs (k + 1) s h
   exact ⟨j + 1, by simpa using h1, by rw [h2]; congr 1; omega⟩
  cases b with
  | false => exact hrec (by simpa [idxs] using h)
  | true =>
   simp only [idxs, if_true, List.mem_cons] at h
   rcases h with rfl | h
   ·exact ⟨0, rfl, rfl⟩
   ·exact hrec h
theorem za3 {R : Y5} (hR : ExtR R) {T : Tab} {x : Int} {xs : List Int} {cap : Option Nat} (hl : xs.length < 1000000000) (hge : ∀ y ∈ xs, x <= y) : ∀ (ys : List Int) (k : Nat), xs.drop k = ys -> k <= xs.length ->
  R (.exit 0) [(0, .fz xs.length (q9k xs) cap), (3, .i .i64 x), (4, .i .i64 xs.length), (15, .b false)] [] T ->
  AW prog q7h R [(0, .fz xs.length (q9k xs) cap), (3, .i .i64 x), (4, .i .i64 k)] [] T := by
 intro ys
 induction ys with
 | nil =>
  intro k hk hle h2
  have hk' := O9 hk hle
  refine Q2 hR ?_
  unfold q6e
  simp -implicitDefEqProofs -dsimp only [go_sem, seval, hk', Int.lt_irrefl]
  rw [hk'] at h2
  exact h2
 | cons y ys ih =>
  intro k hk hle h2
  obtain ⟨hlt, hy, hk'⟩ := Q5 hk
  have hxy := hge y (List.mem_of_getElem? hy)
  have hn : (y < x) = False := by simp; omega
  refine O2 (l := q7h) rfl hR ?_
  unfold q6e
  simp -implicitDefEqProofs -dsimp only [go_sem, seval, Int.ofNat_lt, hlt, Int.natCast_nonneg, Int.toNat_natCast, qnh, hy, hn]
  rw [K9 (by omega)]
  exact ih (k + 1) hk' hlt h2
theorem za4 (x : Int) (xs : List Int) (cap : Option Nat) (h0 : xs[0]? = some x) (hl : xs.length < 1000000000) (hge : ∀ y ∈ xs, x <= y) : PCalls prog q4a [.fz xs.length (q9k xs) cap] (.i .i64 x) := by
 refine K5 Q7 qjn (by simp) fun T => ?_
 have hp : 0 < xs.length := (List.getElem?_eq_some_iff.1 h0).1
 have d : decide ((xs.length : Int) < 1) = false := decide_eq_false (by omega)
 have d2 : ((0 : Int) < xs.length) := by omega
 have h0' : (q9k xs)[0]? = some (.i .i64 x) := by simp [q9k, h0]
 unfold qbx
 simp -implicitDefEqProofs -dsimp only [go_sem, seval, d, d2, h0', Int.le_refl, Int.toNat_zero]
 refine za3 (T := T) (by repeat' (first | exact N5 _ _ | assumption | apply N4 | apply K7 | apply U1)) hl hge (xs.drop 1) 1 rfl (by omega) ?_
 simp -implicitDefEqProofs -dsimp only [go_sem, seval]
 exact K1 rfl
theorem z65 : ∀ (bs : List Bool) (k : Nat), ∀ s ∈ idxs k bs, (k : Int) <= s
 | bs, k, s, h => by obtain ⟨j, _, rfl⟩ := qx2 bs k s h; omega
theorem qum : ∀ (bs : List Bool) (k : Nat) (x : Int), (idxs k bs)[0]? = some x -> ∀ s ∈ idxs k bs, x <= s
 | [], k, x, h, s, hs => by simp [idxs] at hs
 | b :: bs, k, x, h, s, hs => by
  cases b with
  | true =>
   simp only [idxs, if_true, List.getElem?_cons_zero, Option.some.injEq] at h hs
   subst h
   rcases List.mem_cons.1 hs with rfl | hs
   ·omega
   ·have := z65 bs (k + 1) s hs; omega
  | false => exact qum bs (k + 1) x (by simpa [idxs] using h) s (by simpa [idxs] using hs)
theorem z0v {T : Tab} {id idL : Nat} {l : List Cf} (hR : Rt T id idL l) (ho : RtOk l) (t : Tx) (k1 k2 : Option Nat) (hf : t.Fine) (hr : t.rs.length <= 400000000) (hw : t.ws.length <= 400000000) (x : Nat) (c : Cf)
  (hx : qgd t = true -> (q4f t.keys l.length)[0]? = some (x : Int)) (hc : l[x]? = some c) :
  ACalls prog q47 [.ptr id 0, .agg (t.cells k1 k2)] T (fun r T' => r = (if qgd t = true then .tup [.i .i64 (c.at 0), .b true] else .tup [.i .i64 (-1), .b false]) /\ T' = T) := by
 obtain ⟨t1, t2⟩ := hR
 have c1 := qge t k1 k2 hf
 have c2 := qyb t k1 k2 l.length hf hr hw
 simp only [Tx.cells] at c1 c2
 refine U9 Q7 qja (by simp) ?_
 unfold qbp
 simp -implicitDefEqProofs -dsimp only [go_sem, seval, Tx.cells, ↓N1, U6, true_and, ↓J0 _ _ V7]
 refine cpn c1 ?_
 rcases hk : qgd t with _ | _
 ·simp -implicitDefEqProofs -dsimp only [go_sem, seval, hk]
  exact K1 rfl
 have hx' := hx hk
 have hlt : x < l.length := (List.getElem?_eq_some_iff.1 hc).1
 have hcell := qvy hc
 have hle := qdi (ho.c _ _ hc).1
 have h5 : x * 5 + 5 <= (qk1 l).length := by rw [qll]; omega
 have c3 := za4 x (q4f t.keys l.length) none hx' (by have := qx1 0 (qfj t.keys l.length); have e : (qfj t.keys l.length).length = 4 := rfl; unfold q4f; omega) (qum _ _ _ hx')
 have c4 := z5w c none none (by unfold Len; omega)
 simp only [Cf.cells] at c4
 simp -implicitDefEqProofs -dsimp only [go_sem, seval, hk, t1, ↓J0 _ _ qms]
 refine CallK.pure c2 (qk4 (fun _ => ⟨?_, trivial⟩) ?_)
 ·simp -implicitDefEqProofs -dsimp only [go_sem, seval, qdk, gdd, t1]
 simp -implicitDefEqProofs -dsimp only [go_sem, seval, t1, ↓J0 _ _ qjo]
 refine CallK.pure c3 (qk4 (fun _ => ⟨?_, trivial⟩) ?_)
 ·simp -implicitDefEqProofs -dsimp only [go_sem, seval, qdk, gdd, t1]
 simp -implicitDefEqProofs -dsimp only [go_sem, seval, t2, hlt, h5, hcell, Cf.cells, List.cons_append, List.nil_append, Int.ofNat_lt, Int.natCast_nonneg, Int.toNat_natCast, ↓J0 _ _ qop]
 refine cpn c4 ?_
 simp -implicitDefEqProofs -dsimp only [go_sem, seval]
 exact K1 rfl
end Go.Aw
namespace Go.Aw
open Go
open Go.Proofs.Tryz (prog)
set_option linter.all false
set_option maxHeartbeats 4000000
theorem qrx (fu : List Bool) : ∀ (l : List Int) (k : Nat), (qc5 fu l k).map (·.1) = l
 | [], _ => rfl
 | _ :: l, k => by simp [qc5, qrx fu l (k + 1)]
theorem Cf.plain_fst (c : Cf) : c.plain.l.map (·.1) = c.ch := qrx _ _ _
theorem Cf.plain_len (c : Cf) : c.plain.l.length = c.ch.length := qcb _ _ _
theorem z0w (v : Int) : ∀ (a b : List Int) (k : Nat), ixF v (a ++ b) k = match ixF v a k with | some j => some j | none => ixF v b (k + a.length)
 | [], b, k => by simp [ixF]
 | x :: a, b, k => by
  simp only [List.cons_append, ixF]
  by_cases h : v = x
  ·simp [h]
  ·simp only [h, if_false, z0w v a b (k + 1), List.length_cons]
   rw [show k + 1 + a.length = k + (a.length + 1) by omega]
theorem z0x (xs : List Int) (v : Int) : ctn xs v = decide (v ∈ xs) := by
 have : ∀ (l : List Int) (k : Nat), (ixF v l k = none) ↔ v ∉ l := by
  intro l
  induction l with
  | nil => intro k; simp [ixF]
  | cons x l ih =>
   intro k
   simp only [ixF, List.mem_cons, not_or]
   by_cases h : v = x
   ·simp [h]
   ·simp [h, ih (k + 1)]
 have h := this xs 0
 unfold ctn ixI
 cases e : ixF v xs 0 with
 | none => simp only [e, true_iff] at h; simp [h]
 | some j => simp only [e] at h; simp at h; simp [h]
theorem za5 {xs ys : List Int} {y : Int} {k : Nat} (h : xs.drop k = y :: ys) : (ixI y xs = (k : Int)) ↔ ctn (xs.take k) y = false := by
 have hk : k < xs.length := (Q5 h).1
 have e : xs = xs.take k ++ y :: ys := by rw [<- h]; exact (List.take_append_drop k xs).symm
 have hl : (xs.take k).length = k := by rw [List.length_take]; omega
 have h1 : ixF y xs 0 = match ixF y (xs.take k) 0 with | some j => some j | none => some k := by
  conv => lhs; rw [e]
  rw [z0w]
  cases ixF y (xs.take k) 0 with
  | none => simp [ixF, hl]
  | some j => rfl
 unfold ctn ixI
 rw [h1]
 cases h2 : ixF y (xs.take k) 0 with
 | none => simp
 | some j =>
  have := z4q h2
  simp only [hl] at this
  simp
  omega
theorem z66 {xs : List Int} {l : List (Int × Bool)} {ln : Int} (hx : l.map (·.1) = xs) : ∀ (ys : List (Int × Bool)) (k : Nat), l.drop k = ys -> qsz l ln ys k = (qy1 xs (ys.map (·.1)) k && decide (∀ y ∈ ys, ¬ y.1 = ln)) := by
 intro ys
 induction ys with
 | nil => intro k _; simp [qsz, qy1]
 | cons y ys ih =>
  intro k hk
  have h2 := ih (k + 1) (Q5 hk).2.2
  have h3 : xs.drop k = y.1 :: ys.map (·.1) := by rw [<- hx, <- List.map_drop, hk]; rfl
  have h4 := za5 h3
  simp only [qsz, qy1, List.map_cons, h2, hx]
  rw [Bool.eq_iff_iff]
  simp only [Bool.and_eq_true, Bool.not_eq_true', decide_eq_false_iff_not, Bool.not_eq_false', decide_eq_true_eq, List.mem_cons, forall_eq_or_imp, srv, h4]
  constructor
  ·rintro ⟨⟨⟨⟨a, b⟩, c⟩, d⟩, e, f⟩
   exact ⟨⟨⟨⟨by omega, by omega⟩, c⟩, e⟩, d, f⟩
  ·rintro ⟨⟨⟨⟨a, b⟩, c⟩, e⟩, d, f⟩
   exact ⟨⟨⟨⟨by omega, by omega⟩, c⟩, d⟩, e, f⟩
theorem z0y {xs : List Int} : ∀ (ys : List Int) (k : Nat), qy1 xs ys k = true -> ∀ y ∈ ys, 0 <= y /\ y < 8
 | [], _, _, y, hy => by cases hy
 | x :: ys, k, h, y, hy => by
  simp only [qy1, Bool.and_eq_true, srv, decide_eq_true_eq] at h
  rcases List.mem_cons.1 hy with rfl | hy
  ·exact h.1.1
  ·exact z0y ys (k + 1) h.2 y hy
theorem Cf.plain_right (c : Cf) (hf : c.fu.length = c.ch.length) : c.plain.right = c.right := by
 rw [Bool.eq_iff_iff]
 have e1 : c.plain.l.length = c.ch.length := c.plain_len
 have e2 : qsz c.plain.l c.plain.ln c.plain.l 0 = _ := z66 (ln := c.ln) c.plain_fst c.plain.l 0 rfl
 rw [c.plain_fst] at e2
 have e3 : 0 < c.ch.length -> (c.plain.l[0]?).getD (0, false) = ((c.ch[0]?).getD 0, (c.fu[0]?).getD false) := fun h => by
  simp only [Cf.plain]
  cases hc : c.ch with
  | nil => simp [hc] at h
  | cons x l => simp [qc5]
 simp only [Rf.right, Cf.right, e2, e1]
 have e4 : (∀ y ∈ c.plain.l, ¬ y.1 = c.ln) ↔ ctn c.ch c.ln = false := by
  rw [z0x, decide_eq_false_iff_not, <- c.plain_fst, List.mem_map]
  constructor
  ·rintro h ⟨a, h1, h2⟩; exact h a h1 h2
  ·intro h y hy e; exact h ⟨y, hy, e⟩
 simp only [Bool.and_eq_true, Bool.not_eq_true', decide_eq_false_iff_not, Bool.not_eq_false', decide_eq_true_eq, e4, Bool.and_eq_false_iff, Bool.or_eq_false_iff, Bool.not_eq_true, srv]
 have e5 : c.plain.ep = c.ep := rfl
 have e6 : c.plain.sh = c.sh := rfl
 have e7 : c.plain.ln = c.ln := rfl
 rw [e5, e6, e7]
 constructor
 ·rintro ⟨⟨⟨⟨⟨⟨⟨⟨a1, a2⟩, a3⟩, a4⟩, a5⟩, a6⟩, a7⟩, a8⟩, a9, a10⟩
  rw [e3 (by omega)] at a6
  refine ⟨⟨⟨⟨⟨⟨⟨⟨a1, a2⟩, by omega⟩, a4⟩, a5⟩, by omega⟩, a6⟩, ?_⟩, a9⟩
  by_cases h : c.ln = -1
  ·exact .inl h
  ·exact .inr ⟨by omega, a10⟩
 ·rintro ⟨⟨⟨⟨⟨⟨⟨⟨a1, a2⟩, a3⟩, a4⟩, a5⟩, a6⟩, a7⟩, a8⟩, a9⟩
  have hn := z0y c.ch 0 a9
  refine ⟨⟨⟨⟨⟨⟨⟨⟨a1, a2⟩, by omega⟩, a4⟩, a5⟩, ?_⟩, by omega⟩, by omega⟩, a9, ?_⟩
  ·rw [e3 (by omega)]; exact a7
  ·rcases a8 with h | h
   ·rw [z0x, decide_eq_false_iff_not, h]
    intro hm
    have := hn _ hm
    omega
   ·exact h.2
end Go.Aw
namespace Go.Aw
open Go
open Go.Proofs.Tryz (prog)
set_option linter.all false
set_option maxHeartbeats 4000000
theorem z67 {R : Y5} (hR : ExtR R) {T : Tab} {c : Rf} {k1 k2 : Option Nat} (hl : Len c.l.length) : ∀ (ys : List (Int × Bool)) (k : Nat), c.l.drop k = ys -> k <= c.l.length ->
  R (.exit 0) [(2, .lp 2 0), (3, .lp 3 0), (36, .i .i64 c.l.length), (37, .i .i64 c.l.length), (38, .b false)] [(2, c.cells k1), (3, c.cells k2)] T ->
  AW prog qbs R [(2, .lp 2 0), (3, .lp 3 0), (36, .i .i64 c.l.length), (37, .i .i64 k)] [(2, c.cells k1), (3, c.cells k2)] T := by
 intro ys
 induction ys with
 | nil =>
  intro k hk hle h2
  have hk' := O9 hk hle
  refine Q2 hR ?_
  unfold q7c
  simp -implicitDefEqProofs -dsimp only [go_sem, seval, hk', Int.lt_irrefl]
  rw [hk'] at h2
  exact h2
 | cons y ys ih =>
  intro k hk hle h2
  obtain ⟨hlt, hy, hk'⟩ := Q5 hk
  have hl' := hl
  unfold Len at hl
  refine Q2 hR ?_
  unfold q7c
  simp -implicitDefEqProofs -dsimp only [go_sem, seval, Int.ofNat_lt, hlt, Int.natCast_nonneg, Int.toNat_natCast, qru hy, Rf.cells, U2, K6, decide_true, decide_false, Bool.true_and]
  rw [K9 (by omega)]
  exact ih (k + 1) hk' hlt h2
theorem z68 (c : Rf) (k1 k2 : Option Nat) (hl : Len c.l.length) : PCalls prog q57 [.agg (c.cells k1), .agg (c.cells k2)] (.b true) := by
 refine K5 Q7 qlb (by simp) fun T => ?_
 unfold qd7
 simp -implicitDefEqProofs -dsimp only [go_sem, seval, Rf.cells, decide_true, decide_false]
 refine z67 (c := c) (k1 := k1) (k2 := k2) (by repeat' (first | exact N5 _ _ | assumption | apply N4 | apply K7 | apply U1)) hl c.l 0 rfl (by omega) ?_
 simp -implicitDefEqProofs -dsimp only [go_sem, seval]
 exact K1 rfl
end Go.Aw
namespace Go.Aw
open Go
open Go.Proofs.Tryz (prog)
set_option linter.all false
set_option maxHeartbeats 4000000
end Go.Aw
