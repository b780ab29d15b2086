import Derived.Test.YtmicojcojlgefaaGreatZ29S12Q
namespace Go.Aw
open Go
open Go.Proofs.Tryz (prog)
set_option linter.all false
set_option maxHeartbeats 4000000
def q94 (n : Int) : Nat := if n < 1 then 1 else if 4 < n then 4 else n.toNat
theorem qnj (n : Int) : 1 <= q94 n /\ q94 n <= 4 := by unfold q94; split <;> (try split) <;> omega
def I0 (bs : Bs) (n : Int) : Nat := num bs % q94 n
theorem qid (bs : Bs) (n : Int) : I0 bs n < 4 := by
 have h := qnj n
 have := Nat.mod_lt (num bs) (show 0 < q94 n by omega)
 unfold I0; omega
theorem z3c (n : Int) : (if 4 < (if 1 > n then (1 : Int) else n) then (4 : Int) else (if 1 > n then (1 : Int) else n)) = (q94 n : Int) := by
 unfold q94; split <;> (try split) <;> (try split) <;> omega
theorem quk (bs : Bs) (n : Int) (hl : Len bs.length) : PCalls prog qar [.s bs, .i .i64 n] (.i .i64 (I0 bs n)) := by
 refine K5 Q7 qu3 (by simp) fun T => ?_
 have hc := qnj n
 have hnl := za2 bs
 have w1 : IntKind.u32.wrap (q94 n : Int) = q94 n := by rw [qn2]; omega
 have e1 : Int.tmod (num bs : Int) (q94 n : Int) = (I0 bs n : Int) := by rw [Int.tmod_eq_emod_of_nonneg (by omega)]; unfold I0; omega
 have hs := qid bs n
 have w2 : IntKind.u32.wrap (I0 bs n : Int) = I0 bs n := by rw [qn2]; omega
 have w3 : IntKind.i64.wrap (I0 bs n : Int) = I0 bs n := q02 (by unfold I64; omega)
 have z1 : ((q94 n : Int) = 0) = False := by simp; omega
 have hcl : (if (4 : Int) < (if n < 1 then (1 : Int) else n) then (4 : Int) else (if n < 1 then (1 : Int) else n)) = (q94 n : Int) := z3c n
 unfold qo9
 simp -implicitDefEqProofs -dsimp only [go_sem, seval, gt_iff_lt, hcl, ↓J0 _ _ qss]
 refine cpn (qy4 bs hl) ?_
 simp -implicitDefEqProofs -dsimp only [go_sem, seval, w1, e1, w2, w3, z1]
 exact K1 rfl
theorem qy7 {R : Y5} (hR : ExtR R) {T : Tab} {bs : List UInt8} (hl : Len bs.length) : ∀ (ys : List UInt8) (k h : Nat), bs.drop k = ys -> k <= bs.length -> h < 4294967296 ->
  R (.exit 0) [(0, .s bs), (3, .i .i64 (za1 h ys)), (4, .i .i64 bs.length), (8, .b false)] [] T ->
  AW prog q6k R [(0, .s bs), (3, .i .i64 h), (4, .i .i64 k)] [] T := by
 intro ys
 induction ys with
 | nil =>
  intro k h hk hle hh h2
  have hk' := O9 hk hle
  refine Q2 hR ?_
  unfold q5m
  simp -implicitDefEqProofs -dsimp only [go_sem, seval, hk', Int.lt_irrefl]
  rw [hk'] at h2
  exact h2
 | cons y ys ih =>
  intro k h hk hle hh h2
  obtain ⟨hlt, hy, hk'⟩ := Q5 hk
  unfold Len at hl
  refine O2 (l := q6k) rfl hR ?_
  unfold q5m
  simp -implicitDefEqProofs -dsimp only [go_sem, seval, Int.ofNat_lt, hlt, Int.natCast_nonneg, Int.toNat_natCast, hy, zcy hh]
  rw [K9 (by omega)]
  exact ih (k + 1) _ hk' hlt (qp5 y) h2
theorem qnk (bs : List UInt8) (hl : Len bs.length) : PCalls prog q3m [.s bs] (.i .i64 (num bs)) := by
 refine K5 Q7 qi3 (by simp) fun T => ?_
 unfold qb2
 simp -implicitDefEqProofs -dsimp only [go_sem, seval]
 refine qy7 (h := 5381) (by repeat' (first | exact N5 _ _ | assumption | apply N4 | apply K7 | apply U1)) hl bs 0 rfl (by omega) (by decide) ?_
 simp -implicitDefEqProofs -dsimp only [go_sem, seval]
 exact K1 rfl
theorem qul (bs : Bs) (n : Int) (hl : Len bs.length) : PCalls prog q2r [.s bs, .i .i64 n] (.i .i64 (I0 bs n)) := by
 refine K5 Q7 qjx (by simp) fun T => ?_
 have hc := qnj n
 have e1 : Int.tmod (num bs : Int) (q94 n : Int) = (I0 bs n : Int) := by rw [Int.tmod_eq_emod_of_nonneg (by omega)]; unfold I0; omega
 have hs := qid bs n
 have w3 : IntKind.i64.wrap (I0 bs n : Int) = I0 bs n := q02 (by unfold I64; omega)
 have z1 : ((q94 n : Int) = 0) = False := by simp; omega
 have e : ∀ m : Int, m = q94 n -> Int.tmod (num bs) m = I0 bs n := fun m hm => by rw [hm, e1]
 unfold qc1
 simp -implicitDefEqProofs -dsimp only [go_sem, seval]
 (first | (apply J2 <;> intro h_1 <;> simp -implicitDefEqProofs -dsimp only [go_sem, seval, h_1]) | (have h_1 := trivial)) <;>
  (first | (apply J2 <;> intro h_2 <;> simp -implicitDefEqProofs -dsimp only [go_sem, seval, h_1, h_2]) | (have h_2 := trivial))
 ·have h1 := e 1 (by have := of_decide_eq_true h_1; unfold q94; rw [if_pos this]; rfl)
  simp -implicitDefEqProofs -dsimp only [go_sem, seval, ↓J0 _ _ q7l]
  refine cpn (qnk bs hl) ?_
  simp -implicitDefEqProofs -dsimp only [go_sem, seval, h1, w3]
  exact K1 rfl
 ·have h1 := e 4 (by have h1 := of_decide_eq_false h_1; have h2 := of_decide_eq_true h_2; unfold q94; rw [if_neg h1, if_pos (by omega)]; rfl)
  simp -implicitDefEqProofs -dsimp only [go_sem, seval, ↓J0 _ _ q7l]
  refine cpn (qnk bs hl) ?_
  simp -implicitDefEqProofs -dsimp only [go_sem, seval, h1, w3]
  exact K1 rfl
 ·have hn := (by have h1 := of_decide_eq_false h_1; have h2 := of_decide_eq_false h_2; unfold q94; rw [if_neg h1, if_neg (by omega)]; omega : n = q94 n)
  have h1 := e n hn
  have z2 : (n = 0) = False := by simp; omega
  simp -implicitDefEqProofs -dsimp only [go_sem, seval, z2, ↓J0 _ _ q7l]
  refine cpn (qnk bs hl) ?_
  simp -implicitDefEqProofs -dsimp only [go_sem, seval, h1, z2, w3]
  exact K1 rfl
def idxs : Nat -> List Bool -> List Int
 | _, [] => []
 | k, b :: bs => if b = true then (k : Int) :: idxs (k + 1) bs else idxs (k + 1) bs
theorem qx1 : ∀ (k : Nat) (l : List Bool), (idxs k l).length <= l.length
 | _, [] => by simp [idxs]
 | k, b :: bs => by have := qx1 (k + 1) bs; simp only [idxs]; split <;> simp <;> omega
def qys (l : List Bs) (n : Int) (k : Nat) : Bool := l.any fun x => decide (I0 x n = k)
def qfj (l : List Bs) (n : Int) : List Bool := [qys l n 0, qys l n 1, qys l n 2, qys l n 3]
def q4f (l : List Bs) (n : Int) : List Int := idxs 0 (qfj l n)
theorem z0p (l : List Bs) (x : Bs) (n : Int) : qfj (l ++ [x]) n = (qfj l n).set (I0 x n) true := by
 have h := qid x n
 have h4 : I0 x n = 0 \/ I0 x n = 1 \/ I0 x n = 2 \/ I0 x n = 3 := by omega
 rcases h4 with h | h | h | h <;> simp [qfj, qys, h]
theorem qw3 {l : List AV} {k : Nat} {x : AV} (h : k < l.length) : q0o l k [x] = l.set k x := by
 simp only [q0o, List.length_cons, List.length_nil, List.set_eq_take_append_cons_drop, if_pos h, List.cons_append, List.nil_append, List.append_assoc, Nat.zero_add]
theorem z0q {l : List Bool} {k : Nat} {b : Bool} (h : k < l.length) : (q34 l).take k ++ [.b b] ++ (q34 l).drop (k + 1) = q34 (l.set k b) := by
 rw [<- qw3 (l := q34 l) (x := .b b) (by simpa [q34] using h) |>.trans (by simp [q34, List.map_set] : (q34 l).set k (.b b) = q34 (l.set k b))]
 simp [q0o]
theorem qw4 {R : Y5} (hR : ExtR R) {T : Tab} {xs : List Bs} {cap : Option Nat} {n : Int} {v : AV} (hv : v.plain = true /\ v.offLp 5 = v) (hl : xs.length < 1000000000) (hs : ∀ x ∈ xs, Len x.length) : ∀ (ys : List Bs) (k : Nat), xs.drop k = ys -> k <= xs.length ->
  (R (.exit 0) [(1, .i .i64 n), (5, .lp 5 0), (6, v), (11, .fz xs.length (qez xs) cap), (12, .i .i64 xs.length), (13, .i .i64 xs.length), (14, .b false)] [(5, q34 (qfj xs n))] T) ->
  AW prog qex R [(1, .i .i64 n), (5, .lp 5 0), (6, v), (11, .fz xs.length (qez xs) cap), (12, .i .i64 xs.length), (13, .i .i64 k)] [(5, q34 (qfj (xs.take k) n))] T := by
 obtain ⟨v1, v2⟩ := hv
 intro ys
 induction ys with
 | nil =>
  intro k hk hle h2
  have hk' := O9 hk hle
  refine Q2 hR ?_
  unfold qdc
  simp -implicitDefEqProofs -dsimp only [go_sem, seval, hk', Int.lt_irrefl, v1]
  rw [List.take_of_length_le (by omega : xs.length <= k)]
  rw [hk'] at h2
  exact h2
 | cons y ys ih =>
  intro k hk hle h2
  obtain ⟨hlt, hy, hk'⟩ := Q5 hk
  have hm : y ∈ xs := List.mem_of_getElem? hy
  have h4 := qid y n
  refine O2 (l := qex) rfl hR ?_
  unfold qdc
  simp -implicitDefEqProofs -dsimp only [go_sem, seval, Int.ofNat_lt, hlt, Int.natCast_nonneg, Int.toNat_natCast, qw1, hy, v1, ↓J0 _ _ qoa]
  refine cpn (quk y n (hs y hm)) ?_
  have h4' : (I0 y n : Int) < 4 := by omega
  have hlen : I0 y n + 1 <= (q34 (qfj (xs.take k) n)).length := by rw [qh7]; show _ <= 4; omega
  have hset := z0q (l := qfj (xs.take k) n) (k := I0 y n) (b := true) (by show _ < 4; omega)
  simp -implicitDefEqProofs -dsimp only [go_sem, seval, h4', Int.natCast_nonneg, Int.toNat_natCast, hlen, v1, v2, Int.ofNat_lt, h4]
  rw [hset, <- z0p, K9 (by omega), <- Z9 hy]
  exact ih (k + 1) hk' hlt h2
theorem qw5 {R : Y5} (hR : ExtR R) {T : Tab} {sn : List Bool} (h4 : sn.length = 4) : ∀ (ys : List Bool) (k : Nat), sn.drop k = ys -> k <= 4 -> ∀ (xs : List Int) (v : AV) (T1 : Tab), xs.length <= k ->
  Own T 1 v xs.length (q9k xs) T1 ->
  (∀ v T1, Own T 1 v (xs ++ idxs k ys).length (q9k (xs ++ idxs k ys)) T1 -> R (.exit 2) [(6, v), (22, .agg (q34 sn)), (23, .i .i64 4), (24, .b false)] [] T1) ->
  AW prog qey R [(6, v), (22, .agg (q34 sn)), (23, .i .i64 k)] [] T1 := by
 intro ys
 induction ys with
 | nil =>
  intro k hk hle xs v T1 hx ho h2
  obtain ⟨p1, p2, p3, p4, p5, p6⟩ := ho.form
  have hk' : k = 4 := by have := O9 hk (by omega); omega
  subst hk'
  refine Q2 hR ?_
  unfold qdd
  simp -implicitDefEqProofs -dsimp only [go_sem, seval, Int.lt_irrefl, p1, p2, p3, p4, p5, p6, show ((4 : Nat) : Int) = 4 from rfl]
  simp only [idxs, List.append_nil] at h2
  exact h2 _ _ ho
 | cons y ys ih =>
  intro k hk hle xs v T1 hx ho h2
  obtain ⟨hlt, hy, hk'⟩ := Q5 hk
  obtain ⟨p1, p2, p3, p4, p5, p6⟩ := ho.form
  rw [h4] at hlt
  have hlt' : (k : Int) < 4 := by omega
  have hat : (q34 sn)[k]? = some (.b y) := by simp [q34, hy]
  refine O2 (l := qey) rfl hR ?_
  unfold qdd
  simp -implicitDefEqProofs -dsimp only [go_sem, seval, hlt', hlt, Int.natCast_nonneg, Int.toNat_natCast, hat, p1, p2, p3, p4, p5, p6, show ((4 : Nat) : Int) = 4 from rfl]
  cases y with
  | false =>
   simp -implicitDefEqProofs -dsimp only [go_sem, seval, p1, p2, p3, p4, p5, p6]
   rw [K9 (by omega)]
   refine ih (k + 1) hk' hlt xs v T1 (by omega) ho fun v T1 ho => h2 v T1 ?_
   simpa only [idxs, Bool.false_eq_true, if_false] using ho
  | true =>
   simp -implicitDefEqProofs -dsimp only [go_sem, seval, p1, p2, p3, p4, p5, p6]
   refine ho.app (m := 1) (news := [.i .i64 k]) rfl rfl (by omega) (by omega) fun v2 T2 ho => J1 ?_
   obtain ⟨p1, p2, p3, p4, p5, p6⟩ := ho.form
   simp -implicitDefEqProofs -dsimp only [go_sem, seval, p1, p2, p3, p4, p5, p6]
   rw [K9 (by omega)]
   have e : q9k xs ++ [.i .i64 (k : Int)] = q9k (xs ++ [(k : Int)]) := by simp [q9k]
   rw [e] at ho
   refine ih (k + 1) hk' hlt (xs ++ [(k : Int)]) v2 T2 (by simp; omega) (by simpa using ho) fun v T1 ho => h2 v T1 ?_
   simpa only [idxs, if_true, List.append_assoc, List.cons_append, List.nil_append] using ho
theorem qy8 (xs : List Bs) (cap : Option Nat) (n : Int) (hl : xs.length < 1000000000) (hs : ∀ x ∈ xs, Len x.length) :
  PCalls prog qc9 [.fz xs.length (qez xs) cap, .i .i64 n] (.fz (q4f xs n).length (q9k (q4f xs n)) none) := by
 refine K5 Q7 qsu (by simp) fun T => ?_
 unfold qmv
 simp -implicitDefEqProofs -dsimp only [go_sem, seval]
 refine qw4 (T := T) (by repeat' (first | exact N5 _ _ | assumption | apply N4 | apply K7 | apply U1)) ⟨rfl, rfl⟩ hl hs xs 0 rfl (by omega) ?_
 have e4 : (q34 (qfj xs n)).length = 4 := rfl
 simp -implicitDefEqProofs -dsimp only [go_sem, seval, e4]
 have e5 : (q34 (qfj xs n)).take 4 = q34 (qfj xs n) := rfl
 try rw [e5]
 refine qw5 (T := T) (by repeat' (first | exact N5 _ _ | assumption | apply N4 | apply K7 | apply U1)) rfl (qfj xs n) 0 rfl (by omega) [] _ _ (by simp) (.nil ..) (fun v T1 ho => ?_)
 obtain ⟨p1, p2, p3, p4, p5, p6⟩ := ho.form
 simp -implicitDefEqProofs -dsimp only [go_sem, seval, p1, p2, p3, p4, p5, p6]
 exact ho.fzn
theorem qw6 {R : Y5} (hR : ExtR R) {T : Tab} {xs : List Bs} {cap : Option Nat} {n : Int} {v : AV} {j : Nat} (hv : v.plain = true) (hl : xs.length < 1000000000) (hs : ∀ x ∈ xs, Len x.length) : ∀ (ys : List Bs) (k : Nat) (b : Bool), xs.drop k = ys -> k <= xs.length ->
  (R (.exit 2) [(0, .fz xs.length (qez xs) cap), (1, .i .i64 n), (5, v), (6, .i .i64 j), (7, .b (b || qys ys n j)), (14, .fz xs.length (qez xs) cap), (15, .i .i64 xs.length), (16, .i .i64 xs.length), (17, .b false)] [] T) ->
  AW prog q6g R [(0, .fz xs.length (qez xs) cap), (1, .i .i64 n), (5, v), (6, .i .i64 j), (7, .b b), (14, .fz xs.length (qez xs) cap), (15, .i .i64 xs.length), (16, .i .i64 k)] [] T := by
 intro ys
 induction ys with
 | nil =>
  intro k b hk hle h2
  have hk' := O9 hk hle
  refine Q2 hR ?_
  unfold q5j
  simp -implicitDefEqProofs -dsimp only [go_sem, seval, hk', Int.lt_irrefl, hv]
  rw [hk'] at h2
  simpa only [qys, List.any_nil, Bool.or_false] using h2
 | cons y ys ih =>
  intro k b hk hle h2
  obtain ⟨hlt, hy, hk'⟩ := Q5 hk
  have hm : y ∈ xs := List.mem_of_getElem? hy
  have e : ∀ c, (b || qys (y :: ys) n j) = c -> (b || qys (y :: ys) n j) = c := fun _ h => h
  refine O2 (l := q6g) rfl hR ?_
  unfold q5j
  simp -implicitDefEqProofs -dsimp only [go_sem, seval, Int.ofNat_lt, hlt, Int.natCast_nonneg, Int.toNat_natCast, qw1, hy, hv]
  cases b with
  | true =>
   simp -implicitDefEqProofs -dsimp only [go_sem, seval, hv, ↓N1, U6, true_and]
   rw [K9 (by omega)]
   exact ih (k + 1) _ hk' hlt h2
  | false =>
   simp -implicitDefEqProofs -dsimp only [go_sem, seval, hv, ↓N1, U6, true_and, ↓J0 _ _ qc2]
   refine cpn (qul y n (hs y hm)) ?_
   have hd : decide ((I0 y n : Int) = (j : Int)) = decide (I0 y n = j) := decide_eq_decide.2 (by omega)
   simp -implicitDefEqProofs -dsimp only [go_sem, seval, hv, hd]
   rw [K9 (by omega)]
   refine ih (k + 1) _ hk' hlt ?_
   simpa only [qys, List.any_cons, Bool.false_or] using h2
theorem qw7 {R : Y5} (hR : ExtR R) {T : Tab} {xs : List Bs} {cap : Option Nat} {n : Int} (hl : xs.length < 1000000000) (hs : ∀ x ∈ xs, Len x.length) : ∀ (ys : List Bool) (k : Nat), (qfj xs n).drop k = ys -> k <= 4 -> ∀ (os : List Int) (v : AV) (T1 : Tab), os.length <= k ->
  Own T 1 v os.length (q9k os) T1 ->
  (∀ v T1, Own T 1 v (os ++ idxs k ys).length (q9k (os ++ idxs k ys)) T1 -> R (.exit 0) [(0, .fz xs.length (qez xs) cap), (1, .i .i64 n), (5, v), (6, .i .i64 4), (11, .b false)] [] T1) ->
  AW prog q6h R [(0, .fz xs.length (qez xs) cap), (1, .i .i64 n), (5, v), (6, .i .i64 k)] [] T1 := by
 intro ys
 induction ys with
 | nil =>
  intro k hk hle os v T1 hx ho h2
  obtain ⟨p1, p2, p3, p4, p5, p6⟩ := ho.form
  have hk' : k = 4 := by have := O9 hk (show k <= 4 by omega); simpa [qfj] using this.symm
  subst hk'
  refine Q2 hR ?_
  unfold q5k
  simp -implicitDefEqProofs -dsimp only [go_sem, seval, Int.lt_irrefl, p1, p2, p3, p4, p5, p6, show ((4 : Nat) : Int) = 4 from rfl]
  simp only [idxs, List.append_nil] at h2
  exact h2 _ _ ho
 | cons y ys ih =>
  intro k hk hle os v T1 hx ho h2
  obtain ⟨hlt, hy, hk'⟩ := Q5 hk
  obtain ⟨p1, p2, p3, p4, p5, p6⟩ := ho.form
  have hlt4 : k < 4 := hlt
  have hlt' : (k : Int) < 4 := by omega
  have hyk : qys xs n k = y := by
   have h4 : k = 0 \/ k = 1 \/ k = 2 \/ k = 3 := by omega
   rcases h4 with h | h | h | h <;> subst h <;> simpa [qfj] using hy
  refine O2 (l := q6h) rfl hR ?_
  unfold q5k
  simp -implicitDefEqProofs -dsimp only [go_sem, seval, hlt', p1, p2, p3, p4, p5, p6]
  refine qw6 (T := T1) (j := k) (by repeat' (first | exact N5 _ _ | assumption | apply N4 | apply K7 | apply U1)) p1 hl hs xs 0 false rfl (by omega) ?_
  rw [Bool.false_or, hyk]
  cases y with
  | false =>
   simp -implicitDefEqProofs -dsimp only [go_sem, seval, p1, p2, p3, p4, p5, p6]
   rw [K9 (by omega)]
   refine ih (k + 1) hk' hlt os v T1 (by omega) ho fun v T1 ho => h2 v T1 ?_
   simpa only [idxs, Bool.false_eq_true, if_false] using ho
  | true =>
   simp -implicitDefEqProofs -dsimp only [go_sem, seval, p1, p2, p3, p4, p5, p6]
   refine ho.app (m := 1) (news := [.i .i64 k]) rfl rfl (by omega) (by omega) fun v2 T2 ho => J1 ?_
   obtain ⟨p1, p2, p3, p4, p5, p6⟩ := ho.form
   simp -implicitDefEqProofs -dsimp only [go_sem, seval, p1, p2, p3, p4, p5, p6]
   rw [K9 (by omega)]
   have e : q9k os ++ [.i .i64 (k : Int)] = q9k (os ++ [(k : Int)]) := by simp [q9k]
   rw [e] at ho
   refine ih (k + 1) hk' hlt (os ++ [(k : Int)]) v2 T2 (by simp; omega) (by simpa using ho) fun v T1 ho => h2 v T1 ?_
   simpa only [idxs, if_true, List.append_assoc, List.cons_append, List.nil_append] using ho
theorem qy9 (xs : List Bs) (cap : Option Nat) (n : Int) (hl : xs.length < 1000000000) (hs : ∀ x ∈ xs, Len x.length) :
  PCalls prog q3l [.fz xs.length (qez xs) cap, .i .i64 n] (.fz (q4f xs n).length (q9k (q4f xs n)) none) := by
 refine K5 Q7 qhz (by simp) fun T => ?_
 unfold qb1
 simp -implicitDefEqProofs -dsimp only [go_sem, seval]
 refine qw7 (T := T) (by repeat' (first | exact N5 _ _ | assumption | apply N4 | apply K7 | apply U1)) hl hs (qfj xs n) 0 rfl (by omega) [] _ _ (by simp) (.nil ..) (fun v T1 ho => ?_)
 obtain ⟨p1, p2, p3, p4, p5, p6⟩ := ho.form
 simp -implicitDefEqProofs -dsimp only [go_sem, seval, p1, p2, p3, p4, p5, p6]
 exact ho.fzn
end Go.Aw
