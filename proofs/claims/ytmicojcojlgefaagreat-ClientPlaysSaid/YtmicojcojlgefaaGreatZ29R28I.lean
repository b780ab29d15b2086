import Derived.Test.YtmicojcojlgefaaGreatZ29R28G
namespace Go.Aw
open Go
open Go.Proofs.Tryz (prog)
set_option linter.all false
set_option maxHeartbeats 4000000
def sok (s l v : Int) : Bool := decide (1 <= s /\ s <= 4 /\ 1 <= v /\ v <= 8 /\ 1 <= l /\ l <= v /\ s * l <= v)
theorem qwy {s l : Int} (h1 : 1 <= s) (h2 : s <= 4) (h3 : 1 <= l) (h4 : l <= 8) : IntKind.i64.wrap (s * l) = s * l := by
 have a1 : s * l <= 4 * 8 := Int.mul_le_mul h2 h4 (by omega) (by omega)
 have a2 : 0 <= s * l := Int.mul_nonneg (by omega) (by omega)
 exact q02 (by unfold I64; omega)
def stC (s l v : Int) : List AV := [.i .i64 s, .i .i64 l, .i .i64 v]
theorem qcc (s l v : Int) : PCalls prog q26 [.agg (stC s l v)] (.b (sok s l v)) := by
 refine K5 Q7 qm8 (by simp) fun T => ?_
 unfold qe4
 simp -implicitDefEqProofs -dsimp only [go_sem, seval, stC]
 have no : ¬ (1 <= s /\ s <= 4 /\ 1 <= v /\ v <= 8 /\ 1 <= l /\ l <= v /\ s * l <= v) -> qnz (.b false) (fun x T' => x = .b (sok s l v) /\ T' = T) T := fun h => by
  rw [sok, decide_eq_false h]; exact K1 rfl
 refine J2 (fun h1 => ?_) (fun h1 => ?_)
 ·simp -implicitDefEqProofs -dsimp only [go_sem, seval, h1]
  exact no (by have := of_decide_eq_true h1; omega)
 have d1 := of_decide_eq_false h1
 simp -implicitDefEqProofs -dsimp only [go_sem, seval, h1]
 refine J2 (fun h2 => ?_) (fun h2 => ?_)
 ·simp -implicitDefEqProofs -dsimp only [go_sem, seval, h2]
  exact no (by have := of_decide_eq_true h2; omega)
 have d2 := of_decide_eq_false h2
 simp -implicitDefEqProofs -dsimp only [go_sem, seval, h2]
 refine J2 (fun h3 => ?_) (fun h3 => ?_)
 ·simp -implicitDefEqProofs -dsimp only [go_sem, seval, h3]
  exact no (by have := of_decide_eq_true h3; omega)
 have d3 := of_decide_eq_false h3
 simp -implicitDefEqProofs -dsimp only [go_sem, seval, h3]
 refine J2 (fun h4 => ?_) (fun h4 => ?_)
 ·simp -implicitDefEqProofs -dsimp only [go_sem, seval, h4]
  exact no (by have := of_decide_eq_true h4; omega)
 have d4 := of_decide_eq_false h4
 simp -implicitDefEqProofs -dsimp only [go_sem, seval, h4]
 refine J2 (fun h5 => ?_) (fun h5 => ?_)
 ·simp -implicitDefEqProofs -dsimp only [go_sem, seval, h5]
  exact no (by have := of_decide_eq_true h5; omega)
 have d5 := of_decide_eq_false h5
 simp -implicitDefEqProofs -dsimp only [go_sem, seval, h5]
 refine J2 (fun h6 => ?_) (fun h6 => ?_)
 ·simp -implicitDefEqProofs -dsimp only [go_sem, seval, h6]
  exact no (by have := of_decide_eq_true h6; omega)
 have d6 := of_decide_eq_false h6
 simp -implicitDefEqProofs -dsimp only [go_sem, seval, h6, qwy (s := s) (l := l) (by omega) (by omega) (by omega) (by omega)]
 refine K1 ?_
 congr 1
 rw [sok, decide_eq_decide]
 constructor
 ·intro h; exact ⟨by omega, by omega, by omega, by omega, by omega, by omega, h⟩
 ·intro h; exact h.2.2.2.2.2.2
theorem qvw (s l v : Int) : PCalls prog q1s [.agg (stC s l v)] (.b (sok s l v)) := by
 refine K5 Q7 qeo (by simp) fun T => ?_
 unfold q8u
 have no : ¬ (1 <= s /\ s <= 4 /\ 1 <= v /\ v <= 8 /\ 1 <= l /\ l <= v /\ s * l <= v) -> qnz (.b false) (fun x T' => x = .b (sok s l v) /\ T' = T) T := fun h => by
  rw [sok, decide_eq_false h]; exact K1 rfl
 simp -implicitDefEqProofs -dsimp only [go_sem, seval, stC]
 refine J2 (fun h1 => ?_) (fun h1 => ?_)
 ·simp -implicitDefEqProofs -dsimp only [go_sem, seval, h1]
  exact no (by have := of_decide_eq_true h1; omega)
 have d1 := of_decide_eq_false h1
 simp -implicitDefEqProofs -dsimp only [go_sem, seval, h1]
 refine J2 (fun h2 => ?_) (fun h2 => ?_)
 ·simp -implicitDefEqProofs -dsimp only [go_sem, seval, h2]
  exact no (by have := of_decide_eq_true h2; omega)
 have d2 := of_decide_eq_false h2
 simp -implicitDefEqProofs -dsimp only [go_sem, seval, h2]
 refine J2 (fun h3 => ?_) (fun h3 => ?_)
 ·simp -implicitDefEqProofs -dsimp only [go_sem, seval, h3]
  exact no (by have := of_decide_eq_true h3; omega)
 have d3 := of_decide_eq_false h3
 simp -implicitDefEqProofs -dsimp only [go_sem, seval, h3]
 refine J2 (fun h4 => ?_) (fun h4 => ?_)
 ·simp -implicitDefEqProofs -dsimp only [go_sem, seval, h4]
  refine no ?_
  have := of_decide_eq_true h4
  rintro ⟨q1, q2, q3, q4, q5, q6, q7⟩
  omega
 have d4 := of_decide_eq_false h4
 simp -implicitDefEqProofs -dsimp only [go_sem, seval, h4]
 refine J2 (fun h5 => ?_) (fun h5 => ?_)
 ·simp -implicitDefEqProofs -dsimp only [go_sem, seval, h5]
  exact no (by have := of_decide_eq_true h5; omega)
 have d5 := of_decide_eq_false h5
 simp -implicitDefEqProofs -dsimp only [go_sem, seval, h5]
 refine J2 (fun h6 => ?_) (fun h6 => ?_)
 ·simp -implicitDefEqProofs -dsimp only [go_sem, seval, h6]
  exact no (by have := of_decide_eq_true h6; omega)
 have d6 := of_decide_eq_false h6
 simp -implicitDefEqProofs -dsimp only [go_sem, seval, h6, qwy (s := s) (l := l) (by omega) (by omega) (by omega) (by omega)]
 refine K1 ?_
 congr 1
 rw [sok, decide_eq_decide]
 constructor
 ·intro h
  have hsl : l <= s * l := by
   have := Int.mul_le_mul_of_nonneg_right (show (1 : Int) <= s by omega) (show (0 : Int) <= l by omega)
   omega
  exact ⟨by omega, by omega, by omega, by omega, by omega, by omega, h⟩
 ·intro h; exact h.2.2.2.2.2.2
theorem z31 (s l v : Int) : PCalls prog q40 [.agg (stC s l v)] (.agg (stC s l v)) := by
 refine K5 Q7 qig (by simp) fun T => ?_
 unfold qb9
 simp -implicitDefEqProofs -dsimp only [go_sem, seval, stC]
 exact K1 rfl
end Go.Aw
namespace Go.Aw
open Go
open Go.Proofs.Tryz (prog)
set_option linter.all false
set_option maxHeartbeats 4000000
def chn (k l : Int) (n : Nat) : List Int := (List.range n).map fun (i : Nat) => k * l + (i : Int)
theorem z32 (k l : Int) (n : Nat) : chn k l (n + 1) = chn k l n ++ [k * l + n] := by simp [chn, List.range_succ]
theorem z0e (k l : Int) (n : Nat) : (chn k l n).length = n := by simp [chn]
def qwz (n : Nat) : List Bool := List.replicate n true
theorem z0f (n : Nat) : qwz (n + 1) = qwz n ++ [true] := by simp [qwz, List.replicate_succ']
theorem z33 (n : Nat) : (qwz n).length = n := by simp [qwz]
theorem z0g {k l i : Int} (h1 : 0 <= k) (h2 : k <= 4) (h3 : 1 <= l) (h4 : l <= 8) (h5 : 0 <= i) (h6 : i <= 8) : IntKind.i64.wrap (k * l) = k * l /\ IntKind.i64.wrap (k * l + i) = k * l + i := by
 have a1 : k * l <= 4 * 8 := Int.mul_le_mul h2 h4 (by omega) (by omega)
 have a2 : 0 <= k * l := Int.mul_nonneg (by omega) (by omega)
 exact ⟨q02 (by unfold I64; omega), q02 (by unfold I64; omega)⟩
theorem z5x {R : Y5} (hR : ExtR R) {T0 : Tab} {id : Nat} {s v k e : Int} {L : Nat} {ows : List Ow} (hk : 0 <= k) (hk4 : k <= 4) (hL : 1 <= L) (hL8 : L <= 8) : ∀ (m i : Nat), i + m = L -> ∀ v1 v2 T1,
  Owns T0 (⟨1, v1, i, q9k (chn k L i)⟩ :: ⟨1, v2, i, q34 (qwz i)⟩ :: ows) T1 ->
  (∀ v1 v2 T1, Owns T0 (⟨1, v1, L, q9k (chn k L L)⟩ :: ⟨1, v2, L, q34 (qwz L)⟩ :: ows) T1 ->
   R (.exit 2) [(1, .lp 1 0), (3, .ptr id 0), (4, .i .i64 k), (5, .lp 5 0), (17, .i .i64 s), (18, .i .i64 k), (27, .i .i64 L), (28, .i .i64 L), (29, .b false)] [(1, stC s L v), (5, [.i .u64 e, .i .i64 k, v1, v2, .i .i64 (-1)])] T1) ->
  AW prog qhi R [(1, .lp 1 0), (3, .ptr id 0), (4, .i .i64 k), (5, .lp 5 0), (17, .i .i64 s), (18, .i .i64 k), (27, .i .i64 L), (28, .i .i64 i)] [(1, stC s L v), (5, [.i .u64 e, .i .i64 k, v1, v2, .i .i64 (-1)])] T1 := by
 intro m
 induction m with
 | zero =>
  intro i hi v1 v2 T1 how h2
  have : i = L := by omega
  subst this
  refine Q2 hR ?_
  unfold qft
  simp -implicitDefEqProofs -dsimp only [go_sem, seval, Int.lt_irrefl]
  exact h2 v1 v2 T1 how
 | succ m ih =>
  intro i hi v1 v2 T1 how h2
  have hlt : i < L := by omega
  obtain ⟨p1, p2, p3, p4, p5, p6⟩ := how.form (List.mem_cons_self ..)
  obtain ⟨q1, q2, q3, q4, q5, q6⟩ := how.form (List.mem_cons_of_mem _ (List.mem_cons_self ..))
  simp only at p1 p2 p3 p4 p5 p6 q1 q2 q3 q4 q5 q6
  obtain ⟨w1, w2⟩ := z0g (k := k) (l := (L : Int)) (i := i) hk hk4 (by omega) (by omega) (by omega) (by omega)
  refine O2 (l := qhi) rfl hR ?_
  unfold qft
  simp -implicitDefEqProofs -dsimp only [go_sem, seval, Int.ofNat_lt, hlt, stC, w1, w2, p1, p2, p3, p4, p5, p6, q1, q2, q3, q4, q5, q6]
  refine how.app (m := 1) (news := q9k [k * L + i]) (by simp [Z0, q9k]) rfl (by simp only; omega) (by simp only; omega) fun v1' T2 how => J1 ?_
  obtain ⟨p1, p2, p3, p4, p5, p6⟩ := how.form (List.mem_cons_self ..)
  simp only at p1 p2 p3 p4 p5 p6
  simp -implicitDefEqProofs -dsimp only [go_sem, seval, p1, p2, p3, p4, p5, p6, q1, q2, q3, q4, q5, q6]
  refine how.swap.app (m := 1) (news := q34 [true]) (by simp [Z0, q34]) rfl (by simp only; omega) (by simp only; omega) fun v2' T3 how => J1 ?_
  obtain ⟨q1, q2, q3, q4, q5, q6⟩ := how.form (List.mem_cons_self ..)
  simp only at q1 q2 q3 q4 q5 q6
  simp -implicitDefEqProofs -dsimp only [go_sem, seval, p1, p2, p3, p4, p5, p6, q1, q2, q3, q4, q5, q6]
  rw [K9 (by omega)]
  refine ih (i + 1) (by omega) _ _ _ ?_ h2
  rw [z32, z0f, <- qpu, <- qo0]
  exact how.swap
def cel (k : Nat) (v1 v2 : AV) : List AV := [.i .u64 ((k : Int) + 1), .i .i64 k, v1, v2, .i .i64 (-1)]
def quz (L : Nat) : Nat -> List (AV × AV) -> List Ow
 | _, [] => []
 | k, p :: ps => ⟨1, p.1, L, q9k (chn k L L)⟩ :: ⟨1, p.2, L, q34 (qwz L)⟩ :: quz L (k + 1) ps
def qqs : Nat -> List (AV × AV) -> List AV
 | _, [] => []
 | k, p :: ps => cel k p.1 p.2 ++ qqs (k + 1) ps
theorem qu9 (L : Nat) (v1 v2 : AV) : ∀ (ps : List (AV × AV)) (k : Nat), quz L k (ps ++ [(v1, v2)]) = quz L k ps ++ [⟨1, v1, L, q9k (chn ((k + ps.length : Nat) : Int) L L)⟩, ⟨1, v2, L, q34 (qwz L)⟩]
 | [], k => rfl
 | p :: ps, k => by
  simp only [quz, List.cons_append]
  rw [qu9 L v1 v2 ps (k + 1), List.length_cons, show k + 1 + ps.length = k + (ps.length + 1) by omega]
theorem qua (v1 v2 : AV) : ∀ (ps : List (AV × AV)) (k : Nat), qqs k (ps ++ [(v1, v2)]) = qqs k ps ++ cel (k + ps.length) v1 v2
 | [], k => by simp [qqs]
 | p :: ps, k => by
  simp only [qqs, List.cons_append]
  rw [qua v1 v2 ps (k + 1), List.length_cons, show k + 1 + ps.length = k + (ps.length + 1) by omega, List.append_assoc]
def stR (s l v : Int) (vC : AV) : Slot := .row 6 [.i .i64 s, .i .i64 l, .i .i64 v, .i .i64 0, .i .u64 s, vC]
theorem z5y {R : Y5} (hR : ExtR R) {T0 : Tab} {id : Nat} {v : Int} {S L : Nat} (hid : T0 id = .unused) (hS : 1 <= S) (hS4 : S <= 4) (hL : 1 <= L) (hL8 : L <= 8) : ∀ (m k : Nat), k + m = S -> ∀ vC ps T1, ps.length = k ->
  Owns (T0.put id (stR S L v vC)) (⟨5, vC, k, qqs 0 ps⟩ :: quz L 0 ps) T1 ->
  (∀ vC ps T1, ps.length = S -> Owns (T0.put id (stR S L v vC)) (⟨5, vC, S, qqs 0 ps⟩ :: quz L 0 ps) T1 ->
   R (.exit 0) [(1, .lp 1 0), (3, .ptr id 0), (17, .i .i64 S), (18, .i .i64 S), (19, .b false)] [(1, stC S L v)] T1) ->
  AW prog qhj R [(1, .lp 1 0), (3, .ptr id 0), (17, .i .i64 S), (18, .i .i64 k)] [(1, stC S L v)] T1 := by
 intro m
 induction m with
 | zero =>
  intro k hk vC ps T1 hps how h2
  have : k = S := by omega
  subst this
  refine Q2 hR ?_
  unfold qfu
  simp -implicitDefEqProofs -dsimp only [go_sem, seval, Int.lt_irrefl]
  exact h2 vC ps T1 hps how
 | succ m ih =>
  intro k hk vC ps T1 hps how h2
  have hlt : k < S := by omega
  have w1 : IntKind.u64.wrap ((k : Int) + 1) = (k : Int) + 1 := IntWalk.u64_in _ (by omega)
  have w2 : IntKind.i64.wrap ((k : Int) + 1) = (k : Int) + 1 := by rw [K9 (by omega)]; simp
  refine O2 (l := qhj) rfl hR ?_
  unfold qfu
  simp -implicitDefEqProofs -dsimp only [go_sem, seval, Int.ofNat_lt, hlt, stC, w1, w2]
  refine z5x (T0 := T0.put id (stR S L v vC)) (ows := ⟨5, vC, k, qqs 0 ps⟩ :: quz L 0 ps) (by repeat' (first | exact N5 _ _ | assumption | apply N4 | apply K7 | apply U1)) (by omega) (by omega) hL hL8 L 0 (by omega) _ _ T1 ?_ (fun v1 v2 T2 how => ?_)
  ·exact ⟨T1, ⟨T1, how, .nil ..⟩, .nil ..⟩
  have w0 : T2 id = stR S L v vC := by
   rw [how.base_get (by rw [Tab.put_same]; simp [stR]), Tab.put_same]
  obtain ⟨a1, a2, a3, a4, a5, a6⟩ := how.form (List.mem_cons_self ..)
  obtain ⟨b1, b2, b3, b4, b5, b6⟩ := how.form (List.mem_cons_of_mem _ (List.mem_cons_self ..))
  obtain ⟨c1, c2, c3, c4, c5, c6⟩ := how.form (List.mem_cons_of_mem _ (List.mem_cons_of_mem _ (List.mem_cons_self ..)))
  simp only at a1 a2 a3 a4 a5 a6 b1 b2 b3 b4 b5 b6 c1 c2 c3 c4 c5 c6
  simp -implicitDefEqProofs -dsimp only [go_sem, seval, w0, stR, a1, a2, a3, a4, a5, a6, b1, b2, b3, b4, b5, b6, c1, c2, c3, c4, c5, c6]
  have how' : Owns (T0.put id (stR S L v vC)) (⟨5, vC, k, qqs 0 ps⟩ :: ⟨1, v1, L, q9k (chn k L L)⟩ :: ⟨1, v2, L, q34 (qwz L)⟩ :: quz L 0 ps) T2 := how.perm (by
   refine List.Perm.trans (List.Perm.cons _ (List.Perm.swap _ _ _)) (List.Perm.swap _ _ _))
  refine how'.app (m := 1) (news := cel k v1 v2) (by simp [Z0, cel]) rfl (by simp only; omega) (by simp only; omega) fun vC' T3 how3 => J1 ?_
  have w0 : T3 id = stR S L v vC := by
   rw [how3.base_get (by rw [Tab.put_same]; simp [stR]), Tab.put_same]
  obtain ⟨c1, c2, c3, c4, c5, c6⟩ := how3.form (List.mem_cons_self ..)
  simp only at c1 c2 c3 c4 c5 c6
  simp -implicitDefEqProofs -dsimp only [go_sem, seval, w0, stR, c1, c2, c3, c4, c5, c6]
  refine q4h w0 c3 (by rw [c4]; rfl) (by simp) ?_
  refine J1 ?_
  simp -implicitDefEqProofs -dsimp only [go_sem, seval, w0, stR, c1, c2, c3, c4, c5, c6, w2]
  refine ih (k + 1) (by omega) vC' (ps ++ [(v1, v2)]) _ (by simp [hps]) ?_ h2
  have hb := how3.base_put (id := id) (s := stR S L v vC') (by rw [Tab.put_same]; simp [stR])
  rw [Tab.put_put] at hb
  rw [qua, qu9, hps, Nat.zero_add]
  refine Owns.perm ?_ hb
  refine List.Perm.cons _ ?_
  exact (List.perm_append_comm (l₁ := [_, _]) (l₂ := quz L 0 ps))
def zel (T0 : Tab) (S L : Nat) (v : Int) (r : AV) (T' : Tab) : Prop := ∃ id vC ps, r = .ptr id 0 /\ T0 id = .unused /\ ps.length = S /\ Owns (T0.put id (stR S L v vC)) (⟨5, vC, S, qqs 0 ps⟩ :: quz L 0 ps) T'
theorem qub {T0 : Tab} {S L : Nat} {v : Int} (h : sok S L v = true) : ACalls prog qfr [.agg (stC S L v)] T0 (zel T0 S L v) := by
 refine U9 Q7 qvp (by simp) ?_
 have hh := of_decide_eq_true h
 have w1 : IntKind.u64.wrap (S : Int) = S := IntWalk.u64_in _ (by omega)
 unfold qpy
 simp -implicitDefEqProofs -dsimp only [go_sem, seval, stC, ↓J0 _ _ q6q]
 refine cpn (qcc S L v) ?_
 simp -implicitDefEqProofs -dsimp only [go_sem, seval, h, w1]
 refine fun id hid => J1 ?_
 simp -implicitDefEqProofs -dsimp only [go_sem, seval]
 refine z5y (T0 := T0) (id := id) (by repeat' (first | exact N5 _ _ | assumption | apply N4 | apply K7 | apply U1)) hid (by omega) (by omega) (by omega) (by omega) S 0 (by omega) (.fz 0 [] (some 0)) [] _ rfl ?_ (fun vC ps T1 hps how => ?_)
 ·exact ⟨_, rfl, .nil ..⟩
 ·simp -implicitDefEqProofs -dsimp only [go_sem, seval]
  exact V1 T1 (fun _ => .inr (.inl rfl)) ⟨id, vC, ps, rfl, hid, hps, how⟩
end Go.Aw
