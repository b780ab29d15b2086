import Derived.Test.YtmicojcojlgefaaGreatZ29R28I
import Derived.Test.YtmicojcojlgefaaGreatZ29T16B
namespace Go.Aw
open Go
open Go.Proofs.Tryz (prog)
set_option linter.all false
set_option maxHeartbeats 4000000
def chr (k l : Int) (n : Nat) : List (Int × Bool) := (List.range n).map fun (i : Nat) => (k * l + (i : Int), true)
theorem z34 (k l : Int) (n : Nat) : chr k l (n + 1) = chr k l n ++ [(k * l + n, true)] := by simp [chr, List.range_succ]
theorem z35 {R : Y5} (hR : ExtR R) {T0 : Tab} {id : Nat} {s v k e : Int} {L : Nat} {ows : List Ow} (hk : 0 <= k) (hk4 : k <= 4) (hL : 1 <= L) (hL8 : L <= 8) : ∀ (m i : Nat), i + m = L -> ∀ v1 T1,
  Owns T0 (⟨2, v1, i, mem (chr k L i)⟩ :: ows) T1 ->
  (∀ v1 T1, Owns T0 (⟨2, v1, L, mem (chr k L L)⟩ :: ows) T1 ->
   R (.exit 2) [(1, .lp 1 0), (3, .ptr id 0), (4, .i .i64 k), (5, .lp 5 0), (6, .i .i64 L), (27, .b false)] [(1, stC s L v), (5, [.i .u64 e, .i .i64 k, v1, .i .i64 (-1)])] T1) ->
  AW prog q9g R [(1, .lp 1 0), (3, .ptr id 0), (4, .i .i64 k), (5, .lp 5 0), (6, .i .i64 i)] [(1, stC s L v), (5, [.i .u64 e, .i .i64 k, v1, .i .i64 (-1)])] T1 := by
 intro m
 induction m with
 | zero =>
  intro i hi v1 T1 how h2
  have : i = L := by omega
  subst this
  refine Q2 hR ?_
  unfold q8a
  simp -implicitDefEqProofs -dsimp only [go_sem, seval, stC, Int.lt_irrefl]
  exact h2 v1 T1 how
 | succ m ih =>
  intro i hi v1 T1 how h2
  have hlt : i < L := by omega
  obtain ⟨p1, p2, p3, p4, p5, p6⟩ := how.form (List.mem_cons_self ..)
  simp only at p1 p2 p3 p4 p5 p6
  obtain ⟨w1, w2⟩ := z0g (k := k) (l := (L : Int)) (i := i) hk hk4 (by omega) (by omega) (by omega) (by omega)
  refine O2 (l := q9g) rfl hR ?_
  unfold q8a
  simp -implicitDefEqProofs -dsimp only [go_sem, seval, Int.ofNat_lt, hlt, stC, w1, w2, p1, p2, p3, p4, p5, p6]
  refine how.app (m := 1) (news := mem [(k * L + i, true)]) (by simp [Z0, mem]) rfl (by simp only; omega) (by simp only; omega) fun v1' T2 how => J1 ?_
  obtain ⟨p1, p2, p3, p4, p5, p6⟩ := how.form (List.mem_cons_self ..)
  simp only at p1 p2 p3 p4 p5 p6
  simp -implicitDefEqProofs -dsimp only [go_sem, seval, p1, p2, p3, p4, p5, p6]
  rw [K9 (by omega)]
  refine ih (i + 1) (by omega) _ _ ?_ h2
  rw [z34, q2e]
  exact how
def zau (k : Nat) (v1 : AV) : List AV := [.i .u64 ((k : Int) + 1), .i .i64 k, v1, .i .i64 (-1)]
def qyr (L : Nat) : Nat -> List AV -> List Ow
 | _, [] => []
 | k, p :: ps => ⟨2, p, L, mem (chr k L L)⟩ :: qyr L (k + 1) ps
def qoy : Nat -> List AV -> List AV
 | _, [] => []
 | k, p :: ps => zau k p ++ qoy (k + 1) ps
theorem quc (L : Nat) (v1 : AV) : ∀ (ps : List AV) (k : Nat), qyr L k (ps ++ [v1]) = qyr L k ps ++ [⟨2, v1, L, mem (chr ((k + ps.length : Nat) : Int) L L)⟩]
 | [], k => rfl
 | p :: ps, k => by
  simp only [qyr, List.cons_append]
  rw [quc L v1 ps (k + 1), List.length_cons, show k + 1 + ps.length = k + (ps.length + 1) by omega]
theorem qrw (v1 : AV) : ∀ (ps : List AV) (k : Nat), qoy k (ps ++ [v1]) = qoy k ps ++ zau (k + ps.length) v1
 | [], k => by simp [qoy]
 | p :: ps, k => by
  simp only [qoy, List.cons_append]
  rw [qrw v1 ps (k + 1), List.length_cons, show k + 1 + ps.length = k + (ps.length + 1) by omega, List.append_assoc]
theorem z36 {R : Y5} (hR : ExtR R) {T0 : Tab} {id : Nat} {v : Int} {S L : Nat} (hid : T0 id = .unused) (hS : 1 <= S) (hS4 : S <= 4) (hL : 1 <= L) (hL8 : L <= 8) : ∀ (m k : Nat), k + m = S -> ∀ vC ps T1, ps.length = k ->
  Owns (T0.put id (stR S L v vC)) (⟨4, vC, k, qoy 0 ps⟩ :: qyr L 0 ps) T1 ->
  (∀ vC ps T1, ps.length = S -> Owns (T0.put id (stR S L v vC)) (⟨4, vC, S, qoy 0 ps⟩ :: qyr L 0 ps) T1 ->
   R (.exit 0) [(1, .lp 1 0), (3, .ptr id 0), (4, .i .i64 S), (16, .b false)] [(1, stC S L v)] T1) ->
  AW prog q9h R [(1, .lp 1 0), (3, .ptr id 0), (4, .i .i64 k)] [(1, stC S L v)] T1 := by
 intro m
 induction m with
 | zero =>
  intro k hk vC ps T1 hps how h2
  have : k = S := by omega
  subst this
  refine Q2 hR ?_
  unfold q8b
  simp -implicitDefEqProofs -dsimp only [go_sem, seval, stC, Int.lt_irrefl]
  exact h2 vC ps T1 hps how
 | succ m ih =>
  intro k hk vC ps T1 hps how h2
  have hlt : k < S := by omega
  have w0 : IntKind.u64.wrap (k : Int) = (k : Int) := IntWalk.u64_in _ (by omega)
  have w1 : IntKind.u64.wrap ((k : Int) + 1) = (k : Int) + 1 := IntWalk.u64_in _ (by omega)
  have w2 : IntKind.i64.wrap ((k : Int) + 1) = (k : Int) + 1 := by rw [K9 (by omega)]; simp
  refine O2 (l := q9h) rfl hR ?_
  unfold q8b
  simp -implicitDefEqProofs -dsimp only [go_sem, seval, Int.ofNat_lt, hlt, stC, w0, w1, w2]
  refine z35 (T0 := T0.put id (stR S L v vC)) (ows := ⟨4, vC, k, qoy 0 ps⟩ :: qyr L 0 ps) (by repeat' (first | exact N5 _ _ | assumption | apply N4 | apply K7 | apply U1)) (by omega) (by omega) hL hL8 L 0 (by omega) _ T1 ?_ (fun v1 T2 how => ?_)
  ·exact ⟨T1, how, .nil ..⟩
  have w0 : T2 id = stR S L v vC := by
   rw [how.base_get (by rw [Tab.put_same]; simp [stR]), Tab.put_same]
  obtain ⟨a1, a2, a3, a4, a5, a6⟩ := how.form (List.mem_cons_self ..)
  obtain ⟨c1, c2, c3, c4, c5, c6⟩ := how.form (List.mem_cons_of_mem _ (List.mem_cons_self ..))
  simp only at a1 a2 a3 a4 a5 a6 c1 c2 c3 c4 c5 c6
  simp -implicitDefEqProofs -dsimp only [go_sem, seval, w0, stR, a1, a2, a3, a4, a5, a6, c1, c2, c3, c4, c5, c6]
  have how' : Owns (T0.put id (stR S L v vC)) (⟨4, vC, k, qoy 0 ps⟩ :: ⟨2, v1, L, mem (chr k L L)⟩ :: qyr L 0 ps) T2 := how.perm (List.Perm.swap _ _ _)
  refine how'.app (m := 1) (news := zau k v1) (by simp [Z0, zau]) rfl (by simp only; omega) (by simp only; omega) fun vC' T3 how3 => J1 ?_
  have w0 : T3 id = stR S L v vC := by
   rw [how3.base_get (by rw [Tab.put_same]; simp [stR]), Tab.put_same]
  obtain ⟨c1, c2, c3, c4, c5, c6⟩ := how3.form (List.mem_cons_self ..)
  simp only at c1 c2 c3 c4 c5 c6
  simp -implicitDefEqProofs -dsimp only [go_sem, seval, w0, stR, c1, c2, c3, c4, c5, c6]
  refine q4h w0 c3 (by rw [c4]; rfl) (by simp) ?_
  refine J1 ?_
  simp -implicitDefEqProofs -dsimp only [go_sem, seval, w0, stR, c1, c2, c3, c4, c5, c6, w2]
  refine ih (k + 1) (by omega) vC' (ps ++ [v1]) _ (by simp [hps]) ?_ h2
  have hb := how3.base_put (id := id) (s := stR S L v vC') (by rw [Tab.put_same]; simp [stR])
  rw [Tab.put_put] at hb
  rw [qrw, quc, hps, Nat.zero_add]
  refine Owns.perm ?_ hb
  refine List.Perm.cons _ ?_
  exact (List.perm_append_comm (l₁ := [_]) (l₂ := qyr L 0 ps))
def zcu (T0 : Tab) (S L : Nat) (v : Int) (r : AV) (T' : Tab) : Prop := ∃ id vC ps, r = .ptr id 0 /\ T0 id = .unused /\ ps.length = S /\ Owns (T0.put id (stR S L v vC)) (⟨4, vC, S, qoy 0 ps⟩ :: qyr L 0 ps) T'
theorem z5z {T0 : Tab} {S L : Nat} {v : Int} (h : sok S L v = true) : ACalls prog q6l [.agg (stC S L v)] T0 (zcu T0 S L v) := by
 refine U9 Q7 qma (by simp) ?_
 have hh := of_decide_eq_true h
 have w1 : IntKind.u64.wrap (S : Int) = S := IntWalk.u64_in _ (by omega)
 unfold qe5
 simp -implicitDefEqProofs -dsimp only [go_sem, seval, stC, w1]
 refine fun id hid => J1 ?_
 simp -implicitDefEqProofs -dsimp only [go_sem, seval]
 refine z36 (T0 := T0) (id := id) (by repeat' (first | exact N5 _ _ | assumption | apply N4 | apply K7 | apply U1)) hid (by omega) (by omega) (by omega) (by omega) S 0 (by omega) (.fz 0 [] (some 0)) [] _ rfl ?_ (fun vC ps T1 hps how => ?_)
 ·exact ⟨_, rfl, .nil ..⟩
 ·simp -implicitDefEqProofs -dsimp only [go_sem, seval]
  exact V1 T1 (fun _ => .inr (.inl rfl)) ⟨id, vC, ps, rfl, hid, hps, how⟩
end Go.Aw
namespace Go.Aw
open Go
open Go.Proofs.Tryz (prog)
set_option linter.all false
set_option maxHeartbeats 4000000
theorem qqd : ∀ (ps : List (AV × AV)) (k : Nat), (qqs k ps).length = ps.length * 5
 | [], _ => rfl
 | p :: ps, k => by simp only [qqs, List.length_append, qqd ps (k + 1), List.length_cons]; simp [cel]; omega
theorem z0h : ∀ (ps : List (AV × AV)) (j i : Nat) {p : AV × AV}, ps[i]? = some p -> (qqs j ps).drop (i * 5) = cel (j + i) p.1 p.2 ++ qqs (j + i + 1) (ps.drop (i + 1))
 | [], _, _, _, h => by simp at h
 | q :: ps, j, 0, p, h => by simp at h; subst h; simp [qqs]
 | q :: ps, j, i + 1, p, h => by
  have := z0h ps (j + 1) i (p := p) (by simpa using h)
  rw [show (i + 1) * 5 = i * 5 + 5 by omega]
  simp only [qqs]
  rw [show i * 5 + 5 = (cel j q.1 q.2).length + i * 5 by simp [cel]; omega, List.drop_length_add_append, this, show j + 1 + i = j + (i + 1) by omega, List.drop_succ_cons]
def cf0 (L k : Nat) : Cf := ⟨(k : Int) + 1, k, chn k L L, qwz L, -1⟩
def qk1 (l : List Cf) : List AV := l.flatMap fun c => c.cells none none
def qt0 (L k : Nat) : List Cf := (List.range k).map (cf0 L)
theorem z0i (L k : Nat) : qt0 L (k + 1) = qt0 L k ++ [cf0 L k] := by simp [qt0, List.range_succ]
theorem qvx (l m : List Cf) : qk1 (l ++ m) = qk1 l ++ qk1 m := by simp [qk1]
theorem qll (l : List Cf) : (qk1 l).length = l.length * 5 := by
 induction l with
 | nil => rfl
 | cons c l ih => simp only [qk1, List.flatMap_cons, List.length_append, List.length_cons] at *; rw [ih]; simp [Cf.cells]; omega
theorem z37 {R : Y5} (hR : ExtR R) {Tb : Tab} {idC S L : Nat} (hS4 : S <= 4) (hL : 1 <= L) (hL8 : L <= 8) {ps : List (AV × AV)} (hps : ps.length = S) : ∀ (qs : List (AV × AV)) (k : Nat), ps.drop k = qs -> k <= S -> ∀ out T1,
  Owns Tb (⟨5, out, k, qk1 (qt0 L k)⟩ :: ⟨5, .sl idC 0 S none, S, qqs 0 ps⟩ :: quz L k qs) T1 ->
  (∀ out T1, Owns Tb [⟨5, out, S, qk1 (qt0 L S)⟩, ⟨5, .sl idC 0 S none, S, qqs 0 ps⟩] T1 -> R (.exit 0) [(3, out), (11, .sl idC 0 S none), (12, .i .i64 S), (13, .i .i64 S), (14, .b false)] [] T1) ->
  AW prog q8f R [(3, out), (11, .sl idC 0 S none), (12, .i .i64 S), (13, .i .i64 k)] [] T1 := by
 intro qs
 induction qs with
 | nil =>
  intro k hk hle out T1 how h2
  have hk' : S = k := by have := List.drop_eq_nil_iff.1 hk; omega
  subst hk'
  refine Q2 hR ?_
  unfold q73
  simp -implicitDefEqProofs -dsimp only [go_sem, seval, Int.lt_irrefl]
  exact h2 out T1 how
 | cons q qs ih =>
  intro k hk hle out T1 how h2
  obtain ⟨hlt, hy, hk'⟩ := Q5 hk
  obtain ⟨p1, p2, p3, p4, p5, p6⟩ := how.form (List.mem_cons_self ..)
  simp only at p1 p2 p3 p4 p5 p6
  obtain ⟨i', e1, e2, _⟩ := how.get (a := ⟨5, .sl idC 0 S none, S, qqs 0 ps⟩) (List.mem_cons_of_mem _ (List.mem_cons_self ..)) (by simp only; omega)
  injection e1 with e1
  subst e1
  have hcel := z0h ps 0 k hy
  rw [Nat.zero_add] at hcel
  simp only at e2
  refine O2 (l := q8f) rfl hR ?_
  unfold q73
  simp -implicitDefEqProofs -dsimp only [go_sem, seval, Int.ofNat_lt, hps ▸ hlt, Int.natCast_nonneg, Int.toNat_natCast, p1, p2, p3, p4, p5, p6]
  obtain ⟨a1, a2, a3, a4, a5, a6⟩ := how.form (a := ⟨1, q.1, L, q9k (chn k L L)⟩) (by simp [quz])
  obtain ⟨b1, b2, b3, b4, b5, b6⟩ := how.form (a := ⟨1, q.2, L, q34 (qwz L)⟩) (by simp [quz])
  simp only at a1 a2 a3 a4 a5 a6 b1 b2 b3 b4 b5 b6
  have hle5 : k * 5 + 5 <= (qqs 0 ps).length := by rw [qqd]; omega
  simp -implicitDefEqProofs -dsimp only [go_sem, seval, e2, hcel, cel, hle5, a1, a2, a3, a4, a5, a6, b1, b2, b3, b4, b5, b6, p1, p2, p3, p4, p5, p6, List.cons_append, List.nil_append, ↓J0 _ _ qr3]
  have how2 : Owns Tb (⟨1, q.1, L, q9k (chn k L L)⟩ :: ⟨1, q.2, L, q34 (qwz L)⟩ :: ⟨5, out, k, qk1 (qt0 L k)⟩ :: ⟨5, .sl idC 0 S none, S, qqs 0 ps⟩ :: quz L (k + 1) qs) T1 :=
   how.perm (by simp only [quz]; exact (List.perm_append_comm (l₁ := [_, _]) (l₂ := [_, _])).append_right _)
  refine CallK.frz2 (r := .agg ((cf0 L k).cells none none)) how2 hL hL (fun q1 q2 => ?_) (fun T2 how2 => J1 ?_)
  ·have := qy2 (cf0 L k) q1 q2 (by simp [cf0, chn]; omega) (by simp [cf0, qwz]; omega)
   simpa [Cf.cells, cf0, z0e, z33] using this
  have w2 : IntKind.i64.wrap ((k : Int) + 1) = ((k + 1 : Nat) : Int) := K9 (by omega)
  simp -implicitDefEqProofs -dsimp only [go_sem, seval, Cf.cells, p1, p2, p3, p4, p5, p6]
  refine how2.app (m := 1) (news := (cf0 L k).cells none none) (by simp [Z0, Cf.cells]) rfl (by simp only; omega) (by simp only; omega) fun out' T3 how3 => J1 ?_
  obtain ⟨p1, p2, p3, p4, p5, p6⟩ := how3.form (List.mem_cons_self ..)
  simp only at p1 p2 p3 p4 p5 p6
  simp -implicitDefEqProofs -dsimp only [go_sem, seval, w2, p1, p2, p3, p4, p5, p6]
  refine ih (k + 1) hk' (by omega) _ _ ?_ h2
  rw [z0i, qvx]
  simpa [qk1] using how3
theorem z38 {T0 Tb T1 : Tab} {id S L : Nat} {v : Int} {vC : AV} {ps : List (AV × AV)} (hb : Tb = T0.put id (stR S L v vC)) (hid : T0 id = .unused) (hS : 1 <= S) (hS4 : S <= 4) (hL : 1 <= L) (hL8 : L <= 8) (hps : ps.length = S)
  (how : Owns Tb (⟨5, vC, S, qqs 0 ps⟩ :: quz L 0 ps) T1) : ACalls prog q52 [.ptr id 0] T1 (fun r T' => Own T0 5 r S (qk1 (qt0 L S)) T') := by
 refine U9 Q7 qks (by simp) ?_
 obtain ⟨idC, e1, e2, _⟩ := how.get (List.mem_cons_self ..) (by simp only; omega)
 simp only at e1 e2
 subst e1
 have e3 : T1 id = stR S L v (.sl idC 0 S none) := by
  rw [how.base_get (by rw [hb, Tab.put_same]; simp [stR]), hb, Tab.put_same]
 unfold qcq
 simp -implicitDefEqProofs -dsimp only [go_sem, seval, e3, stR]
 refine z37 (Tb := Tb) (ps := ps) (by repeat' (first | exact N5 _ _ | assumption | apply N4 | apply K7 | apply U1)) hS4 hL hL8 hps ps 0 rfl (by omega) (.fz 0 [] (some 0)) T1 ?_ (fun out T2 how2 => ?_)
 ·exact ⟨T1, how, .nil ..⟩
 obtain ⟨p1, p2, p3, p4, p5, p6⟩ := how2.form (List.mem_cons_self ..)
 simp only at p1 p2 p3 p4 p5 p6
 simp -implicitDefEqProofs -dsimp only [go_sem, seval, p1, p2, p3, p4, p5, p6]
 obtain ⟨T3, ⟨T4, e4, hx, hC⟩, hy, hO⟩ := how2
 have h4 : T4 = Tb := e4
 subst h4
 rcases hC with ⟨_, e, _⟩ | ⟨iC, eC, hiC, h3⟩
 ·simp only at e; omega
 rcases hO with ⟨_, e, _⟩ | ⟨iO, eO, hiO, h2⟩
 ·simp only at e; omega
 simp only at eO hiO h2 h3 hy
 rw [hb] at hiC
 obtain ⟨n1, u1⟩ := Tab.unused_put hiC
 rw [h3] at hiO
 obtain ⟨n2, u2⟩ := Tab.unused_put hiO
 rw [hb] at u2
 obtain ⟨n3, u3⟩ := Tab.unused_put u2
 refine V1 (T0.put iO (.row 5 (qk1 (qt0 L S)))) (fun j => ?_) ⟨hy, .inr ⟨iO, eO, u3, rfl⟩⟩
 rw [h2]
 by_cases j1 : j = iO
 ·subst j1; rw [Tab.put_same, Tab.put_same]; exact .refl _
 ·rw [Tab.put_ne _ _ j1, Tab.put_ne _ _ j1, h3]
  by_cases j2 : j = iC
  ·subst j2; exact .inl u1
  ·rw [Tab.put_ne _ _ j2, hb]
   by_cases j3 : j = id
   ·subst j3; exact .inl hid
   ·rw [Tab.put_ne _ _ j3]; exact .refl _
end Go.Aw
