import Derived.Test.YtnkagdjmjakeiaaGreatDoorV22R28H
namespace Go.Aw
open Go
open Go.Proofs.Tryz (prog)
set_option linter.all false
set_option maxHeartbeats 4000000
def chn (k l : Int) (n : Nat) : List Int := (List.range n).map fun (i : Nat) => k * l + (i : Int)
theorem qpk (k l : Int) (n : Nat) : chn k l (n + 1) = chn k l n ++ [k * l + n] := by simp [chn, List.range_succ]
theorem qg8 (k l : Int) (n : Nat) : (chn k l n).length = n := by simp [chn]
def qlb (n : Nat) : List Bool := List.replicate n true
theorem qnh (n : Nat) : qlb (n + 1) = qlb n ++ [true] := by simp [qlb, List.replicate_succ']
theorem qju (n : Nat) : (qlb n).length = n := by simp [qlb]
theorem qrv {k l i : Int} (h1 : 0 <= k) (h2 : k <= 4) (h3 : 1 <= l) (h4 : l <= 8) (h5 : 0 <= i) (h6 : i <= 8) : IntKind.i64.wrap (k * l) = k * l /\ IntKind.i64.wrap (k * l + i) = k * l + i := by
 have a1 : k * l <= 4 * 8 := Int.mul_le_mul h2 h4 (by omega) (by omega)
 have a2 : 0 <= k * l := Int.mul_nonneg (by omega) (by omega)
 exact ⟨q2k (by unfold I64; omega), q2k (by unfold I64; omega)⟩
theorem qrw {R : Y5} (hR : ExtR R) {T0 : Tab} {id : Nat} {s v k e : Int} {L : Nat} {ows : List Ow} (hk : 0 <= k) (hk4 : k <= 4) (hL : 1 <= L) (hL8 : L <= 8) : ∀ (m i : Nat), i + m = L -> ∀ v1 v2 T1,
  Owns T0 (⟨1, v1, i, q38 (chn k L i)⟩ :: ⟨1, v2, i, G4 (qlb i)⟩ :: ows) T1 ->
  (∀ v1 v2 T1, Owns T0 (⟨1, v1, L, q38 (chn k L L)⟩ :: ⟨1, v2, L, G4 (qlb L)⟩ :: ows) T1 ->
   R (.exit 2) [(1, .lp 1 0), (3, .ptr id 0), (4, .i .i64 k), (5, .lp 5 0), (17, .i .i64 s), (18, .i .i64 k), (27, .i .i64 L), (28, .i .i64 L), (29, .b false)] [(1, stC s L v), (5, [.i .u64 e, .i .i64 k, v1, v2, .i .i64 (-1)])] T1) ->
  AW prog q70 R [(1, .lp 1 0), (3, .ptr id 0), (4, .i .i64 k), (5, .lp 5 0), (17, .i .i64 s), (18, .i .i64 k), (27, .i .i64 L), (28, .i .i64 i)] [(1, stC s L v), (5, [.i .u64 e, .i .i64 k, v1, v2, .i .i64 (-1)])] T1 := by
 intro m
 induction m with
 | zero =>
  intro i hi v1 v2 T1 how h2
  have : i = L := by omega
  subst this
  refine G9 hR ?_
  unfold q5y
  simp -implicitDefEqProofs -dsimp only [go_sem, seval, Int.lt_irrefl]
  exact h2 v1 v2 T1 how
 | succ m ih =>
  intro i hi v1 v2 T1 how h2
  have hlt : i < L := by omega
  obtain ⟨p1, p2, p3, p4, p5, p6⟩ := how.form (List.mem_cons_self ..)
  obtain ⟨q1, q2, q3, q4, q5, q6⟩ := how.form (List.mem_cons_of_mem _ (List.mem_cons_self ..))
  simp only at p1 p2 p3 p4 p5 p6 q1 q2 q3 q4 q5 q6
  obtain ⟨w1, w2⟩ := qrv (k := k) (l := (L : Int)) (i := i) hk hk4 (by omega) (by omega) (by omega) (by omega)
  refine Q7 (l := q70) rfl hR ?_
  unfold q5y
  simp -implicitDefEqProofs -dsimp only [go_sem, seval, Int.ofNat_lt, hlt, stC, w1, w2, p1, p2, p3, p4, p5, p6, q1, q2, q3, q4, q5, q6]
  refine how.app (m := 1) (news := q38 [k * L + i]) (by simp [N4, q38]) rfl (by simp only; omega) (by simp only; omega) fun v1' T2 how => J5 ?_
  obtain ⟨p1, p2, p3, p4, p5, p6⟩ := how.form (List.mem_cons_self ..)
  simp only at p1 p2 p3 p4 p5 p6
  simp -implicitDefEqProofs -dsimp only [go_sem, seval, p1, p2, p3, p4, p5, p6, q1, q2, q3, q4, q5, q6]
  refine how.swap.app (m := 1) (news := G4 [true]) (by simp [N4, G4]) rfl (by simp only; omega) (by simp only; omega) fun v2' T3 how => J5 ?_
  obtain ⟨q1, q2, q3, q4, q5, q6⟩ := how.form (List.mem_cons_self ..)
  simp only at q1 q2 q3 q4 q5 q6
  simp -implicitDefEqProofs -dsimp only [go_sem, seval, p1, p2, p3, p4, p5, p6, q1, q2, q3, q4, q5, q6]
  rw [Q0 (by omega)]
  refine ih (i + 1) (by omega) _ _ _ ?_ h2
  rw [qpk, qnh, <- qcw, <- qbp]
  exact how.swap
def cel (k : Nat) (v1 v2 : AV) : List AV := [.i .u64 ((k : Int) + 1), .i .i64 k, v1, v2, .i .i64 (-1)]
def qkw (L : Nat) : Nat -> List (AV × AV) -> List Ow
 | _, [] => []
 | k, p :: ps => ⟨1, p.1, L, q38 (chn k L L)⟩ :: ⟨1, p.2, L, G4 (qlb L)⟩ :: qkw L (k + 1) ps
def qkx : Nat -> List (AV × AV) -> List AV
 | _, [] => []
 | k, p :: ps => cel k p.1 p.2 ++ qkx (k + 1) ps
theorem qhh (L : Nat) (v1 v2 : AV) : ∀ (ps : List (AV × AV)) (k : Nat), qkw L k (ps ++ [(v1, v2)]) = qkw L k ps ++ [⟨1, v1, L, q38 (chn ((k + ps.length : Nat) : Int) L L)⟩, ⟨1, v2, L, G4 (qlb L)⟩]
 | [], k => rfl
 | p :: ps, k => by
  simp only [qkw, List.cons_append]
  rw [qhh L v1 v2 ps (k + 1), List.length_cons, show k + 1 + ps.length = k + (ps.length + 1) by omega]
theorem qhi (v1 v2 : AV) : ∀ (ps : List (AV × AV)) (k : Nat), qkx k (ps ++ [(v1, v2)]) = qkx k ps ++ cel (k + ps.length) v1 v2
 | [], k => by simp [qkx]
 | p :: ps, k => by
  simp only [qkx, List.cons_append]
  rw [qhi v1 v2 ps (k + 1), List.length_cons, show k + 1 + ps.length = k + (ps.length + 1) by omega, List.append_assoc]
def stR (s l v : Int) (vC : AV) : Slot := .row 6 [.i .i64 s, .i .i64 l, .i .i64 v, .i .i64 0, .i .u64 s, vC]
theorem qrx {R : Y5} (hR : ExtR R) {T0 : Tab} {id : Nat} {v : Int} {S L : Nat} (hid : T0 id = .unused) (hS : 1 <= S) (hS4 : S <= 4) (hL : 1 <= L) (hL8 : L <= 8) : ∀ (m k : Nat), k + m = S -> ∀ vC ps T1, ps.length = k ->
  Owns (T0.put id (stR S L v vC)) (⟨5, vC, k, qkx 0 ps⟩ :: qkw L 0 ps) T1 ->
  (∀ vC ps T1, ps.length = S -> Owns (T0.put id (stR S L v vC)) (⟨5, vC, S, qkx 0 ps⟩ :: qkw L 0 ps) T1 ->
   R (.exit 0) [(1, .lp 1 0), (3, .ptr id 0), (17, .i .i64 S), (18, .i .i64 S), (19, .b false)] [(1, stC S L v)] T1) ->
  AW prog q71 R [(1, .lp 1 0), (3, .ptr id 0), (17, .i .i64 S), (18, .i .i64 k)] [(1, stC S L v)] T1 := by
 intro m
 induction m with
 | zero =>
  intro k hk vC ps T1 hps how h2
  have : k = S := by omega
  subst this
  refine G9 hR ?_
  unfold q5z
  simp -implicitDefEqProofs -dsimp only [go_sem, seval, Int.lt_irrefl]
  exact h2 vC ps T1 hps how
 | succ m ih =>
  intro k hk vC ps T1 hps how h2
  have hlt : k < S := by omega
  have w1 : IntKind.u64.wrap ((k : Int) + 1) = (k : Int) + 1 := IntWalk.u64_in _ (by omega)
  have w2 : IntKind.i64.wrap ((k : Int) + 1) = (k : Int) + 1 := by rw [Q0 (by omega)]; simp
  refine Q7 (l := q71) rfl hR ?_
  unfold q5z
  simp -implicitDefEqProofs -dsimp only [go_sem, seval, Int.ofNat_lt, hlt, stC, w1, w2]
  refine qrw (T0 := T0.put id (stR S L v vC)) (ows := ⟨5, vC, k, qkx 0 ps⟩ :: qkw L 0 ps) (by repeat' (first | exact O6 _ _ | assumption | apply O5 | apply N2 | apply Z8)) (by omega) (by omega) hL hL8 L 0 (by omega) _ _ T1 ?_ (fun v1 v2 T2 how => ?_)
  ·exact ⟨T1, ⟨T1, how, .nil ..⟩, .nil ..⟩
  have w0 : T2 id = stR S L v vC := by
   rw [how.base_get (by rw [Tab.put_same]; simp [stR]), Tab.put_same]
  obtain ⟨a1, a2, a3, a4, a5, a6⟩ := how.form (List.mem_cons_self ..)
  obtain ⟨b1, b2, b3, b4, b5, b6⟩ := how.form (List.mem_cons_of_mem _ (List.mem_cons_self ..))
  obtain ⟨c1, c2, c3, c4, c5, c6⟩ := how.form (List.mem_cons_of_mem _ (List.mem_cons_of_mem _ (List.mem_cons_self ..)))
  simp only at a1 a2 a3 a4 a5 a6 b1 b2 b3 b4 b5 b6 c1 c2 c3 c4 c5 c6
  simp -implicitDefEqProofs -dsimp only [go_sem, seval, w0, stR, a1, a2, a3, a4, a5, a6, b1, b2, b3, b4, b5, b6, c1, c2, c3, c4, c5, c6]
  have how' : Owns (T0.put id (stR S L v vC)) (⟨5, vC, k, qkx 0 ps⟩ :: ⟨1, v1, L, q38 (chn k L L)⟩ :: ⟨1, v2, L, G4 (qlb L)⟩ :: qkw L 0 ps) T2 := how.perm (by
   refine List.Perm.trans (List.Perm.cons _ (List.Perm.swap _ _ _)) (List.Perm.swap _ _ _))
  refine how'.app (m := 1) (news := cel k v1 v2) (by simp [N4, cel]) rfl (by simp only; omega) (by simp only; omega) fun vC' T3 how3 => J5 ?_
  have w0 : T3 id = stR S L v vC := by
   rw [how3.base_get (by rw [Tab.put_same]; simp [stR]), Tab.put_same]
  obtain ⟨c1, c2, c3, c4, c5, c6⟩ := how3.form (List.mem_cons_self ..)
  simp only at c1 c2 c3 c4 c5 c6
  simp -implicitDefEqProofs -dsimp only [go_sem, seval, w0, stR, c1, c2, c3, c4, c5, c6]
  refine q3i w0 c3 (by rw [c4]; rfl) (by simp) ?_
  refine J5 ?_
  simp -implicitDefEqProofs -dsimp only [go_sem, seval, w0, stR, c1, c2, c3, c4, c5, c6, w2]
  refine ih (k + 1) (by omega) vC' (ps ++ [(v1, v2)]) _ (by simp [hps]) ?_ h2
  have hb := how3.base_put (id := id) (s := stR S L v vC') (by rw [Tab.put_same]; simp [stR])
  rw [Tab.put_put] at hb
  rw [qhi, qhh, hps, Nat.zero_add]
  refine Owns.perm ?_ hb
  refine List.Perm.cons _ ?_
  exact (List.perm_append_comm (l₁ := [_, _]) (l₂ := qkw L 0 ps))
end Go.Aw
namespace Go.Aw
open Go
open Go.Proofs.Tryz (prog)
set_option linter.all false
set_option maxHeartbeats 4000000
theorem qdl : ∀ (ps : List (AV × AV)) (k : Nat), (qkx k ps).length = ps.length * 5
 | [], _ => rfl
 | p :: ps, k => by simp only [qkx, List.length_append, qdl ps (k + 1), List.length_cons]; simp [cel]; omega
def cf0 (L k : Nat) : Cf := ⟨(k : Int) + 1, k, chn k L L, qlb L, -1⟩
def q3f (l : List Cf) : List AV := l.flatMap fun c => c.cells none none
def qry (L k : Nat) : List Cf := (List.range k).map (cf0 L)
theorem qj1 (l m : List Cf) : q3f (l ++ m) = q3f l ++ q3f m := by simp [q3f]
theorem I2 (l : List Cf) : (q3f l).length = l.length * 5 := by
 induction l with
 | nil => rfl
 | cons c l ih => simp only [q3f, List.flatMap_cons, List.length_append, List.length_cons] at *; rw [ih]; simp [Cf.cells]; omega
end Go.Aw
namespace Go.Aw
open Go
open Go.Proofs.Tryz (prog)
set_option linter.all false
set_option maxHeartbeats 4000000
def Rt (T : Tab) (id idL : Nat) (l : List Cf) : Prop := T id = .row 1 [.sl idL 0 l.length none] /\ T idL = .row 5 (q3f l)
theorem Rt.ne {T : Tab} {id idL : Nat} {l : List Cf} (h : Rt T id idL l) : id ≠ idL := fun e => by
 have := h.1; rw [e, h.2] at this; cases this
def Cf.nil : Cf := ⟨0, 0, [], [], 0⟩
def at? (l : List Cf) (k : Int) : Option Cf := if 0 <= k then l[k.toNat]? else none
def cfR (l : List Cf) (k : Int) : AV := match at? l k with
 | some c => .tup [.agg (c.cells none none), .b true]
 | none => .tup [.agg (Cf.nil.cells (some 0) (some 0)), .b false]
def qaq (c : Cf) : Prop := c.ch.length <= 1000000000 /\ c.fu.length <= 1000000000
theorem q7j {l : List Cf} {k : Nat} {c : Cf} (h : l[k]? = some c) : (q3f l).drop (k * 5) = c.cells none none ++ q3f (l.drop (k + 1)) := by
 induction l generalizing k with
 | nil => simp at h
 | cons a l ih =>
  cases k with
  | zero => simp at h; subst h; simp [q3f]
  | succ k =>
   have := ih (k := k) (by simpa using h)
   have e : q3f (a :: l) = a.cells none none ++ q3f l := by simp [q3f]
   have e5 : (a.cells none none).length = 5 := rfl
   rw [e, List.drop_succ_cons, <- this, show (k + 1) * 5 = (a.cells none none).length + k * 5 by omega, List.drop_length_add_append]
theorem qpl {l : List Cf} {k : Nat} (h : k < l.length) (c : Cf) : N6 (q3f l) (k * 5) (c.cells none none) = q3f (l.set k c) := by
 induction l generalizing k with
 | nil => simp at h
 | cons a l ih =>
  have e : ∀ (a : Cf) (l : List Cf), q3f (a :: l) = a.cells none none ++ q3f l := fun a l => by simp [q3f]
  cases k with
  | zero => simp [e, N6, Cf.cells]
  | succ k =>
   have := ih (k := k) (by simpa using h)
   simp only [N6] at this ⊢
   rw [List.set_cons_succ, e, e, <- this]
   have e5 : (a.cells none none).length = 5 := rfl
   rw [show (k + 1) * 5 = (a.cells none none).length + k * 5 by omega, List.take_length_add_append, Nat.add_assoc, List.drop_length_add_append]
   simp only [List.append_assoc]
end Go.Aw
