import Derived.Test.YtnkagdjmjakeiaaGreatDoorV22R28H
namespace Go.Aw
open Go
open Go.Proofs.Tryz (prog)
set_option linter.all false
set_option maxHeartbeats 4000000
def chn (k l : Int) (n : Nat) : List Int := (List.range n).map fun (i : Nat) => k * l + (i : Int)
theorem qtx (k l : Int) (n : Nat) : chn k l (n + 1) = chn k l n ++ [k * l + n] := by simp [chn, List.range_succ]
theorem qjw (k l : Int) (n : Nat) : (chn k l n).length = n := by simp [chn]
def qll (n : Nat) : List Bool := List.replicate n true
theorem qrm (n : Nat) : qll (n + 1) = qll n ++ [true] := by simp [qll, List.replicate_succ']
theorem qny (n : Nat) : (qll n).length = n := by simp [qll]
theorem qrn {k l i : Int} (h1 : 0 <= k) (h2 : k <= 4) (h3 : 1 <= l) (h4 : l <= 8) (h5 : 0 <= i) (h6 : i <= 8) : IntKind.i64.wrap (k * l) = k * l /\ IntKind.i64.wrap (k * l + i) = k * l + i := by
 have a1 : k * l <= 4 * 8 := Int.mul_le_mul h2 h4 (by omega) (by omega)
 have a2 : 0 <= k * l := Int.mul_nonneg (by omega) (by omega)
 exact ⟨V8 (by unfold I64; omega), V8 (by unfold I64; omega)⟩
theorem qwl {R : U6} (hR : ExtR R) {T0 : Tab} {id : Nat} {s v k e : Int} {L : Nat} {ows : List Ow} (hk : 0 <= k) (hk4 : k <= 4) (hL : 1 <= L) (hL8 : L <= 8) : ∀ (m i : Nat), i + m = L -> ∀ v1 v2 T1,
  Owns T0 (⟨1, v1, i, q5k (chn k L i)⟩ :: ⟨1, v2, i, q1v (qll i)⟩ :: ows) T1 ->
  (∀ v1 v2 T1, Owns T0 (⟨1, v1, L, q5k (chn k L L)⟩ :: ⟨1, v2, L, q1v (qll L)⟩ :: ows) T1 ->
   R (.exit 2) [(1, .lp 1 0), (3, .ptr id 0), (4, .i .i64 k), (5, .lp 5 0), (17, .i .i64 s), (18, .i .i64 k), (27, .i .i64 L), (28, .i .i64 L), (29, .b false)] [(1, stC s L v), (5, [.i .u64 e, .i .i64 k, v1, v2, .i .i64 (-1)])] T1) ->
  AW prog q9j R [(1, .lp 1 0), (3, .ptr id 0), (4, .i .i64 k), (5, .lp 5 0), (17, .i .i64 s), (18, .i .i64 k), (27, .i .i64 L), (28, .i .i64 i)] [(1, stC s L v), (5, [.i .u64 e, .i .i64 k, v1, v2, .i .i64 (-1)])] T1 := by
 intro m
 induction m with
 | zero =>
  intro i hi v1 v2 T1 how h2
  have : i = L := by omega
  subst this
  refine U8 hR ?_
  unfold q8c
  simp -implicitDefEqProofs -dsimp only [go_sem, seval, Int.lt_irrefl]
  exact h2 v1 v2 T1 how
 | succ m ih =>
  intro i hi v1 v2 T1 how h2
  have hlt : i < L := by omega
  obtain ⟨p1, p2, p3, p4, p5, p6⟩ := how.form (List.mem_cons_self ..)
  obtain ⟨q1, q2, q3, q4, q5, q6⟩ := how.form (List.mem_cons_of_mem _ (List.mem_cons_self ..))
  simp only at p1 p2 p3 p4 p5 p6 q1 q2 q3 q4 q5 q6
  obtain ⟨w1, w2⟩ := qrn (k := k) (l := (L : Int)) (i := i) hk hk4 (by omega) (by omega) (by omega) (by omega)
  refine O4 (l := q9j) rfl hR ?_
  unfold q8c
  simp -implicitDefEqProofs -dsimp only [go_sem, seval, Int.ofNat_lt, hlt, stC, w1, w2, p1, p2, p3, p4, p5, p6, q1, q2, q3, q4, q5, q6]
  refine how.app (m := 1) (news := q5k [k * L + i]) (by simp [N2, q5k]) rfl (by simp only; omega) (by simp only; omega) fun v1' T2 how => J3 ?_
  obtain ⟨p1, p2, p3, p4, p5, p6⟩ := how.form (List.mem_cons_self ..)
  simp only at p1 p2 p3 p4 p5 p6
  simp -implicitDefEqProofs -dsimp only [go_sem, seval, p1, p2, p3, p4, p5, p6, q1, q2, q3, q4, q5, q6]
  refine how.swap.app (m := 1) (news := q1v [true]) (by simp [N2, q1v]) rfl (by simp only; omega) (by simp only; omega) fun v2' T3 how => J3 ?_
  obtain ⟨q1, q2, q3, q4, q5, q6⟩ := how.form (List.mem_cons_self ..)
  simp only at q1 q2 q3 q4 q5 q6
  simp -implicitDefEqProofs -dsimp only [go_sem, seval, p1, p2, p3, p4, p5, p6, q1, q2, q3, q4, q5, q6]
  rw [O0 (by omega)]
  refine ih (i + 1) (by omega) _ _ _ ?_ h2
  rw [qtx, qrm, <- qgl, <- qf9]
  exact how.swap
def cel (k : Nat) (v1 v2 : AV) : List AV := [.i .u64 ((k : Int) + 1), .i .i64 k, v1, v2, .i .i64 (-1)]
def qp3 (L : Nat) : Nat -> List (AV × AV) -> List Ow
 | _, [] => []
 | k, p :: ps => ⟨1, p.1, L, q5k (chn k L L)⟩ :: ⟨1, p.2, L, q1v (qll L)⟩ :: qp3 L (k + 1) ps
def qp4 : Nat -> List (AV × AV) -> List AV
 | _, [] => []
 | k, p :: ps => cel k p.1 p.2 ++ qp4 (k + 1) ps
theorem ql9 (L : Nat) (v1 v2 : AV) : ∀ (ps : List (AV × AV)) (k : Nat), qp3 L k (ps ++ [(v1, v2)]) = qp3 L k ps ++ [⟨1, v1, L, q5k (chn ((k + ps.length : Nat) : Int) L L)⟩, ⟨1, v2, L, q1v (qll L)⟩]
 | [], k => rfl
 | p :: ps, k => by
  simp only [qp3, List.cons_append]
  rw [ql9 L v1 v2 ps (k + 1), List.length_cons, show k + 1 + ps.length = k + (ps.length + 1) by omega]
theorem qla (v1 v2 : AV) : ∀ (ps : List (AV × AV)) (k : Nat), qp4 k (ps ++ [(v1, v2)]) = qp4 k ps ++ cel (k + ps.length) v1 v2
 | [], k => by simp [qp4]
 | p :: ps, k => by
  simp only [qp4, List.cons_append]
  rw [qla v1 v2 ps (k + 1), List.length_cons, show k + 1 + ps.length = k + (ps.length + 1) by omega, List.append_assoc]
def stR (s l v : Int) (vC : AV) : Slot := .row 6 [.i .i64 s, .i .i64 l, .i .i64 v, .i .i64 0, .i .u64 s, vC]
theorem qwm {R : U6} (hR : ExtR R) {T0 : Tab} {id : Nat} {v : Int} {S L : Nat} (hid : T0 id = .unused) (hS : 1 <= S) (hS4 : S <= 4) (hL : 1 <= L) (hL8 : L <= 8) : ∀ (m k : Nat), k + m = S -> ∀ vC ps T1, ps.length = k ->
  Owns (T0.put id (stR S L v vC)) (⟨5, vC, k, qp4 0 ps⟩ :: qp3 L 0 ps) T1 ->
  (∀ vC ps T1, ps.length = S -> Owns (T0.put id (stR S L v vC)) (⟨5, vC, S, qp4 0 ps⟩ :: qp3 L 0 ps) T1 ->
   R (.exit 0) [(1, .lp 1 0), (3, .ptr id 0), (17, .i .i64 S), (18, .i .i64 S), (19, .b false)] [(1, stC S L v)] T1) ->
  AW prog q9k R [(1, .lp 1 0), (3, .ptr id 0), (17, .i .i64 S), (18, .i .i64 k)] [(1, stC S L v)] T1 := by
 intro m
 induction m with
 | zero =>
  intro k hk vC ps T1 hps how h2
  have : k = S := by omega
  subst this
  refine U8 hR ?_
  unfold q8d
  simp -implicitDefEqProofs -dsimp only [go_sem, seval, Int.lt_irrefl]
  exact h2 vC ps T1 hps how
 | succ m ih =>
  intro k hk vC ps T1 hps how h2
  have hlt : k < S := by omega
  have w1 : IntKind.u64.wrap ((k : Int) + 1) = (k : Int) + 1 := IntWalk.u64_in _ (by omega)
  have w2 : IntKind.i64.wrap ((k : Int) + 1) = (k : Int) + 1 := by rw [O0 (by omega)]; simp
  refine O4 (l := q9k) rfl hR ?_
  unfold q8d
  simp -implicitDefEqProofs -dsimp only [go_sem, seval, Int.ofNat_lt, hlt, stC, w1, w2]
  refine qwl (T0 := T0.put id (stR S L v vC)) (ows := ⟨5, vC, k, qp4 0 ps⟩ :: qp3 L 0 ps) (by repeat' (first | exact N8 _ _ | assumption | apply N7 | apply N0 | apply V0)) (by omega) (by omega) hL hL8 L 0 (by omega) _ _ T1 ?_ (fun v1 v2 T2 how => ?_)
  ·exact ⟨T1, ⟨T1, how, .nil ..⟩, .nil ..⟩
  have w0 : T2 id = stR S L v vC := by
   rw [how.base_get (by rw [Tab.put_same]; simp [stR]), Tab.put_same]
  obtain ⟨a1, a2, a3, a4, a5, a6⟩ := how.form (List.mem_cons_self ..)
  obtain ⟨b1, b2, b3, b4, b5, b6⟩ := how.form (List.mem_cons_of_mem _ (List.mem_cons_self ..))
  obtain ⟨c1, c2, c3, c4, c5, c6⟩ := how.form (List.mem_cons_of_mem _ (List.mem_cons_of_mem _ (List.mem_cons_self ..)))
  simp only at a1 a2 a3 a4 a5 a6 b1 b2 b3 b4 b5 b6 c1 c2 c3 c4 c5 c6
  simp -implicitDefEqProofs -dsimp only [go_sem, seval, w0, stR, a1, a2, a3, a4, a5, a6, b1, b2, b3, b4, b5, b6, c1, c2, c3, c4, c5, c6]
  have how' : Owns (T0.put id (stR S L v vC)) (⟨5, vC, k, qp4 0 ps⟩ :: ⟨1, v1, L, q5k (chn k L L)⟩ :: ⟨1, v2, L, q1v (qll L)⟩ :: qp3 L 0 ps) T2 := how.perm (by
   refine List.Perm.trans (List.Perm.cons _ (List.Perm.swap _ _ _)) (List.Perm.swap _ _ _))
  refine how'.app (m := 1) (news := cel k v1 v2) (by simp [N2, cel]) rfl (by simp only; omega) (by simp only; omega) fun vC' T3 how3 => J3 ?_
  have w0 : T3 id = stR S L v vC := by
   rw [how3.base_get (by rw [Tab.put_same]; simp [stR]), Tab.put_same]
  obtain ⟨c1, c2, c3, c4, c5, c6⟩ := how3.form (List.mem_cons_self ..)
  simp only at c1 c2 c3 c4 c5 c6
  simp -implicitDefEqProofs -dsimp only [go_sem, seval, w0, stR, c1, c2, c3, c4, c5, c6]
  refine V6 w0 c3 (by rw [c4]; rfl) (by simp) ?_
  refine J3 ?_
  simp -implicitDefEqProofs -dsimp only [go_sem, seval, w0, stR, c1, c2, c3, c4, c5, c6, w2]
  refine ih (k + 1) (by omega) vC' (ps ++ [(v1, v2)]) _ (by simp [hps]) ?_ h2
  have hb := how3.base_put (id := id) (s := stR S L v vC') (by rw [Tab.put_same]; simp [stR])
  rw [Tab.put_put] at hb
  rw [qla, ql9, hps, Nat.zero_add]
  refine Owns.perm ?_ hb
  refine List.Perm.cons _ ?_
  exact (List.perm_append_comm (l₁ := [_, _]) (l₂ := qp3 L 0 ps))
end Go.Aw
