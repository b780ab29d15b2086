import Derived.Test.YtnkagdjmjakeiaaGreatDoorV22R28I
import Derived.Test.YtnkagdjmjakeiaaGreatDoorV22T16D
namespace Go.Aw
open Go
open Go.Proofs.Tryz (prog)
set_option linter.all false
set_option maxHeartbeats 4000000
def chr (k l : Int) (n : Nat) : List (Int × Bool) := (List.range n).map fun (i : Nat) => (k * l + (i : Int), true)
theorem qu5 (k l : Int) (n : Nat) : chr k l (n + 1) = chr k l n ++ [(k * l + n, true)] := by simp [chr, List.range_succ]
theorem qwv (k l : Int) (n : Nat) : (chr k l n).length = n := by simp [chr]
theorem qu6 {R : U6} (hR : ExtR R) {T0 : Tab} {id : Nat} {s v k e : Int} {L : Nat} {ows : List Ow} (hk : 0 <= k) (hk4 : k <= 4) (hL : 1 <= L) (hL8 : L <= 8) : ∀ (m i : Nat), i + m = L -> ∀ v1 T1,
  Owns T0 (⟨2, v1, i, mem (chr k L i)⟩ :: ows) T1 ->
  (∀ v1 T1, Owns T0 (⟨2, v1, L, mem (chr k L L)⟩ :: ows) T1 ->
   R (.exit 2) [(1, .lp 1 0), (3, .ptr id 0), (4, .i .i64 k), (5, .lp 5 0), (6, .i .i64 L), (27, .b false)] [(1, stC s L v), (5, [.i .u64 e, .i .i64 k, v1, .i .i64 (-1)])] T1) ->
  AW prog q3c R [(1, .lp 1 0), (3, .ptr id 0), (4, .i .i64 k), (5, .lp 5 0), (6, .i .i64 i)] [(1, stC s L v), (5, [.i .u64 e, .i .i64 k, v1, .i .i64 (-1)])] T1 := by
 intro m
 induction m with
 | zero =>
  intro i hi v1 T1 how h2
  have : i = L := by omega
  subst this
  refine U8 hR ?_
  unfold q2l
  simp -implicitDefEqProofs -dsimp only [go_sem, seval, stC, Int.lt_irrefl]
  exact h2 v1 T1 how
 | succ m ih =>
  intro i hi v1 T1 how h2
  have hlt : i < L := by omega
  obtain ⟨p1, p2, p3, p4, p5, p6⟩ := how.form (List.mem_cons_self ..)
  simp only at p1 p2 p3 p4 p5 p6
  obtain ⟨w1, w2⟩ := qrn (k := k) (l := (L : Int)) (i := i) hk hk4 (by omega) (by omega) (by omega) (by omega)
  refine O4 (l := q3c) rfl hR ?_
  unfold q2l
  simp -implicitDefEqProofs -dsimp only [go_sem, seval, Int.ofNat_lt, hlt, stC, w1, w2, p1, p2, p3, p4, p5, p6]
  refine how.app (m := 1) (news := mem [(k * L + i, true)]) (by simp [N2, mem]) rfl (by simp only; omega) (by simp only; omega) fun v1' T2 how => J3 ?_
  obtain ⟨p1, p2, p3, p4, p5, p6⟩ := how.form (List.mem_cons_self ..)
  simp only at p1 p2 p3 p4 p5 p6
  simp -implicitDefEqProofs -dsimp only [go_sem, seval, p1, p2, p3, p4, p5, p6]
  rw [O0 (by omega)]
  refine ih (i + 1) (by omega) _ _ ?_ h2
  rw [qu5, Y7]
  exact how
def qxe (k : Nat) (v1 : AV) : List AV := [.i .u64 ((k : Int) + 1), .i .i64 k, v1, .i .i64 (-1)]
def qpc (L : Nat) : Nat -> List AV -> List Ow
 | _, [] => []
 | k, p :: ps => ⟨2, p, L, mem (chr k L L)⟩ :: qpc L (k + 1) ps
def qey : Nat -> List AV -> List AV
 | _, [] => []
 | k, p :: ps => qxe k p ++ qey (k + 1) ps
theorem qlg (L : Nat) (v1 : AV) : ∀ (ps : List AV) (k : Nat), qpc L k (ps ++ [v1]) = qpc L k ps ++ [⟨2, v1, L, mem (chr ((k + ps.length : Nat) : Int) L L)⟩]
 | [], k => rfl
 | p :: ps, k => by
  simp only [qpc, List.cons_append]
  rw [qlg L v1 ps (k + 1), List.length_cons, show k + 1 + ps.length = k + (ps.length + 1) by omega]
theorem qin (v1 : AV) : ∀ (ps : List AV) (k : Nat), qey k (ps ++ [v1]) = qey k ps ++ qxe (k + ps.length) v1
 | [], k => by simp [qey]
 | p :: ps, k => by
  simp only [qey, List.cons_append]
  rw [qin v1 ps (k + 1), List.length_cons, show k + 1 + ps.length = k + (ps.length + 1) by omega, List.append_assoc]
theorem qu7 {R : U6} (hR : ExtR R) {T0 : Tab} {id : Nat} {v : Int} {S L : Nat} (hid : T0 id = .unused) (hS : 1 <= S) (hS4 : S <= 4) (hL : 1 <= L) (hL8 : L <= 8) : ∀ (m k : Nat), k + m = S -> ∀ vC ps T1, ps.length = k ->
  Owns (T0.put id (stR S L v vC)) (⟨4, vC, k, qey 0 ps⟩ :: qpc L 0 ps) T1 ->
  (∀ vC ps T1, ps.length = S -> Owns (T0.put id (stR S L v vC)) (⟨4, vC, S, qey 0 ps⟩ :: qpc L 0 ps) T1 ->
   R (.exit 0) [(1, .lp 1 0), (3, .ptr id 0), (4, .i .i64 S), (16, .b false)] [(1, stC S L v)] T1) ->
  AW prog q3d R [(1, .lp 1 0), (3, .ptr id 0), (4, .i .i64 k)] [(1, stC S L v)] T1 := by
 intro m
 induction m with
 | zero =>
  intro k hk vC ps T1 hps how h2
  have : k = S := by omega
  subst this
  refine U8 hR ?_
  unfold q2m
  simp -implicitDefEqProofs -dsimp only [go_sem, seval, stC, Int.lt_irrefl]
  exact h2 vC ps T1 hps how
 | succ m ih =>
  intro k hk vC ps T1 hps how h2
  have hlt : k < S := by omega
  have w0 : IntKind.u64.wrap (k : Int) = (k : Int) := IntWalk.u64_in _ (by omega)
  have w1 : IntKind.u64.wrap ((k : Int) + 1) = (k : Int) + 1 := IntWalk.u64_in _ (by omega)
  have w2 : IntKind.i64.wrap ((k : Int) + 1) = (k : Int) + 1 := by rw [O0 (by omega)]; simp
  refine O4 (l := q3d) rfl hR ?_
  unfold q2m
  simp -implicitDefEqProofs -dsimp only [go_sem, seval, Int.ofNat_lt, hlt, stC, w0, w1, w2]
  refine qu6 (T0 := T0.put id (stR S L v vC)) (ows := ⟨4, vC, k, qey 0 ps⟩ :: qpc L 0 ps) (by repeat' (first | exact N8 _ _ | assumption | apply N7 | apply N0 | apply V0)) (by omega) (by omega) hL hL8 L 0 (by omega) _ T1 ?_ (fun v1 T2 how => ?_)
  ·exact ⟨T1, how, .nil ..⟩
  have w0 : T2 id = stR S L v vC := by
   rw [how.base_get (by rw [Tab.put_same]; simp [stR]), Tab.put_same]
  obtain ⟨a1, a2, a3, a4, a5, a6⟩ := how.form (List.mem_cons_self ..)
  obtain ⟨c1, c2, c3, c4, c5, c6⟩ := how.form (List.mem_cons_of_mem _ (List.mem_cons_self ..))
  simp only at a1 a2 a3 a4 a5 a6 c1 c2 c3 c4 c5 c6
  simp -implicitDefEqProofs -dsimp only [go_sem, seval, w0, stR, a1, a2, a3, a4, a5, a6, c1, c2, c3, c4, c5, c6]
  have how' : Owns (T0.put id (stR S L v vC)) (⟨4, vC, k, qey 0 ps⟩ :: ⟨2, v1, L, mem (chr k L L)⟩ :: qpc L 0 ps) T2 := how.perm (List.Perm.swap _ _ _)
  refine how'.app (m := 1) (news := qxe k v1) (by simp [N2, qxe]) rfl (by simp only; omega) (by simp only; omega) fun vC' T3 how3 => J3 ?_
  have w0 : T3 id = stR S L v vC := by
   rw [how3.base_get (by rw [Tab.put_same]; simp [stR]), Tab.put_same]
  obtain ⟨c1, c2, c3, c4, c5, c6⟩ := how3.form (List.mem_cons_self ..)
  simp only at c1 c2 c3 c4 c5 c6
  simp -implicitDefEqProofs -dsimp only [go_sem, seval, w0, stR, c1, c2, c3, c4, c5, c6]
  refine V6 w0 c3 (by rw [c4]; rfl) (by simp) ?_
  refine J3 ?_
  simp -implicitDefEqProofs -dsimp only [go_sem, seval, w0, stR, c1, c2, c3, c4, c5, c6, w2]
  refine ih (k + 1) (by omega) vC' (ps ++ [v1]) _ (by simp [hps]) ?_ h2
  have hb := how3.base_put (id := id) (s := stR S L v vC') (by rw [Tab.put_same]; simp [stR])
  rw [Tab.put_put] at hb
  rw [qin, qlg, hps, Nat.zero_add]
  refine Owns.perm ?_ hb
  refine List.Perm.cons _ ?_
  exact (List.perm_append_comm (l₁ := [_]) (l₂ := qpc L 0 ps))
end Go.Aw
