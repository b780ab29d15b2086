import Derived.Test.YtnkagdjmjakeiaaGreatDoorV22G21J
import Derived.Test.YtnkagdjmjakeiaaGreatDoorV22R28X
import Derived.Test.YtnkagdjmjakeiaaGreatDoorV22T16Q
namespace Go.Aw
open Go
open Go.Proofs.Tryz (prog)
set_option linter.all false
set_option maxHeartbeats 4000000
def q7f (l : List Rf) : List AV := l.flatMap fun c => c.cells none
theorem q68 (l : List Rf) : (q7f l).length = l.length * 4 := q4g (f := fun c : Rf => c.cells none) (z := 4) (fun _ => rfl) l
theorem qn3 {l : List Rf} {k : Nat} {c : Rf} (h : l[k]? = some c) : (q7f l).drop (k * 4) = c.cells none ++ q7f (l.drop (k + 1)) := qem (f := fun c : Rf => c.cells none) (z := 4) (fun _ => rfl) h
theorem qu8 {l : List Rf} {k : Nat} (h : k < l.length) (c : Rf) : N4 (q7f l) (k * 4) (c.cells none) = q7f (l.set k c) := by
 induction l generalizing k with
 | nil => simp at h
 | cons a l ih =>
  have e : ∀ (a : Rf) (l : List Rf), q7f (a :: l) = a.cells none ++ q7f l := fun a l => by simp [q7f]
  cases k with
  | zero => simp [e, N4, Rf.cells]
  | succ k =>
   have := ih (k := k) (by simpa using h)
   simp only [N4] at this ⊢
   rw [List.set_cons_succ, e, e, <- this]
   have e5 : (a.cells none).length = 4 := rfl
   rw [show (k + 1) * 4 = (a.cells none).length + k * 4 by omega, List.take_length_add_append, Nat.add_assoc, List.drop_length_add_append]
   simp only [List.append_assoc]
def Os.rL (o : Os) : List Rf := o.cs.map Cf.plain
theorem qha (o : Os) : o.rL.length = o.cs.length := by simp [Os.rL]
def RSt (T : Tab) (id idC : Nat) (o : Os) : Prop := T id = o.row idC /\ T idC = .row 4 (q7f o.rL)
theorem RSt.ne {T : Tab} {id idC : Nat} {o : Os} (h : RSt T id idC o) : id ≠ idC := fun e => by
 have := h.1; rw [e, h.2] at this; cases this
theorem qo1 {L : Nat} {f : AV -> AV} (hf : ∀ k n, f (.i k n) = .i k n) : ∀ (ps : List AV) (k : Nat), (∀ a ∈ qpc L k ps, ∃ cap, f a.v = .fz a.n a.xs cap) -> Wks ((qey k ps).map f) (q7f (((List.range ps.length).map fun i => cf0 L (k + i)).map Cf.plain))
 | [], k, _ => trivial
 | p :: ps, k, h => by
  have ih := qo1 hf ps (k + 1) (fun a ha => h a (by simp only [qpc]; exact List.mem_cons_of_mem _ ha))
  obtain ⟨c1, e1⟩ := h _ (by simp only [qpc]; exact List.mem_cons_self ..)
  simp only at e1
  have er : (List.range (p :: ps).length).map (fun i => cf0 L (k + i)) = cf0 L k :: (List.range ps.length).map (fun i => cf0 L (k + 1 + i)) := by
   rw [List.length_cons, List.range_succ_eq_map, List.map_cons, List.map_map, Nat.add_zero]
   congr 1
   apply List.map_congr_left
   intro i _
   simp only [Function.comp]
   rw [show k + (i + 1) = k + 1 + i by omega]
  have epl : (cf0 L k).plain.l = chr k L L := by
   show q7y (qll L) (chn k L L) 0 = chr k L L
   have h : ∀ (m n : Nat), q7y (qll L) ((List.range' n m).map fun (i : Nat) => (k : Int) * L + (i : Int)) n = (List.range' n m).map fun (i : Nat) => ((k : Int) * L + (i : Int), ((qll L)[i]?).getD false) := by
    intro m
    induction m with
    | zero => intro n; rfl
    | succ m ih => intro n; simp only [List.range'_succ, List.map_cons, q7y, ih]
   have h2 := h L 0
   rw [<- List.range_eq_range'] at h2
   rw [chn, h2, chr]
   apply List.map_congr_left
   intro i hi
   have hi' := List.mem_range.1 hi
   simp [qll, hi']
  rw [er, List.map_cons]
  simp only [q7f, List.flatMap_cons, qey, List.map_append]
  refine Wks.append ?_ ih
  have ec : (cf0 L k).plain.cells none = [.i .u64 ((k : Int) + 1), .i .i64 k, .fz L (mem (chr k L L)) none, .i .i64 (-1)] := by
   rw [Rf.cells, epl, qwv]; rfl
  rw [ec]
  simp only [qxe, List.map_cons, List.map_nil, hf, e1]
  exact ⟨.refl _, .refl _, .fz, .refl _, trivial⟩
theorem qu9 {T0 : Tab} {S L : Nat} {v : Int} (h : sok S L v = true) : ACalls prog q1q [.agg (stC S L v)] T0 (fun r T' => ∃ id idC, r = .ptr id 0 /\ T0 id = .unused /\ T0 idC = .unused /\ id ≠ idC /\ T' = (T0.put id ((os0 S L v).row idC)).put idC (.row 4 (q7f (os0 S L v).rL))) := by
 refine K3 O1 qdf (by simp) ?_
 have hh := of_decide_eq_true h
 have w1 : IntKind.u64.wrap (S : Int) = S := IntWalk.u64_in _ (by omega)
 unfold q6o
 simp -implicitDefEqProofs -dsimp only [go_sem, seval, stC, w1]
 refine fun id hid => J3 ?_
 simp -implicitDefEqProofs -dsimp only [go_sem, seval]
 refine qu7 (T0 := T0) (id := id) (by repeat' (first | exact N8 _ _ | assumption | apply N7 | apply N0 | apply V0)) hid (by omega) (by omega) (by omega) (by omega) S 0 (by omega) (.fz 0 [] (some 0)) [] _ rfl ?_ (fun vC ps T1 hps how => ?_)
 ·exact ⟨_, rfl, .nil ..⟩
 simp -implicitDefEqProofs -dsimp only [go_sem, seval]
 obtain ⟨idC, e1, e2, e3⟩ := how.get (List.mem_cons_self ..) (by simp only; omega)
 simp only at e1 e2 e3
 subst e1
 have hne : idC ≠ id := fun e => by subst e; rw [Tab.put_same] at e3; cases e3
 refine qnh how (by omega) (fun Sf h1 h2 h3 h4 => ⟨q7f (os0 S L v).rL, ?_, ?_, ?_⟩)
 ·have := qo1 (L := L) (f := qd1 T1 Sf) (fun _ _ => rfl) ps 0 h3
  simp only [Nat.zero_add, hps] at this
  exact this
 ·have : ∀ (ps : List AV) (k : Nat), (qey k ps).length = ps.length * 4 := fun ps => by
   induction ps with
   | nil => intro k; rfl
   | cons p ps ih => intro k; simp only [qey, List.length_append, ih (k + 1), List.length_cons]; simp [qxe]; omega
  rw [q68, this, hps, qha]; simp [os0, qus]
 have hidS : id ∉ Sf := fun hm => by have := h1 id hm; rw [Tab.put_same] at this; cases this
 simp only [frE, qun, qqt hidS, z03, z04]
 simp -implicitDefEqProofs -dsimp only [go_sem, seval]
 refine I6 _ (fun _ => .inr (.inl rfl)) ⟨id, idC, rfl, hid, by rw [Tab.put_ne _ _ hne] at h4; exact h4, Ne.symm hne, ?_⟩
 simp [Os.row, os0, stR, qus]
def qua (l : List Rf) (n : Int) : Bool := l.any fun c => decide (0 <= ixI n (c.l.map (·.1))) || decide (c.ln = n)
theorem qww {R : U6} (hR : ExtR R) {T : Tab} {idC : Nat} {l : List Rf} {n : Int} (h0 : 0 <= n) (hC : T idC = .row 4 (q7f l)) (hl : Len l.length) (hs : ∀ c ∈ l, Len c.l.length) : ∀ (ys : List Rf) (k : Nat), l.drop k = ys -> k <= l.length ->
  (qua ys n = true -> ∀ j : Nat, R .ret [(4, .i .i64 j)] [] T) ->
  (qua ys n = false -> R (.exit 0) [(1, .i .i64 n), (10, .sl idC 0 l.length none), (11, .i .i64 l.length), (12, .i .i64 l.length), (13, .b false)] [] T) ->
  AW prog q0d R [(1, .i .i64 n), (10, .sl idC 0 l.length none), (11, .i .i64 l.length), (12, .i .i64 k)] [] T := by
 unfold Len at hl
 intro ys
 induction ys with
 | nil =>
  intro k hk hle h1 h2
  have hk' := I0 hk hle
  refine U8 hR ?_
  unfold q05
  have h2 := h2 rfl
  rw [hk'] at h2
  simp -implicitDefEqProofs -dsimp only [go_sem, seval, hk', Int.lt_irrefl]
  exact h2
 | cons y ys ih =>
  intro k hk hle h1 h2
  obtain ⟨hlt, hy, hk'⟩ := q0b hk
  have hws : IntKind.i64.wrap ((k : Int) + 1) = ((k + 1 : Nat) : Int) := O0 (by omega)
  have hcell := qn3 hy
  have hlen : k * 4 + 4 <= (q7f l).length := by rw [q68]; omega
  have cF := q3k y none n (hs y (List.mem_of_getElem? hy))
  simp only [Rf.cells] at cF
  have dn : decide (0 <= n) = true := decide_eq_true h0
  refine O4 (l := q0d) rfl hR ?_
  unfold q05
  simp -implicitDefEqProofs -dsimp only [go_sem, seval, Int.ofNat_lt, hlt, Int.natCast_nonneg, Int.toNat_natCast, hC, hlen, hcell, Rf.cells, List.cons_append, List.nil_append, ↓J0 _ _ J6]
  refine cpn cF ?_
  rcases hb : decide (0 <= ixI n (y.l.map (·.1))) with _ | _
  ·rcases hb2 : decide (y.ln = n) with _ | _
   ·simp -implicitDefEqProofs -dsimp only [go_sem, seval, hb, hb2, decide_true, hws]
    exact ih (k + 1) hk' hlt (fun h => h1 (by rw [qua, List.any_cons, hb, hb2]; exact h)) (fun h => h2 (by rw [qua, List.any_cons, hb, hb2]; exact h))
   ·simp -implicitDefEqProofs -dsimp only [go_sem, seval, hb, hb2, dn, decide_true]
    exact h1 (by rw [qua, List.any_cons, hb, hb2]; rfl) k
  ·simp -implicitDefEqProofs -dsimp only [go_sem, seval, hb, decide_true]
   exact h1 (by rw [qua, List.any_cons, hb]; rfl) k
theorem qs5 {T : Tab} {id idC : Nat} {o : Os} (hR : RSt T id idC o) (hl : Len o.cs.length) (hs : ∀ c ∈ o.cs, Len c.ch.length) {n : Int} (h0 : 0 <= n) : ACalls prog V1 [.ptr id 0, .i .i64 n] T (fun r T' => ∃ j : Int, r = .i .i64 j /\ decide (0 <= j) = qua o.rL n /\ T' = T) := by
 obtain ⟨t1, t2⟩ := hR
 rw [Os.row] at t1
 refine K3 O1 q7q (by simp) ?_
 unfold q3n
 simp -implicitDefEqProofs -dsimp only [go_sem, seval, t1]
 have hlr : ∀ c ∈ o.rL, Len c.l.length := fun c hc => by
  obtain ⟨d, hd, rfl⟩ := List.mem_map.1 hc
  rw [d.plain_len]; exact hs d hd
 have key := fun (R : U6) (hR : ExtR R) h1 h2 => qww (R := R) hR (T := T) (idC := idC) (l := o.rL) h0 t2 (by rw [qha]; exact hl) hlr o.rL 0 rfl (Nat.zero_le _) h1 h2
 rw [qha] at key
 refine key _ (by repeat' (first | exact N8 _ _ | assumption | apply N7 | apply N0 | apply V0)) (fun h j => ?_) (fun h => ?_)
 ·simp -implicitDefEqProofs -dsimp only [go_sem, seval]
  exact I6 _ (fun _ => .inr (.inl rfl)) ⟨(j : Int), rfl, by rw [h]; exact decide_eq_true (by omega), rfl⟩
 ·simp -implicitDefEqProofs -dsimp only [go_sem, seval]
  exact I6 _ (fun _ => .inr (.inl rfl)) ⟨-1, rfl, by rw [h]; rfl, rfl⟩
theorem qs6 {o : Os} (hg : Good o) {n : Int} (h0 : 0 <= n) : qua o.rL n = o.cs.any (·.has n) := by
 rw [qua, Os.rL, List.any_map, Bool.eq_iff_iff, List.any_eq_true, List.any_eq_true]
 have hr : ∀ c ∈ o.cs, c.right = true := fun c hc => by
  obtain ⟨k, hk⟩ := List.mem_iff_getElem?.1 hc
  exact (hg.one k c hk).1
 constructor
 ·rintro ⟨c, hc, h⟩
  refine ⟨c, hc, (qex (hr c hc) n).2 ⟨h0, ?_⟩⟩
  simp only [Function.comp, c.plain_fst, Bool.or_eq_true, decide_eq_true_eq] at h
  rcases h with h | h
  ·right
   have : ctn c.ch n = true := decide_eq_true h
   rw [q65] at this
   exact of_decide_eq_true this
  ·exact .inl h.symm
 ·rintro ⟨c, hc, h⟩
  refine ⟨c, hc, ?_⟩
  have h := ((qex (hr c hc) n).1 h).2
  simp only [Function.comp, c.plain_fst, Bool.or_eq_true, decide_eq_true_eq]
  rcases h with h | h
  ·exact .inr h.symm
  ·left
   have : ctn c.ch n = true := by rw [q65]; exact decide_eq_true h
   exact of_decide_eq_true this
end Go.Aw
