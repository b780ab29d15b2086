import Derived.Test.YtnkagdjmjakeiaaGreatDoorV22G21D
import Derived.Test.YtnkagdjmjakeiaaGreatDoorV22R28K
namespace Go.Aw
open Go
open Go.Proofs.Tryz (prog)
set_option linter.all false
set_option maxHeartbeats 4000000
structure Os where
 s : Int
 l : Int
 v : Int
 n : Int
 ct : Int
 cs : List Cf
def Os.row (o : Os) (idC : Nat) : Slot := .row 6 [.i .i64 o.s, .i .i64 o.l, .i .i64 o.v, .i .i64 o.n, .i .u64 o.ct, .sl idC 0 o.cs.length none]
def St (T : Tab) (id idC : Nat) (o : Os) : Prop := T id = o.row idC /\ T idC = .row 5 (q67 o.cs)
theorem St.ne {T : Tab} {id idC : Nat} {o : Os} (h : St T id idC o) : id ≠ idC := fun e => by
 have := h.1; rw [e, h.2] at this; cases this
def oT (T : Tab) (id idC : Nat) (o : Os) : Tab := (T.put id (o.row idC)).put idC (.row 5 (q67 o.cs))
theorem qtz {T : Tab} {id idC : Nat} {o : Os} (h : id ≠ idC) : St (oT T id idC o) id idC o := ⟨by rw [oT, Tab.put_ne _ _ h, Tab.put_same], Tab.put_same ..⟩
theorem qwn {T : Tab} {id idC : Nat} {o : Os} (h : St T id idC o) : oT T id idC o = T := by
 rw [oT, Tab.put_self (T := T) h.1, Tab.put_self h.2]
theorem z2w {T : Tab} {id idC : Nat} {o o' : Os} (h : id ≠ idC) : oT (oT T id idC o) id idC o' = oT T id idC o' := by
 simp only [oT]
 rw [Tab.put_comm _ (Ne.symm h), Tab.put_put, Tab.put_put]
def os0 (S L : Nat) (v : Int) : Os := ⟨S, L, v, 0, S, qus L S⟩
theorem qro {L : Nat} {f : AV -> AV} (hf : ∀ k n, f (.i k n) = .i k n) : ∀ (ps : List (AV × AV)) (k : Nat), (∀ a ∈ qp3 L k ps, ∃ cap, f a.v = .fz a.n a.xs cap) -> Wks ((qp4 k ps).map f) (((List.range ps.length).map fun i => cf0 L (k + i)).flatMap fun c => c.cells none none)
 | [], k, _ => trivial
 | p :: ps, k, h => by
  have ih := qro hf ps (k + 1) (fun a ha => h a (by simp only [qp3]; exact List.mem_cons_of_mem _ (List.mem_cons_of_mem _ ha)))
  obtain ⟨c1, e1⟩ := h _ (by simp only [qp3]; exact List.mem_cons_self ..)
  obtain ⟨c2, e2⟩ := h _ (by simp only [qp3]; exact List.mem_cons_of_mem _ (List.mem_cons_self ..))
  simp only at e1 e2
  have er : (List.range (p :: ps).length).map (fun i => cf0 L (k + i)) = cf0 L k :: (List.range ps.length).map (fun i => cf0 L (k + 1 + i)) := by
   rw [List.length_cons, List.range_succ_eq_map, List.map_cons, List.map_map, Nat.add_zero]
   congr 1
   apply List.map_congr_left
   intro i _
   simp only [Function.comp]
   rw [show k + (i + 1) = k + 1 + i by omega]
  rw [er, List.flatMap_cons]
  simp only [qp4, List.map_append]
  refine Wks.append ?_ ih
  simp only [cel, List.map_cons, List.map_nil, hf, e1, e2, Cf.cells, cf0, qjw, qny]
  exact ⟨.refl _, .refl _, .fz, .fz, .refl _, trivial⟩
theorem qrp {T0 : Tab} {S L : Nat} {v : Int} (h : sok S L v = true) : ACalls prog q4h [.agg (stC S L v)] T0 (fun r T' => ∃ id idC, r = .ptr id 0 /\ T0 id = .unused /\ T0 idC = .unused /\ id ≠ idC /\ T' = oT T0 id idC (os0 S L v)) := by
 refine K3 O1 qgp (by simp) ?_
 have hh := of_decide_eq_true h
 have w1 : IntKind.u64.wrap (S : Int) = S := IntWalk.u64_in _ (by omega)
 unfold qbr
 simp -implicitDefEqProofs -dsimp only [go_sem, seval, stC, ↓J0 _ _ q6q]
 refine cpn (qea S L v) ?_
 simp -implicitDefEqProofs -dsimp only [go_sem, seval, h, w1]
 refine fun id hid => J3 ?_
 simp -implicitDefEqProofs -dsimp only [go_sem, seval]
 refine qwm (T0 := T0) (id := id) (by repeat' (first | exact N8 _ _ | assumption | apply N7 | apply N0 | apply V0)) hid (by omega) (by omega) (by omega) (by omega) S 0 (by omega) (.fz 0 [] (some 0)) [] _ rfl ?_ (fun vC ps T1 hps how => ?_)
 ·exact ⟨_, rfl, .nil ..⟩
 simp -implicitDefEqProofs -dsimp only [go_sem, seval]
 obtain ⟨idC, e1, e2, e3⟩ := how.get (List.mem_cons_self ..) (by simp only; omega)
 simp only at e1 e2 e3
 subst e1
 have hne : idC ≠ id := fun e => by subst e; rw [Tab.put_same] at e3; cases e3
 refine qnh how (by omega) (fun Sf h1 h2 h3 h4 => ⟨q67 (qus L S), ?_, ?_, ?_⟩)
 ·have := qro (L := L) (f := qd1 T1 Sf) (fun _ _ => rfl) ps 0 h3
  simp only [Nat.zero_add, hps] at this
  exact this
 ·rw [q4i, qh6, hps]; simp [qus]
 have hidS : id ∉ Sf := fun hm => by have := h1 id hm; rw [Tab.put_same] at this; cases this
 simp only [frE, qun, qqt hidS, z03, z04]
 simp -implicitDefEqProofs -dsimp only [go_sem, seval]
 refine I6 _ (fun _ => .inr (.inl rfl)) ⟨id, idC, rfl, hid, by rw [Tab.put_ne _ _ hne] at h4; exact h4, Ne.symm hne, ?_⟩
 simp [oT, Os.row, os0, stR, qus]
theorem qu0 {s l v : Int} (h : sok s l v = false) : Q4 prog q4h [.agg (stC s l v)] .nilptr := by
 refine K8 O1 qgp (by simp) fun T => ?_
 unfold qbr
 simp -implicitDefEqProofs -dsimp only [go_sem, seval, stC, ↓J0 _ _ q6q]
 refine cpn (qea s l v) ?_
 simp -implicitDefEqProofs -dsimp only [go_sem, seval, h]
 exact J9 rfl
theorem qnz {T : Tab} {id idC : Nat} {o : Os} (hR : St T id idC o) (hl : ∀ c ∈ o.cs, qeb c) (k : Int) : ACalls prog q08 [.ptr id 0, .i .i64 k] T (fun r T' => r = cfR o.cs k /\ T' = T) := by
 obtain ⟨t1, t2⟩ := hR
 rw [Os.row] at t1
 refine K3 O1 qdo (by simp) ?_
 unfold q6s
 simp -implicitDefEqProofs -dsimp only [go_sem, seval, t1, ↓Q1, I5, true_and, decide_true, decide_false]
 refine J4 (fun h1 => ?_) (fun h1 => ?_)
 ·have := of_decide_eq_true h1
  simp -implicitDefEqProofs -dsimp only [go_sem, seval, h1, ↓Q1, I5, true_and, decide_true, decide_false]
  refine O6 ?_ rfl
  rw [cfR, at?, if_neg (by omega)]; exact .refl _
 have d1 := of_decide_eq_false h1
 simp -implicitDefEqProofs -dsimp only [go_sem, seval, h1, t1]
 refine J4 (fun h2 => ?_) (fun h2 => ?_)
 ·have := of_decide_eq_true h2
  simp -implicitDefEqProofs -dsimp only [go_sem, seval, h2]
  refine O6 ?_ rfl
  rw [cfR, at?, if_pos (by omega), List.getElem?_eq_none (by omega)]; exact .refl _
 have d2 := of_decide_eq_false h2
 have hlt : k.toNat < o.cs.length := by omega
 have hget : o.cs[k.toNat]? = some o.cs[k.toNat] := List.getElem?_eq_getElem hlt
 have hcell := qjx hget
 have hlen : k.toNat * 5 + 5 <= (q67 o.cs).length := by rw [q4i]; omega
 generalize hc : o.cs[k.toNat] = c at hget hcell
 have hs : qeb c := hl c (by rw [<- hc]; exact List.getElem_mem hlt)
 have k0 : 0 <= k := by omega
 have k1 : k < o.cs.length := by omega
 have cC := qij c none none hs.1 hs.2
 simp only [Cf.cells] at cC
 simp -implicitDefEqProofs -dsimp only [go_sem, seval, h2, t1, t2, k0, k1, hlen, hcell, Cf.cells, List.cons_append, List.nil_append, ↓J0 _ _ qbc]
 refine cpn cC ?_
 simp -implicitDefEqProofs -dsimp only [go_sem, seval, Cf.cells]
 refine O6 ?_ rfl
 rw [cfR, at?, if_pos k0, hget]; exact .refl _
theorem z2x {R : U6} (hR : ExtR R) {T : Tab} {idC idN : Nat} {cs : List Cf} {n : Int} {fv : AV} (hfv : fv = .fn (.func U0) [] [.ptr idN 0]) (hC : T idC = .row 5 (q67 cs)) (hN : T idN = .row 1 [.i .i64 n]) (hl : Len cs.length) (hs : ∀ c ∈ cs, qeb c) : ∀ (ys : List Cf) (k : Nat), cs.drop k = ys -> k <= cs.length ->
  (ys.any (·.has n) = true -> ∀ j : Nat, R .ret [(4, .i .i64 j)] [] T) ->
  (ys.any (·.has n) = false -> R (.exit 0) [(0, .sl idC 0 cs.length none), (1, fv), (7, .i .i64 cs.length), (8, .i .i64 cs.length), (9, .b false)] [] T) ->
  AW prog U1 R [(0, .sl idC 0 cs.length none), (1, fv), (7, .i .i64 cs.length), (8, .i .i64 k)] [] T := by
 subst hfv
 unfold Len at hl
 intro ys
 induction ys with
 | nil =>
  intro k hk hle h1 h2
  have hk' := I0 hk hle
  refine U8 hR ?_
  unfold Q6
  have h2 := h2 rfl
  rw [hk'] at h2
  simp -implicitDefEqProofs -dsimp only [go_sem, seval, hk', Int.lt_irrefl]
  exact h2
 | cons y ys ih =>
  intro k hk hle h1 h2
  obtain ⟨hlt, hy, hk'⟩ := q0b hk
  have hws : IntKind.i64.wrap ((k : Int) + 1) = ((k + 1 : Nat) : Int) := O0 (by omega)
  have hcell := qjx hy
  have hlen : k * 5 + 5 <= (q67 cs).length := by rw [q4i]; omega
  have cH := fun T (hN : T idN = .row 1 [.i .i64 n]) => show ACalls prog U0 [.agg (y.cells none none), .ptr idN 0] T (fun v T' => v = .b (y.has n) /\ T' = T) from by
   have hsy := hs y (List.mem_of_getElem? hy)
   have cHas := quq y none none n (by unfold Len; have := hsy.1; omega)
   simp only [Cf.cells] at cHas ⊢
   refine K3 O1 q9z (by simp) ?_
   unfold q4t
   simp -implicitDefEqProofs -dsimp only [go_sem, seval, hN, ↓J0 _ _ qa2]
   refine cpn cHas ?_
   simp -implicitDefEqProofs -dsimp only [go_sem, seval]
   exact O6 (.refl _) rfl
  simp only [Cf.cells] at cH
  refine O4 (l := U1) rfl hR ?_
  unfold Q6
  simp -implicitDefEqProofs -dsimp only [go_sem, seval, Int.ofNat_lt, hlt, Int.natCast_nonneg, Int.toNat_natCast, hC, hlen, hcell, Cf.cells, List.cons_append, List.nil_append, qgj _ _ _ _ _ _ qa0]
  refine can (cH T hN) ?_
  rcases hb : y.has n with _ | _
  ·simp -implicitDefEqProofs -dsimp only [go_sem, seval, hws]
   exact ih (k + 1) hk' hlt (fun h => h1 (by rw [List.any_cons, hb, h]; rfl)) (fun h => h2 (by rw [List.any_cons, hb, h]; rfl))
  ·simp -implicitDefEqProofs -dsimp only [go_sem, seval]
   exact h1 (by rw [List.any_cons, hb]; rfl) k
theorem qo0 {T : Tab} {id idC : Nat} {o : Os} (hR : St T id idC o) (hl : Len o.cs.length) (hs : ∀ c ∈ o.cs, qeb c) (n : Int) : ACalls prog I8 [.ptr id 0, .i .i64 n] T (fun r T' => r = .b (o.cs.any (·.has n)) /\ T' = T) := by
 obtain ⟨t1, t2⟩ := hR
 rw [Os.row] at t1
 have cI : ∀ T idN, T idC = .row 5 (q67 o.cs) -> T idN = .row 1 [.i .i64 n] -> ACalls prog O5 [.sl idC 0 o.cs.length none, .fn (.func U0) [] [.ptr idN 0]] T (fun r T' => ∃ j : Int, r = .i .i64 j /\ decide (0 <= j) = o.cs.any (·.has n) /\ T' = T) := fun T idN hC hN => by
  refine K3 O1 q2c (by simp) ?_
  unfold G2
  simp -implicitDefEqProofs -dsimp only [go_sem, seval]
  refine z2x (T := T) (by repeat' (first | exact N8 _ _ | assumption | apply N7 | apply N0 | apply V0)) rfl hC hN hl hs o.cs 0 rfl (Nat.zero_le _) (fun h j => ?_) (fun h => ?_)
  ·simp -implicitDefEqProofs -dsimp only [go_sem, seval]
   exact I6 _ (fun _ => .inr (.inl rfl)) ⟨(j : Int), rfl, by rw [h]; exact decide_eq_true (by omega), rfl⟩
  ·simp -implicitDefEqProofs -dsimp only [go_sem, seval]
   exact I6 _ (fun _ => .inr (.inl rfl)) ⟨-1, rfl, by rw [h]; rfl, rfl⟩
 refine K3 O1 qca (by simp) ?_
 unfold q5s
 simp -implicitDefEqProofs -dsimp only [go_sem, seval]
 intro idN hidN
 refine J3 ?_
 have n1 : id ≠ idN := fun e => by subst e; rw [t1] at hidN; cases hidN
 have n2 : idC ≠ idN := fun e => by subst e; rw [t2] at hidN; cases hidN
 have u1 : (T.put idN (.row 1 [.i .i64 n])) id = .row 6 [.i .i64 o.s, .i .i64 o.l, .i .i64 o.v, .i .i64 o.n, .i .u64 o.ct, .sl idC 0 o.cs.length none] := by rw [Tab.put_ne _ _ n1, t1]
 have u2 : (T.put idN (.row 1 [.i .i64 n])) idC = .row 5 (q67 o.cs) := by rw [Tab.put_ne _ _ n2, t2]
 simp -implicitDefEqProofs -dsimp only [go_sem, seval, u1, ↓J0 _ _ q1p]
 have cC : ACalls prog O2 [.sl idC 0 o.cs.length none, .fn (.func U0) [] [.ptr idN 0]] (T.put idN (.row 1 [.i .i64 n])) (fun r T' => r = .b (o.cs.any (·.has n)) /\ T' = T.put idN (.row 1 [.i .i64 n])) := by
  refine K3 O1 q1o (by simp) ?_
  unfold Y3
  simp -implicitDefEqProofs -dsimp only [go_sem, seval, ↓J0 _ _ q2d]
  refine CallK.of (cI _ idN u2 (Tab.put_same ..)) (fun r T1 ⟨j, e1, e2, e3⟩ => J3 ?_)
  subst e1; subst e3
  simp -implicitDefEqProofs -dsimp only [go_sem, seval, e2]
  exact O6 (.refl _) rfl
 refine can cC ?_
 simp -implicitDefEqProofs -dsimp only [go_sem, seval]
 exact ((TabLe.refl T).put hidN).fin
end Go.Aw
