import Derived.Test.YtnkagdjmjakeiaaGreatDoorV22G21D
import Derived.Test.YtnkagdjmjakeiaaGreatDoorV22R28K
namespace Go.Aw
open Go
open Go.Proofs.Tryz (prog)
set_option linter.all false
set_option maxHeartbeats 4000000
structure Os where
 s : Int
 l : Int
 v : Int
 n : Int
 ct : Int
 cs : List Cf
def Os.row (o : Os) (idC : Nat) : Slot := .row 6 [.i .i64 o.s, .i .i64 o.l, .i .i64 o.v, .i .i64 o.n, .i .u64 o.ct, .sl idC 0 o.cs.length none]
def St (T : Tab) (id idC : Nat) (o : Os) : Prop := T id = o.row idC /\ T idC = .row 5 (q3f o.cs)
theorem St.ne {T : Tab} {id idC : Nat} {o : Os} (h : St T id idC o) : id ≠ idC := fun e => by
 have := h.1; rw [e, h.2] at this; cases this
def oT (T : Tab) (id idC : Nat) (o : Os) : Tab := (T.put id (o.row idC)).put idC (.row 5 (q3f o.cs))
theorem qky {T : Tab} {id idC : Nat} {o : Os} (h : id ≠ idC) : St (oT T id idC o) id idC o := ⟨by rw [oT, Tab.put_ne _ _ h, Tab.put_same], Tab.put_same ..⟩
theorem qrz {T : Tab} {id idC : Nat} {o : Os} (h : St T id idC o) : oT T id idC o = T := by
 rw [oT, Tab.put_self (T := T) h.1, Tab.put_self h.2]
theorem qy7 {T : Tab} {id idC : Nat} {o o' : Os} (h : id ≠ idC) : oT (oT T id idC o) id idC o' = oT T id idC o' := by
 simp only [oT]
 rw [Tab.put_comm _ (Ne.symm h), Tab.put_put, Tab.put_put]
def os0 (S L : Nat) (v : Int) : Os := ⟨S, L, v, 0, S, qry L S⟩
theorem qni {L : Nat} {f : AV -> AV} (hf : ∀ k n, f (.i k n) = .i k n) : ∀ (ps : List (AV × AV)) (k : Nat), (∀ a ∈ qkw L k ps, ∃ cap, f a.v = .fz a.n a.xs cap) -> Wks ((qkx k ps).map f) (((List.range ps.length).map fun i => cf0 L (k + i)).flatMap fun c => c.cells none none)
 | [], k, _ => trivial
 | p :: ps, k, h => by
  have ih := qni hf ps (k + 1) (fun a ha => h a (by simp only [qkw]; exact List.mem_cons_of_mem _ (List.mem_cons_of_mem _ ha)))
  obtain ⟨c1, e1⟩ := h _ (by simp only [qkw]; exact List.mem_cons_self ..)
  obtain ⟨c2, e2⟩ := h _ (by simp only [qkw]; exact List.mem_cons_of_mem _ (List.mem_cons_self ..))
  simp only at e1 e2
  have er : (List.range (p :: ps).length).map (fun i => cf0 L (k + i)) = cf0 L k :: (List.range ps.length).map (fun i => cf0 L (k + 1 + i)) := by
   rw [List.length_cons, List.range_succ_eq_map, List.map_cons, List.map_map, Nat.add_zero]
   congr 1
   apply List.map_congr_left
   intro i _
   simp only [Function.comp]
   rw [show k + (i + 1) = k + 1 + i by omega]
  rw [er, List.flatMap_cons]
  simp only [qkx, List.map_append]
  refine Wks.append ?_ ih
  simp only [cel, List.map_cons, List.map_nil, hf, e1, e2, Cf.cells, cf0, qg8, qju]
  exact ⟨.refl _, .refl _, .fz, .fz, .refl _, trivial⟩
theorem qnj {T0 : Tab} {S L : Nat} {v : Int} (h : sok S L v = true) : ACalls prog q21 [.agg (stC S L v)] T0 (fun r T' => ∃ id idC, r = .ptr id 0 /\ T0 id = .unused /\ T0 idC = .unused /\ id ≠ idC /\ T' = oT T0 id idC (os0 S L v)) := by
 refine K6 O2 qd0 (by simp) ?_
 have hh := of_decide_eq_true h
 have w1 : IntKind.u64.wrap (S : Int) = S := IntWalk.u64_in _ (by omega)
 unfold q8q
 simp -implicitDefEqProofs -dsimp only [go_sem, seval, stC, ↓J1 _ _ q4n]
 refine cpn (qap S L v) ?_
 simp -implicitDefEqProofs -dsimp only [go_sem, seval, h, w1]
 refine fun id hid => J5 ?_
 simp -implicitDefEqProofs -dsimp only [go_sem, seval]
 refine qrx (T0 := T0) (id := id) (by repeat' (first | exact O6 _ _ | assumption | apply O5 | apply N2 | apply Z8)) hid (by omega) (by omega) (by omega) (by omega) S 0 (by omega) (.fz 0 [] (some 0)) [] _ rfl ?_ (fun vC ps T1 hps how => ?_)
 ·exact ⟨_, rfl, .nil ..⟩
 simp -implicitDefEqProofs -dsimp only [go_sem, seval]
 obtain ⟨idC, e1, e2, e3⟩ := how.get (List.mem_cons_self ..) (by simp only; omega)
 simp only at e1 e2 e3
 subst e1
 have hne : idC ≠ id := fun e => by subst e; rw [Tab.put_same] at e3; cases e3
 refine qor how (by omega) (fun Sf h1 h2 h3 h4 => ⟨q3f (qry L S), ?_, ?_, ?_⟩)
 ·have := qni (L := L) (f := qau T1 Sf) (fun _ _ => rfl) ps 0 h3
  simp only [Nat.zero_add, hps] at this
  exact this
 ·rw [I2, qdl, hps]; simp [qry]
 have hidS : id ∉ Sf := fun hm => by have := h1 id hm; rw [Tab.put_same] at this; cases this
 simp only [frE, qva, qr2 hidS, qy0, qy1]
 simp -implicitDefEqProofs -dsimp only [go_sem, seval]
 refine q1z _ (fun _ => .inr (.inl rfl)) ⟨id, idC, rfl, hid, by rw [Tab.put_ne _ _ hne] at h4; exact h4, Ne.symm hne, ?_⟩
 simp [oT, Os.row, os0, stR, qry]
theorem qpm {s l v : Int} (h : sok s l v = false) : U4 prog q21 [.agg (stC s l v)] .nilptr := by
 refine K9 O2 qd0 (by simp) fun T => ?_
 unfold q8q
 simp -implicitDefEqProofs -dsimp only [go_sem, seval, stC, ↓J1 _ _ q4n]
 refine cpn (qap s l v) ?_
 simp -implicitDefEqProofs -dsimp only [go_sem, seval, h]
 exact K0 rfl
theorem qjv {T : Tab} {id idC : Nat} {o : Os} (hR : St T id idC o) (hl : ∀ c ∈ o.cs, qaq c) (k : Int) : ACalls prog G8 [.ptr id 0, .i .i64 k] T (fun r T' => r = cfR o.cs k /\ T' = T) := by
 obtain ⟨t1, t2⟩ := hR
 rw [Os.row] at t1
 refine K6 O2 qa8 (by simp) ?_
 unfold q4p
 simp -implicitDefEqProofs -dsimp only [go_sem, seval, t1, ↓U9, q0w, true_and, decide_true, decide_false]
 refine J8 (fun h1 => ?_) (fun h1 => ?_)
 ·have := of_decide_eq_true h1
  simp -implicitDefEqProofs -dsimp only [go_sem, seval, h1, ↓U9, q0w, true_and, decide_true, decide_false]
  refine Q3 ?_ rfl
  rw [cfR, at?, if_neg (by omega)]; exact .refl _
 have d1 := of_decide_eq_false h1
 simp -implicitDefEqProofs -dsimp only [go_sem, seval, h1, t1]
 refine J8 (fun h2 => ?_) (fun h2 => ?_)
 ·have := of_decide_eq_true h2
  simp -implicitDefEqProofs -dsimp only [go_sem, seval, h2]
  refine Q3 ?_ rfl
  rw [cfR, at?, if_pos (by omega), List.getElem?_eq_none (by omega)]; exact .refl _
 have d2 := of_decide_eq_false h2
 have hlt : k.toNat < o.cs.length := by omega
 have hget : o.cs[k.toNat]? = some o.cs[k.toNat] := List.getElem?_eq_getElem hlt
 have hcell := q7j hget
 have hlen : k.toNat * 5 + 5 <= (q3f o.cs).length := by rw [I2]; omega
 generalize hc : o.cs[k.toNat] = c at hget hcell
 have hs : qaq c := hl c (by rw [<- hc]; exact List.getElem_mem hlt)
 have k0 : 0 <= k := by omega
 have k1 : k < o.cs.length := by omega
 have cC := qex c none none hs.1 hs.2
 simp only [Cf.cells] at cC
 simp -implicitDefEqProofs -dsimp only [go_sem, seval, h2, t1, t2, k0, k1, hlen, hcell, Cf.cells, List.cons_append, List.nil_append, ↓J1 _ _ q8c]
 refine cpn cC ?_
 simp -implicitDefEqProofs -dsimp only [go_sem, seval, Cf.cells]
 refine Q3 ?_ rfl
 rw [cfR, at?, if_pos k0, hget]; exact .refl _
theorem qy8 {R : Y5} (hR : ExtR R) {T : Tab} {idC idN : Nat} {cs : List Cf} {n : Int} {fv : AV} (hfv : fv = .fn (.func Q1) [] [.ptr idN 0]) (hC : T idC = .row 5 (q3f cs)) (hN : T idN = .row 1 [.i .i64 n]) (hl : Len cs.length) (hs : ∀ c ∈ cs, qaq c) : ∀ (ys : List Cf) (k : Nat), cs.drop k = ys -> k <= cs.length ->
  (ys.any (·.has n) = true -> ∀ j : Nat, R .ret [(4, .i .i64 j)] [] T) ->
  (ys.any (·.has n) = false -> R (.exit 0) [(0, .sl idC 0 cs.length none), (1, fv), (7, .i .i64 cs.length), (8, .i .i64 cs.length), (9, .b false)] [] T) ->
  AW prog Q2 R [(0, .sl idC 0 cs.length none), (1, fv), (7, .i .i64 cs.length), (8, .i .i64 k)] [] T := by
 subst hfv
 unfold Len at hl
 intro ys
 induction ys with
 | nil =>
  intro k hk hle h1 h2
  have hk' := q18 hk hle
  refine G9 hR ?_
  unfold O7
  have h2 := h2 rfl
  rw [hk'] at h2
  simp -implicitDefEqProofs -dsimp only [go_sem, seval, hk', Int.lt_irrefl]
  exact h2
 | cons y ys ih =>
  intro k hk hle h1 h2
  obtain ⟨hlt, hy, hk'⟩ := q1e hk
  have hws : IntKind.i64.wrap ((k : Int) + 1) = ((k + 1 : Nat) : Int) := Q0 (by omega)
  have hcell := q7j hy
  have hlen : k * 5 + 5 <= (q3f cs).length := by rw [I2]; omega
  have cH := fun T (hN : T idN = .row 1 [.i .i64 n]) => show ACalls prog Q1 [.agg (y.cells none none), .ptr idN 0] T (fun v T' => v = .b (y.has n) /\ T' = T) from by
   have hsy := hs y (List.mem_of_getElem? hy)
   have cHas := qq7 y none none n (by unfold Len; have := hsy.1; omega)
   simp only [Cf.cells] at cHas ⊢
   refine K6 O2 q7c (by simp) ?_
   unfold q3e
   simp -implicitDefEqProofs -dsimp only [go_sem, seval, hN, ↓J1 _ _ q7f]
   refine cpn cHas ?_
   simp -implicitDefEqProofs -dsimp only [go_sem, seval]
   exact Q3 (.refl _) rfl
  simp only [Cf.cells] at cH
  refine Q7 (l := Q2) rfl hR ?_
  unfold O7
  simp -implicitDefEqProofs -dsimp only [go_sem, seval, Int.ofNat_lt, hlt, Int.natCast_nonneg, Int.toNat_natCast, hC, hlen, hcell, Cf.cells, List.cons_append, List.nil_append, q6y _ _ _ _ _ _ q7d]
  refine can (cH T hN) ?_
  rcases hb : y.has n with _ | _
  ·simp -implicitDefEqProofs -dsimp only [go_sem, seval, hws]
   exact ih (k + 1) hk' hlt (fun h => h1 (by rw [List.any_cons, hb, h]; rfl)) (fun h => h2 (by rw [List.any_cons, hb, h]; rfl))
  ·simp -implicitDefEqProofs -dsimp only [go_sem, seval]
   exact h1 (by rw [List.any_cons, hb]; rfl) k
theorem qjw {T : Tab} {id idC : Nat} {o : Os} (hR : St T id idC o) (hl : Len o.cs.length) (hs : ∀ c ∈ o.cs, qaq c) (n : Int) : ACalls prog G0 [.ptr id 0, .i .i64 n] T (fun r T' => r = .b (o.cs.any (·.has n)) /\ T' = T) := by
 obtain ⟨t1, t2⟩ := hR
 rw [Os.row] at t1
 have cI : ∀ T idN, T idC = .row 5 (q3f o.cs) -> T idN = .row 1 [.i .i64 n] -> ACalls prog N8 [.sl idC 0 o.cs.length none, .fn (.func Q1) [] [.ptr idN 0]] T (fun r T' => ∃ j : Int, r = .i .i64 j /\ decide (0 <= j) = o.cs.any (·.has n) /\ T' = T) := fun T idN hC hN => by
  refine K6 O2 q1c (by simp) ?_
  unfold Z0
  simp -implicitDefEqProofs -dsimp only [go_sem, seval]
  refine qy8 (T := T) (by repeat' (first | exact O6 _ _ | assumption | apply O5 | apply N2 | apply Z8)) rfl hC hN hl hs o.cs 0 rfl (Nat.zero_le _) (fun h j => ?_) (fun h => ?_)
  ·simp -implicitDefEqProofs -dsimp only [go_sem, seval]
   exact q1z _ (fun _ => .inr (.inl rfl)) ⟨(j : Int), rfl, by rw [h]; exact decide_eq_true (by omega), rfl⟩
  ·simp -implicitDefEqProofs -dsimp only [go_sem, seval]
   exact q1z _ (fun _ => .inr (.inl rfl)) ⟨-1, rfl, by rw [h]; rfl, rfl⟩
 refine K6 O2 q94 (by simp) ?_
 unfold q49
 simp -implicitDefEqProofs -dsimp only [go_sem, seval]
 intro idN hidN
 refine J5 ?_
 have n1 : id ≠ idN := fun e => by subst e; rw [t1] at hidN; cases hidN
 have n2 : idC ≠ idN := fun e => by subst e; rw [t2] at hidN; cases hidN
 have u1 : (T.put idN (.row 1 [.i .i64 n])) id = .row 6 [.i .i64 o.s, .i .i64 o.l, .i .i64 o.v, .i .i64 o.n, .i .u64 o.ct, .sl idC 0 o.cs.length none] := by rw [Tab.put_ne _ _ n1, t1]
 have u2 : (T.put idN (.row 1 [.i .i64 n])) idC = .row 5 (q3f o.cs) := by rw [Tab.put_ne _ _ n2, t2]
 simp -implicitDefEqProofs -dsimp only [go_sem, seval, u1, ↓J1 _ _ q0u]
 have cC : ACalls prog N5 [.sl idC 0 o.cs.length none, .fn (.func Q1) [] [.ptr idN 0]] (T.put idN (.row 1 [.i .i64 n])) (fun r T' => r = .b (o.cs.any (·.has n)) /\ T' = T.put idN (.row 1 [.i .i64 n])) := by
  refine K6 O2 q0t (by simp) ?_
  unfold V2
  simp -implicitDefEqProofs -dsimp only [go_sem, seval, ↓J1 _ _ q1d]
  refine CallK.of (cI _ idN u2 (Tab.put_same ..)) (fun r T1 ⟨j, e1, e2, e3⟩ => J5 ?_)
  subst e1; subst e3
  simp -implicitDefEqProofs -dsimp only [go_sem, seval, e2]
  exact Q3 (.refl _) rfl
 refine can cC ?_
 simp -implicitDefEqProofs -dsimp only [go_sem, seval]
 exact ((TabLe.refl T).put hidN).fin
end Go.Aw
