import Derived.Test.YtnkagdjmjakeiaaGreatDoorV22P21A
namespace Go.Aw
open Go
open Go.Proofs.Tryz (prog)
set_option linter.all false
set_option maxHeartbeats 4000000
def z35 (T : Tab) (id idC : Nat) (o : Os) (e : Int) (r : AV) (T' : Tab) : Prop :=
 r = .i .i64 e /\ ∃ idC', RSt T' id idC' o /\ (idC' = idC \/ T idC' = .unused) /\ ∀ j, j ≠ id -> j ≠ idC' -> T' j = T j
theorem qwx {o : Os} : o.step.rL = o.rL := rfl
def Rf.chg (o : Os) (c : Cm) (old : Rf) : Rf × Int := if c.k = 1 then old.remove c.nd (IntKind.u64.wrap (o.ct + 1)) else if c.k = 2 then old.learn c.nd (IntKind.u64.wrap (o.ct + 1)) else if c.k = 3 then old.promote c.nd (IntKind.u64.wrap (o.ct + 1)) else old.mark c.nd
theorem qs7 {o : Os} {c : Cm} {old : Cf} (hr : old.right = true) : Agree (o.chg c old) (Rf.chg o c old.plain) := by
 have hf := (Cf.right_len hr).2.2
 unfold Os.chg Rf.chg
 repeat' split
 ·exact qfh hf _ _
 ·exact qn1 hf _ _
 ·exact qjz hf _ _
 ·exact qp7 hf _
theorem qs8 {T : Tab} {id idC : Nat} {o : Os} (hR : RSt T id idC o) (hg : Good o) (val : List UInt8) (hv : val.length <= 1000000000) :
  ACalls prog V9 [.ptr id 0, .s val] T (z35 T id idC (o.apply val).1 (o.apply val).2) := by
 have hne := hR.ne
 have hgs : Good o.step := hg.of_cs rfl rfl
 obtain ⟨s1, s2, s3, s4, s5⟩ := hg.small
 have cG := qwk val hv
 simp only [Cm.cells] at cG
 have hR0 := hR
 obtain ⟨t1, t2⟩ := hR
 rw [Os.row] at t1
 have hrow : (T.put id (.row 6 [.i .i64 o.s, .i .i64 o.l, .i .i64 o.v, .i .i64 (IntKind.i64.wrap (o.n + 1)), .i .u64 o.ct, .sl idC 0 o.cs.length none])) = T.put id (o.step.row idC) := rfl
 obtain ⟨T1, hT1⟩ : ∃ T1, T1 = T.put id (o.step.row idC) := ⟨_, rfl⟩
 have u1 : T1 id = .row 6 [.i .i64 o.s, .i .i64 o.l, .i .i64 o.v, .i .i64 (IntKind.i64.wrap (o.n + 1)), .i .u64 o.ct, .sl idC 0 o.cs.length none] := by rw [hT1, Tab.put_same]; rfl
 have u2 : T1 idC = .row 4 (q7f o.rL) := by rw [hT1, Tab.put_ne _ _ (Ne.symm hne)]; exact t2
 have hst1 : RSt T1 id idC o.step := ⟨u1, u2⟩
 have fin1 : ∀ e : Int, qel (.i .i64 e) (z35 T id idC o.step e) T1 := fun e =>
  I6 _ (fun _ => .inr (.inl rfl)) ⟨rfl, idC, hst1, .inl rfl, fun j h1 _ => by rw [hT1, Tab.put_ne _ _ h1]⟩
 refine K3 O1 q6e (by simp) ?_
 unfold q2g
 rw [Os.apply]
 simp -implicitDefEqProofs -dsimp only [go_sem, seval, t1]
 refine V6 t1 rfl rfl (by simp) (J3 ?_)
 by_cases hv0 : val = []
 ·have d : decide (val = []) = true := decide_eq_true hv0
  rw [if_pos hv0]
  simp -implicitDefEqProofs -dsimp only [go_sem, seval, d]
  rw [hrow, <- hT1]
  exact fin1 0
 have d : decide (val = []) = false := decide_eq_false hv0
 rw [if_neg hv0]
 simp -implicitDefEqProofs -dsimp only [go_sem, seval, d, ↓J0 _ _ qdr]
 refine cpn cG ?_
 rcases hk : qfu val with _ | _
 ·rw [if_neg (by simp)]
  simp -implicitDefEqProofs -dsimp only [go_sem, seval, hk, Bool.not_false]
  rw [hrow, <- hT1]
  exact fin1 3
 rw [if_pos rfl]
 have hcm : (cmA val).ok = true /\ (cmA val).ep < 18446744073709551616 := by
  have e : cmA val = qmw val := by unfold cmA; rw [hk, if_pos rfl]
  rw [e]
  refine ⟨?_, (qrl val).2⟩
  unfold qfu at hk
  rw [Bool.and_eq_true] at hk
  exact hk.2
 generalize cmA val = c at hcm ⊢
 obtain ⟨hcok, hcep⟩ := hcm
 have hh := of_decide_eq_true hcok
 rw [Os.do]
 have ecs : o.step.cs = o.cs := rfl
 have ect : o.step.ct = o.ct := rfl
 have ev : o.step.v = o.v := rfl
 have echg : ∀ old, o.step.chg c old = o.chg c old := fun _ => rfl
 simp only [ecs, ect, ev, echg]
 have hct0 := hg.ct0
 have hct1 := hg.ct1
 rcases hat : at? o.cs c.sh with _ | old
 ·have hge : (o.cs.length : Int) <= c.sh := by
   unfold at? at hat
   rw [if_pos (by omega)] at hat
   have := List.getElem?_eq_none_iff.1 hat
   omega
  have d1 : decide ((o.cs.length : Int) <= c.sh) = true := decide_eq_true hge
  rw [hrow, <- hT1]
  simp -implicitDefEqProofs -dsimp only [go_sem, seval, hk, u1, d1, Bool.not_true, decide_true]
  exact fin1 1
 have hlt : 0 <= c.sh /\ o.cs[c.sh.toNat]? = some old := by
  unfold at? at hat
  split at hat
  ·exact ⟨by assumption, hat⟩
  ·cases hat
 have hidx : c.sh.toNat < o.cs.length := (List.getElem?_eq_some_iff.1 hlt.2).1
 have d1 : decide ((o.cs.length : Int) <= c.sh) = false := decide_eq_false (by omega)
 obtain ⟨r1, r2, r3, r4⟩ := hg.one _ _ hlt.2
 have hlr := Cf.right_len r1
 have hrl : o.rL[c.sh.toNat]? = some old.plain := by rw [Os.rL, List.getElem?_map, hlt.2]; rfl
 have hcell := qn3 hrl
 have hle4 : c.sh.toNat * 4 + 4 <= (q7f o.rL).length := by rw [q68, qha]; omega
 have k1 : c.sh < o.cs.length := by omega
 have hep : old.plain.ep = old.ep := rfl
 simp only
 rw [hrow, <- hT1]
 by_cases h1 : o.v <= c.nd
 ·have dv : decide (o.v <= c.nd) = true := decide_eq_true h1
  rw [if_pos h1]
  simp -implicitDefEqProofs -dsimp only [go_sem, seval, hk, u1, d1, dv, Bool.not_true, decide_true]
  exact fin1 1
 have dv : decide (o.v <= c.nd) = false := decide_eq_false h1
 rw [if_neg h1]
 by_cases h2 : ¬ c.ep = old.ep
 ·have d2 : decide (old.ep = c.ep) = false := decide_eq_false (fun e => h2 e.symm)
  rw [if_pos h2]
  simp -implicitDefEqProofs -dsimp only [go_sem, seval, hk, u1, u2, d1, dv, d2, hep, hlt.1, k1, hle4, hcell, Rf.cells, List.cons_append, List.nil_append, Bool.not_true, Bool.not_false, decide_true]
  exact fin1 8
 have d2 : decide (old.ep = c.ep) = true := decide_eq_true (Classical.byContradiction fun q => h2 (fun e => q e.symm))
 rw [if_neg h2]
 by_cases h3 : ¬ c.k = 4 /\ o.ct = 18446744073709551615
 ·have d3 : decide (c.k = 4) = false := decide_eq_false h3.1
  have d3' : decide (o.ct = 18446744073709551615) = true := decide_eq_true h3.2
  rw [if_pos h3]
  simp -implicitDefEqProofs -dsimp only [go_sem, seval, hk, u1, u2, d1, dv, d2, d3, d3', hep, hlt.1, k1, hle4, hcell, Rf.cells, List.cons_append, List.nil_append, Bool.not_true, Bool.not_false, decide_true]
  exact fin1 9
 rw [if_neg h3]
 have d3 : decide (c.k = 4) = true \/ (decide (c.k = 4) = false /\ decide (o.ct = 18446744073709551615) = false) := by
  by_cases h : c.k = 4
  ·exact .inl (decide_eq_true h)
  ·exact .inr ⟨decide_eq_false h, decide_eq_false (fun e => h3 ⟨h, e⟩)⟩
 have cHas := qs5 hst1 s3 s5 (n := c.nd) (by omega)
 rw [qwx, qs6 hg (by omega)] at cHas
 by_cases h4 : c.k = 2 /\ o.cs.any (·.has c.nd) = true
 ·have d4 : decide (c.k = 2) = true := decide_eq_true h4.1
  rw [if_pos h4]
  have d3b : decide (c.k = 4) = false := decide_eq_false (by omega)
  have d3c : decide (o.ct = 18446744073709551615) = false := by
   rcases d3 with d | d
   ·rw [d3b] at d; cases d
   ·exact d.2
  rw [h4.2] at cHas
  simp -implicitDefEqProofs -dsimp only [go_sem, seval, hk, u1, u2, d1, dv, d2, d3b, d3c, d4, hep, hlt.1, k1, hle4, hcell, Rf.cells, List.cons_append, List.nil_append, Bool.not_true, Bool.not_false, decide_true, ↓Q1, I5, true_and, ↓J0 _ _ V3]
  refine CallK.of cHas (fun r T2 ⟨j, e1, e2, e3⟩ => J3 ?_)
  subst e1; subst e3
  simp -implicitDefEqProofs -dsimp only [go_sem, seval, e2]
  exact fin1 7
 rw [if_neg h4]
 have hag := qs7 (o := o) (c := c) r1
 have hpl : old.plain.l.length < 1000000000 := by rw [old.plain_len]; omega
 have c1 := qik old.plain none c.nd (IntKind.u64.wrap (o.ct + 1)) hpl
 have c2 := qrs old.plain none c.nd (IntKind.u64.wrap (o.ct + 1)) hpl
 have c3 := qn0 old.plain none c.nd (IntKind.u64.wrap (o.ct + 1)) hpl
 have c4 := qu2 old.plain none c.nd hpl
 have hsl : N2 T1 4 (.sl idC 0 o.cs.length none) = some (q7f o.rL) := by
  have hln : (q7f o.rL).length = o.cs.length * 4 := by rw [q68, qha]
  simp only [N2, u2, if_true, Nat.zero_add, hln, Nat.le_refl, List.drop_zero]
  rw [List.take_of_length_le (by omega)]
  simp
 have hset : N4 (q7f o.rL) (c.sh.toNat * 4) (AV.agg [.i .u64 (o.chg c old).1.plain.ep, .i .i64 (o.chg c old).1.plain.sh, .fz (o.chg c old).1.plain.l.length (mem (o.chg c old).1.plain.l) none, .i .i64 (o.chg c old).1.plain.ln]).cells = q7f (o.rL.set c.sh.toNat (o.chg c old).1.plain) := qu8 (by rw [qha]; exact hidx) _
 have hcg : Rf.chg o c old.plain = ((o.chg c old).1.plain, (o.chg c old).2) := by
  rw [hag.e, hag.pl]
 have hlen1 : o.cs.length <= 4 := hg.len
 by_cases hk1 : c.k = 1
 ·have hk4 : decide (c.k = 4) = false := decide_eq_false (by omega)
  have d3c : decide (o.ct = 18446744073709551615) = false := by
   rcases d3 with d | d
   ·rw [hk4] at d; cases d
   ·exact d.2
  unfold Rf.chg at hcg
  rw [if_pos hk1] at hcg
  rw [hcg] at c1
  simp only [Rf.ret, Rf.cells] at c1
  have dk1 : decide (c.k = 1) = true := decide_eq_true (by omega)
  have dk2 : decide (c.k = 2) = false := decide_eq_false (by omega)
  have dk3 : decide (c.k = 3) = false := decide_eq_false (by omega)
  simp -implicitDefEqProofs -dsimp only [go_sem, seval, hk, u1, u2, d1, dv, d2, hep, hlt.1, k1, hle4, hcell, Rf.cells, List.cons_append, List.nil_append, Bool.not_true, Bool.not_false, ↓Q1, I5, true_and, decide_true, hk4, d3c, dk1, dk2, dk3, ↓J0 _ _ q0a]
  refine cpn c1 ?_
  by_cases h5 : ¬ (o.chg c old).2 = 0
  ·have d5 : decide ((o.chg c old).2 = 0) = false := decide_eq_false h5
   rw [if_pos h5]
   simp -implicitDefEqProofs -dsimp only [go_sem, seval, d5, Bool.not_false]
   exact fin1 _
  have d5 : decide ((o.chg c old).2 = 0) = true := decide_eq_true (Classical.byContradiction h5)
  rw [if_neg h5]
  simp -implicitDefEqProofs -dsimp only [go_sem, seval, d5, Bool.not_true, u1]
  refine (Own.nil T1 4).app (m := o.cs.length) (news := q7f o.rL) hsl rfl (by omega) (by omega) fun v2 T2 ho => J3 ?_
  rw [Nat.zero_add, List.nil_append] at ho
  obtain ⟨id2, rfl, hid2, rfl⟩ := ho.ne (by omega)
  have n2 : id2 ≠ id := fun e => by subst e; rw [u1] at hid2; cases hid2
  have n3 : id2 ≠ idC := fun e => by subst e; rw [u2] at hid2; cases hid2
  have w2 : (T1.put id2 (.row 4 (q7f o.rL))) id2 = .row 4 (q7f o.rL) := Tab.put_same ..
  simp -implicitDefEqProofs -dsimp only [go_sem, seval, hlt.1, k1]
  refine V6 w2 rfl rfl hle4 (J3 ?_)
  rw [hset, Tab.put_put]
  have w1 : (T1.put id2 (.row 4 (q7f (o.rL.set c.sh.toNat (o.chg c old).1.plain)))) id = .row 6 [.i .i64 o.s, .i .i64 o.l, .i .i64 o.v, .i .i64 (IntKind.i64.wrap (o.n + 1)), .i .u64 o.ct, .sl idC 0 o.cs.length none] := by rw [Tab.put_ne _ _ (Ne.symm n2), u1]
  simp -implicitDefEqProofs -dsimp only [go_sem, seval]
  refine V6 w1 rfl rfl (by simp) (J3 ?_)
  have hTid2 : T id2 = .unused := by rw [hT1, Tab.put_ne _ _ n2] at hid2; exact hid2
  have w3 : ((T1.put id2 (.row 4 (q7f (o.rL.set c.sh.toNat (o.chg c old).1.plain)))).put id (.row 6 [.i .i64 o.s, .i .i64 o.l, .i .i64 o.v, .i .i64 (IntKind.i64.wrap (o.n + 1)), .i .u64 o.ct, .sl id2 0 o.cs.length none])) id = .row 6 [.i .i64 o.s, .i .i64 o.l, .i .i64 o.v, .i .i64 (IntKind.i64.wrap (o.n + 1)), .i .u64 o.ct, .sl id2 0 o.cs.length none] := Tab.put_same ..
  simp -implicitDefEqProofs -dsimp only [go_sem, seval, hk4, Bool.not_false, w3]
  refine V6 w3 rfl rfl (by simp) (J3 ?_)
  simp -implicitDefEqProofs -dsimp only [go_sem, seval]
  refine I6 _ (fun _ => .inr (.inl rfl)) ⟨rfl, id2, ⟨?_, ?_⟩, .inr hTid2, fun j h1 h2 => ?_⟩
  ·rw [Tab.put_same, if_neg (of_decide_eq_false hk4)]; simp [Os.row, Os.step]
  ·rw [Tab.put_ne _ _ n2, Tab.put_ne _ _ n2, Tab.put_same]; simp [Os.rL, List.map_set]
  ·rw [Tab.put_ne _ _ h1, Tab.put_ne _ _ h1, Tab.put_ne _ _ h2, hT1, Tab.put_ne _ _ h1]
 by_cases hk2 : c.k = 2
 ·have hk4 : decide (c.k = 4) = false := decide_eq_false (by omega)
  have d3c : decide (o.ct = 18446744073709551615) = false := by
   rcases d3 with d | d
   ·rw [hk4] at d; cases d
   ·exact d.2
  unfold Rf.chg at hcg
  rw [if_neg (by omega)] at hcg; rw [if_pos hk2] at hcg
  rw [hcg] at c2
  simp only [Rf.ret, Rf.cells] at c2
  have dk1 : decide (c.k = 1) = false := decide_eq_false (by omega)
  have dk2 : decide (c.k = 2) = true := decide_eq_true (by omega)
  have dk3 : decide (c.k = 3) = false := decide_eq_false (by omega)
  have hany : o.cs.any (·.has c.nd) = false := by
   cases h : o.cs.any (·.has c.nd) with
   | false => rfl
   | true => exact absurd ⟨hk2, h⟩ h4
  rw [hany] at cHas
  simp -implicitDefEqProofs -dsimp only [go_sem, seval, hk, u1, u2, d1, dv, d2, hep, hlt.1, k1, hle4, hcell, Rf.cells, List.cons_append, List.nil_append, Bool.not_true, Bool.not_false, ↓Q1, I5, true_and, decide_true, hk4, d3c, dk2, ↓J0 _ _ V3]
  refine CallK.of cHas (fun r T2 ⟨j, e1, e2, e3⟩ => J3 ?_)
  subst e1
  rw [e3]
  simp -implicitDefEqProofs -dsimp only [go_sem, seval, e2, hk, u1, u2, d1, dv, d2, hep, hlt.1, k1, hle4, hcell, Rf.cells, List.cons_append, List.nil_append, Bool.not_true, Bool.not_false, ↓Q1, I5, true_and, decide_true, hk4, d3c, dk1, dk2, dk3, ↓J0 _ _ qaw]
  refine cpn c2 ?_
  by_cases h5 : ¬ (o.chg c old).2 = 0
  ·have d5 : decide ((o.chg c old).2 = 0) = false := decide_eq_false h5
   rw [if_pos h5]
   simp -implicitDefEqProofs -dsimp only [go_sem, seval, d5, Bool.not_false]
   exact fin1 _
  have d5 : decide ((o.chg c old).2 = 0) = true := decide_eq_true (Classical.byContradiction h5)
  rw [if_neg h5]
  simp -implicitDefEqProofs -dsimp only [go_sem, seval, d5, Bool.not_true, u1]
  refine (Own.nil T1 4).app (m := o.cs.length) (news := q7f o.rL) hsl rfl (by omega) (by omega) fun v2 T2 ho => J3 ?_
  rw [Nat.zero_add, List.nil_append] at ho
  obtain ⟨id2, rfl, hid2, rfl⟩ := ho.ne (by omega)
  have n2 : id2 ≠ id := fun e => by subst e; rw [u1] at hid2; cases hid2
  have n3 : id2 ≠ idC := fun e => by subst e; rw [u2] at hid2; cases hid2
  have w2 : (T1.put id2 (.row 4 (q7f o.rL))) id2 = .row 4 (q7f o.rL) := Tab.put_same ..
  simp -implicitDefEqProofs -dsimp only [go_sem, seval, hlt.1, k1]
  refine V6 w2 rfl rfl hle4 (J3 ?_)
  rw [hset, Tab.put_put]
  have w1 : (T1.put id2 (.row 4 (q7f (o.rL.set c.sh.toNat (o.chg c old).1.plain)))) id = .row 6 [.i .i64 o.s, .i .i64 o.l, .i .i64 o.v, .i .i64 (IntKind.i64.wrap (o.n + 1)), .i .u64 o.ct, .sl idC 0 o.cs.length none] := by rw [Tab.put_ne _ _ (Ne.symm n2), u1]
  simp -implicitDefEqProofs -dsimp only [go_sem, seval]
  refine V6 w1 rfl rfl (by simp) (J3 ?_)
  have hTid2 : T id2 = .unused := by rw [hT1, Tab.put_ne _ _ n2] at hid2; exact hid2
  have w3 : ((T1.put id2 (.row 4 (q7f (o.rL.set c.sh.toNat (o.chg c old).1.plain)))).put id (.row 6 [.i .i64 o.s, .i .i64 o.l, .i .i64 o.v, .i .i64 (IntKind.i64.wrap (o.n + 1)), .i .u64 o.ct, .sl id2 0 o.cs.length none])) id = .row 6 [.i .i64 o.s, .i .i64 o.l, .i .i64 o.v, .i .i64 (IntKind.i64.wrap (o.n + 1)), .i .u64 o.ct, .sl id2 0 o.cs.length none] := Tab.put_same ..
  simp -implicitDefEqProofs -dsimp only [go_sem, seval, hk4, Bool.not_false, w3]
  refine V6 w3 rfl rfl (by simp) (J3 ?_)
  simp -implicitDefEqProofs -dsimp only [go_sem, seval]
  refine I6 _ (fun _ => .inr (.inl rfl)) ⟨rfl, id2, ⟨?_, ?_⟩, .inr hTid2, fun j h1 h2 => ?_⟩
  ·rw [Tab.put_same, if_neg (of_decide_eq_false hk4)]; simp [Os.row, Os.step]
  ·rw [Tab.put_ne _ _ n2, Tab.put_ne _ _ n2, Tab.put_same]; simp [Os.rL, List.map_set]
  ·rw [Tab.put_ne _ _ h1, Tab.put_ne _ _ h1, Tab.put_ne _ _ h2, hT1, Tab.put_ne _ _ h1]
 by_cases hk3 : c.k = 3
 ·have hk4 : decide (c.k = 4) = false := decide_eq_false (by omega)
  have d3c : decide (o.ct = 18446744073709551615) = false := by
   rcases d3 with d | d
   ·rw [hk4] at d; cases d
   ·exact d.2
  unfold Rf.chg at hcg
  rw [if_neg (by omega)] at hcg; rw [if_neg (by omega)] at hcg; rw [if_pos hk3] at hcg
  rw [hcg] at c3
  simp only [Rf.ret, Rf.cells] at c3
  have dk1 : decide (c.k = 1) = false := decide_eq_false (by omega)
  have dk2 : decide (c.k = 2) = false := decide_eq_false (by omega)
  have dk3 : decide (c.k = 3) = true := decide_eq_true (by omega)
  simp -implicitDefEqProofs -dsimp only [go_sem, seval, hk, u1, u2, d1, dv, d2, hep, hlt.1, k1, hle4, hcell, Rf.cells, List.cons_append, List.nil_append, Bool.not_true, Bool.not_false, ↓Q1, I5, true_and, decide_true, hk4, d3c, dk1, dk2, dk3, ↓J0 _ _ q91]
  refine cpn c3 ?_
  by_cases h5 : ¬ (o.chg c old).2 = 0
  ·have d5 : decide ((o.chg c old).2 = 0) = false := decide_eq_false h5
   rw [if_pos h5]
   simp -implicitDefEqProofs -dsimp only [go_sem, seval, d5, Bool.not_false]
   exact fin1 _
  have d5 : decide ((o.chg c old).2 = 0) = true := decide_eq_true (Classical.byContradiction h5)
  rw [if_neg h5]
  simp -implicitDefEqProofs -dsimp only [go_sem, seval, d5, Bool.not_true, u1]
  refine (Own.nil T1 4).app (m := o.cs.length) (news := q7f o.rL) hsl rfl (by omega) (by omega) fun v2 T2 ho => J3 ?_
  rw [Nat.zero_add, List.nil_append] at ho
  obtain ⟨id2, rfl, hid2, rfl⟩ := ho.ne (by omega)
  have n2 : id2 ≠ id := fun e => by subst e; rw [u1] at hid2; cases hid2
  have n3 : id2 ≠ idC := fun e => by subst e; rw [u2] at hid2; cases hid2
  have w2 : (T1.put id2 (.row 4 (q7f o.rL))) id2 = .row 4 (q7f o.rL) := Tab.put_same ..
  simp -implicitDefEqProofs -dsimp only [go_sem, seval, hlt.1, k1]
  refine V6 w2 rfl rfl hle4 (J3 ?_)
  rw [hset, Tab.put_put]
  have w1 : (T1.put id2 (.row 4 (q7f (o.rL.set c.sh.toNat (o.chg c old).1.plain)))) id = .row 6 [.i .i64 o.s, .i .i64 o.l, .i .i64 o.v, .i .i64 (IntKind.i64.wrap (o.n + 1)), .i .u64 o.ct, .sl idC 0 o.cs.length none] := by rw [Tab.put_ne _ _ (Ne.symm n2), u1]
  simp -implicitDefEqProofs -dsimp only [go_sem, seval]
  refine V6 w1 rfl rfl (by simp) (J3 ?_)
  have hTid2 : T id2 = .unused := by rw [hT1, Tab.put_ne _ _ n2] at hid2; exact hid2
  have w3 : ((T1.put id2 (.row 4 (q7f (o.rL.set c.sh.toNat (o.chg c old).1.plain)))).put id (.row 6 [.i .i64 o.s, .i .i64 o.l, .i .i64 o.v, .i .i64 (IntKind.i64.wrap (o.n + 1)), .i .u64 o.ct, .sl id2 0 o.cs.length none])) id = .row 6 [.i .i64 o.s, .i .i64 o.l, .i .i64 o.v, .i .i64 (IntKind.i64.wrap (o.n + 1)), .i .u64 o.ct, .sl id2 0 o.cs.length none] := Tab.put_same ..
  simp -implicitDefEqProofs -dsimp only [go_sem, seval, hk4, Bool.not_false, w3]
  refine V6 w3 rfl rfl (by simp) (J3 ?_)
  simp -implicitDefEqProofs -dsimp only [go_sem, seval]
  refine I6 _ (fun _ => .inr (.inl rfl)) ⟨rfl, id2, ⟨?_, ?_⟩, .inr hTid2, fun j h1 h2 => ?_⟩
  ·rw [Tab.put_same, if_neg (of_decide_eq_false hk4)]; simp [Os.row, Os.step]
  ·rw [Tab.put_ne _ _ n2, Tab.put_ne _ _ n2, Tab.put_same]; simp [Os.rL, List.map_set]
  ·rw [Tab.put_ne _ _ h1, Tab.put_ne _ _ h1, Tab.put_ne _ _ h2, hT1, Tab.put_ne _ _ h1]
 have hk4 : decide (c.k = 4) = true := decide_eq_true (by omega)
 have dk1 : decide (c.k = 1) = false := decide_eq_false (by omega)
 have dk2 : decide (c.k = 2) = false := decide_eq_false (by omega)
 have dk3 : decide (c.k = 3) = false := decide_eq_false (by omega)
 unfold Rf.chg at hcg
 rw [if_neg hk1, if_neg hk2, if_neg hk3] at hcg
 rw [hcg] at c4
 simp only [Rf.ret, Rf.cells] at c4
 simp -implicitDefEqProofs -dsimp only [go_sem, seval, hk, u1, u2, d1, dv, d2, hep, hlt.1, k1, hle4, hcell, Rf.cells, List.cons_append, List.nil_append, Bool.not_true, Bool.not_false, ↓Q1, I5, true_and, decide_true, hk4, dk1, dk2, dk3, ↓J0 _ _ qc2]
 refine cpn c4 ?_
 by_cases h5 : ¬ (o.chg c old).2 = 0
 ·have d5 : decide ((o.chg c old).2 = 0) = false := decide_eq_false h5
  rw [if_pos h5]
  simp -implicitDefEqProofs -dsimp only [go_sem, seval, d5, Bool.not_false]
  exact fin1 _
 have d5 : decide ((o.chg c old).2 = 0) = true := decide_eq_true (Classical.byContradiction h5)
 rw [if_neg h5]
 simp -implicitDefEqProofs -dsimp only [go_sem, seval, d5, Bool.not_true, u1]
 refine (Own.nil T1 4).app (m := o.cs.length) (news := q7f o.rL) hsl rfl (by omega) (by omega) fun v2 T2 ho => J3 ?_
 rw [Nat.zero_add, List.nil_append] at ho
 obtain ⟨id2, rfl, hid2, rfl⟩ := ho.ne (by omega)
 have n2 : id2 ≠ id := fun e => by subst e; rw [u1] at hid2; cases hid2
 have n3 : id2 ≠ idC := fun e => by subst e; rw [u2] at hid2; cases hid2
 have w2 : (T1.put id2 (.row 4 (q7f o.rL))) id2 = .row 4 (q7f o.rL) := Tab.put_same ..
 simp -implicitDefEqProofs -dsimp only [go_sem, seval, hlt.1, k1]
 refine V6 w2 rfl rfl hle4 (J3 ?_)
 rw [hset, Tab.put_put]
 have w1 : (T1.put id2 (.row 4 (q7f (o.rL.set c.sh.toNat (o.chg c old).1.plain)))) id = .row 6 [.i .i64 o.s, .i .i64 o.l, .i .i64 o.v, .i .i64 (IntKind.i64.wrap (o.n + 1)), .i .u64 o.ct, .sl idC 0 o.cs.length none] := by rw [Tab.put_ne _ _ (Ne.symm n2), u1]
 simp -implicitDefEqProofs -dsimp only [go_sem, seval]
 refine V6 w1 rfl rfl (by simp) (J3 ?_)
 have hTid2 : T id2 = .unused := by rw [hT1, Tab.put_ne _ _ n2] at hid2; exact hid2
 simp -implicitDefEqProofs -dsimp only [go_sem, seval, hk4]
 refine I6 _ (fun _ => .inr (.inl rfl)) ⟨rfl, id2, ⟨?_, ?_⟩, .inr hTid2, fun j h1 h2 => ?_⟩
 ·rw [Tab.put_same, if_pos (of_decide_eq_true hk4)]; simp [Os.row, Os.step]
 ·rw [Tab.put_ne _ _ n2, Tab.put_same]; simp [Os.rL, List.map_set]
 ·rw [Tab.put_ne _ _ h1, Tab.put_ne _ _ h2, hT1, Tab.put_ne _ _ h1]
end Go.Aw
