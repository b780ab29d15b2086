import Derived.Test.YtnkagdjmjakeiaaGreatDoorV2J
namespace Go.Aw
open Go
open Go.Proofs.Tryz (prog)
set_option linter.all false
set_option maxHeartbeats 8000000
set_option maxRecDepth 8000
theorem qqc {o : Os} {lim : Int} {l : List Wr} (hg : Good o) (hf : Fit o) (hct : o.ct < 18446744073709551615) : ∀ (us : List Cf) (i : Nat), o.cs.drop i = us -> (qby o lim l us).2 = true ->
  ∃ (k : Nat) (c : Cf) (m : Cm), o.cs[k]? = some c /\ qby o lim l us = (m.cells, true) /\ m.sh = k /\ m.ep = c.ep /\ Does o c m /\ (m.k = 1 -> qg3 lim l m.nd = true)
 | [], _, _, h => by cases h
 | c :: cs, i, hd, h => by
  obtain ⟨hlt, hy, hd'⟩ := q1e hd
  unfold qby at h ⊢
  split at h
  ·rename_i q
   rw [if_pos q]
   obtain ⟨q1, q2⟩ := qw2 hg hf hct hy q
   obtain ⟨r1, r2, r3, r4⟩ := hg.one _ _ hy
   exact ⟨i, c, ⟨(qhp o lim l c).1, c.sh, c.ep, (qhp o lim l c).2⟩, hy, rfl, r2, rfl, q1, q2⟩
  ·rename_i q
   rw [if_neg q]
   exact qqc hg hf hct cs (i + 1) hd' h
theorem qyb {o : Os} (hg : Good o) (hct : o.ct < 18446744073709551615) {k : Nat} {c : Cf} {m : Cm} (hc : o.cs[k]? = some c) (h1 : m.sh = k) (h2 : m.ep = c.ep) (h : Does o c m) :
  o.step.do m = ({ o.step with cs := o.cs.set k (o.chg m c).1, ct := if m.k = 4 then o.ct else IntKind.u64.wrap (o.ct + 1) }, 0) := by
 have hat : at? o.step.cs m.sh = some c := by
  unfold at?
  rw [if_pos (by omega), h1, Int.toNat_natCast]; exact hc
 have e : o.step.chg m c = o.chg m c := rfl
 unfold Os.do
 rw [hat]
 simp only
 rw [if_neg (show ¬ o.step.v <= m.nd from fun q => by have : o.v <= m.nd := q; have := h.v; omega), if_neg (fun q => q h2), if_neg (fun q => by have : o.ct = 18446744073709551615 := q.2; omega),
  if_neg (fun q => by have := h.has q.1; rw [show o.step.cs = o.cs from rfl, this] at q; cases q.2), e, if_neg (fun q => q h.ok), h1, Int.toNat_natCast]
 rfl
theorem qsg {o : Os} (hg : Good o) {k : Nat} {c : Cf} {m : Cm} (hc : o.cs[k]? = some c) (h1 : m.sh = k) (h2 : m.ep = c.ep) (h : Does o c m) : m.ok = true /\ m.ep < 18446744073709551616 := by
 obtain ⟨r1, r2, r3, r4⟩ := hg.one _ _ hc
 have hk := (List.getElem?_eq_some_iff.1 hc).1
 have := hg.len
 have := hg.ct1
 have q1 := h.k
 have q2 := h.nd
 refine ⟨decide_eq_true ⟨q1.1, q1.2, by omega, by omega, by omega, q2.1, q2.2⟩, by omega⟩
theorem qsh {R : Y5} (hR : ExtR R) {T0 : Tab} {l : List Cm} {cap : Option Nat} {a ia b ib : Nat} {m : Int} {n3 : Nat} {xs3 : List AV} {c3 : Option Nat} (hl : Len l.length) (he : ∀ c ∈ l, c.ep < 18446744073709551616) : ∀ (ys : List Cm) (j : Nat), l.drop j = ys -> j <= l.length -> ∀ (T : Tab) (o : Os), Two T0 T a ia b ib o o -> Good o -> Fit o -> o.ct <= 4 + (min j 15 : Nat) ->
  (∀ (T : Tab) (o : Os), Two T0 T a ia b ib o o -> Good o -> Fit o -> o.ct < 18446744073709551615 -> R (.exit 0) [(2, .i .i64 m), (3, .fz n3 xs3 c3), (9, .ptr a 0), (10, .ptr b 0), (34, .fz l.length (qj3 l) cap), (35, .i .i64 l.length), (36, .i .i64 l.length), (37, .b false)] [] T) ->
  AW prog I0 R [(2, .i .i64 m), (3, .fz n3 xs3 c3), (9, .ptr a 0), (10, .ptr b 0), (34, .fz l.length (qj3 l) cap), (35, .i .i64 l.length), (36, .i .i64 j)] [] T := by
 unfold Len at hl
 intro ys
 induction ys with
 | nil =>
  intro j hj hle T o hT hg hf hct h2
  have hj' := q18 hj hle
  refine G9 hR ?_
  unfold G5
  have h2 := h2 T o hT hg hf (by omega)
  rw [hj'] at h2
  simp -implicitDefEqProofs -dsimp only [go_sem, seval, hj', Int.lt_irrefl]
  exact h2
 | cons y ys ih =>
  intro j hj hle T o hT hg hf hct h2
  obtain ⟨hlt, hy, hj'⟩ := q1e hj
  have hws : IntKind.i64.wrap ((j : Int) + 1) = ((j + 1 : Nat) : Int) := Q0 (by omega)
  have hcell := qpq hy
  have hlen : j * 4 + 4 <= (qj3 l).length := by rw [qns]; omega
  refine Q7 (l := I0) rfl hR ?_
  unfold G5
  rcases d : decide ((j : Int) < 15) with _ | _
  ·simp -implicitDefEqProofs -dsimp only [go_sem, seval, Int.ofNat_lt, hlt, Int.natCast_nonneg, Int.toNat_natCast, hlen, hcell, Cm.cells, List.cons_append, List.nil_append, d, hws]
   exact ih (j + 1) hj' hlt T o hT hg hf (by omega) h2
  have hj15 := of_decide_eq_true d
  obtain ⟨s1, s2, s3, s4, s5⟩ := hg.small
  have hey := he y (List.mem_of_getElem? hy)
  have cT := qs2 hT.sa s1 s2 y hey
  have hvl := qs4 (cs := o.cs) (c := y) s2 hey
  have cA := qar hT.sa s3 s1 (txt o.cs y) (by omega)
  have hTA := hT.setA (o.apply (txt o.cs y)).1
  have cB := qar hTA.sb s3 s1 (txt o.cs y) (by omega)
  have hTB := hTA.setB (o.apply (txt o.cs y)).1
  have gA := (ql1 hg (txt o.cs y)).1
  have fA := qnv hg hf (by omega) (txt o.cs y)
  simp only [Cm.cells] at cT
  simp -implicitDefEqProofs -dsimp only [go_sem, seval, Int.ofNat_lt, hlt, Int.natCast_nonneg, Int.toNat_natCast, hlen, hcell, Cm.cells, List.cons_append, List.nil_append, d, ↓J1 _ _ q8t]
  refine can cT ?_
  simp -implicitDefEqProofs -dsimp only [go_sem, seval, ↓J1 _ _ V3]
  refine can cA ?_
  simp -implicitDefEqProofs -dsimp only [go_sem, seval, ↓J1 _ _ V3]
  refine can cB ?_
  simp -implicitDefEqProofs -dsimp only [go_sem, seval, hws]
  exact ih (j + 1) hj' hlt _ _ hTB gA fA.1 (by have := fA.2; omega) h2
theorem qhm (s l0 v : Int) (l : List Cm) (cap : Option Nat) (m : Int) (es : List Ev) (cap2 : Option Nat) (hl : Len l.length) (he : ∀ c ∈ l, c.ep < 18446744073709551616) (hes : Len es.length) :
  U4 prog q27 [.agg (stC s l0 v), .fz l.length (qj3 l) cap, .i .i64 m, .fz es.length (es.flatMap evC) cap2] (.b true) := by
 refine K9 O2 q5b (by simp) fun T => ?_
 have cS := qpj s l0 v
 have cRS := qj0 s l0 v
 have cSh := qp3 es cap2 hes
 simp only [stC] at cS cRS
 unfold q29
 simp -implicitDefEqProofs -dsimp only [go_sem, seval, stC, ↓J1 _ _ q1f]
 refine cpn cS ?_
 rcases hok : sok s l0 v with _ | _
 ·have cN := qpm hok
  simp only [stC] at cN
  simp -implicitDefEqProofs -dsimp only [go_sem, seval, ↓J1 _ _ q41]
  refine cpn cN ?_
  simp -implicitDefEqProofs -dsimp only [go_sem, seval, ↓J1 _ _ q1f]
  refine cpn cS ?_
  simp -implicitDefEqProofs -dsimp only [go_sem, seval, ↓J1 _ _ q41]
  refine cpn cN ?_
  simp -implicitDefEqProofs -dsimp only [go_sem, seval, ↓J1 _ _ q4x]
  refine cpn cRS ?_
  simp -implicitDefEqProofs -dsimp only [go_sem, seval, hok, Bool.not_false, ↓U9, q0w, true_and, ↓J1 _ _ I7]
  refine cpn q7r ?_
  simp -implicitDefEqProofs -dsimp only [go_sem, seval]
  exact K0 rfl
 obtain ⟨S, L, rfl, rfl⟩ := qs5 hok
 have cN := fun T => qnj (T0 := T) hok
 simp only [stC] at cN
 simp -implicitDefEqProofs -dsimp only [go_sem, seval, ↓J1 _ _ q41]
 refine CallK.of (cN T) (fun r T1 ⟨a, ia, q1, q2, q3, q4, q5⟩ => J5 ?_)
 subst q1
 simp -implicitDefEqProofs -dsimp only [go_sem, seval, ↓J1 _ _ q1f]
 refine cpn cS ?_
 simp -implicitDefEqProofs -dsimp only [go_sem, seval, ↓J1 _ _ q41]
 refine CallK.of (cN T1) (fun r T2 ⟨b, ib, r1, r2, r3, r4, r5⟩ => J5 ?_)
 subst r1
 have st1 : St T1 a ia (os0 S L v) := by rw [q5]; exact qky q4
 have hna : T1 a ≠ .unused := by rw [st1.1]; simp [Os.row]
 have hnia : T1 ia ≠ .unused := by rw [st1.2]; simp
 have m1 : a ≠ b := fun e => hna (e ▸ r2)
 have m2 : a ≠ ib := fun e => hna (e ▸ r3)
 have m3 : ia ≠ b := fun e => hnia (e ▸ r2)
 have m4 : ia ≠ ib := fun e => hnia (e ▸ r3)
 have u1 : T b = .unused := by rw [q5, oT, Tab.put_ne _ _ (Ne.symm m3), Tab.put_ne _ _ (Ne.symm m1)] at r2; exact r2
 have u2 : T ib = .unused := by rw [q5, oT, Tab.put_ne _ _ (Ne.symm m4), Tab.put_ne _ _ (Ne.symm m2)] at r3; exact r3
 have h2 : Two T T2 a ia b ib (os0 S L v) (os0 S L v) := by
  rw [r5]
  refine ⟨⟨?_, ?_⟩, qky r4, m1, m2, m3, m4, ?_, q2, q3, u1, u2⟩
  ·rw [oT, Tab.put_ne _ _ m2, Tab.put_ne _ _ m1]; exact st1.1
  ·rw [oT, Tab.put_ne _ _ m4, Tab.put_ne _ _ m3]; exact st1.2
  ·rw [q5, oT, oT]
   exact ((((TabLe.refl T).put q2).put q3).put u1).put u2
 have hg := qvt hok
 have hf := qz1 hok
 simp -implicitDefEqProofs -dsimp only [go_sem, seval]
 have key := fun (R : Y5) (hR : ExtR R) h => qsh (R := R) hR (T0 := T) (l := l) (cap := cap) (a := a) (ia := ia) (b := b) (ib := ib) (m := m) (n3 := es.length) (xs3 := es.flatMap evC) (c3 := cap2) hl he l 0 rfl (Nat.zero_le _) T2 _ h2 hg hf.1 (by have := hf.2; omega) h
 refine key _ (by repeat' (first | exact O6 _ _ | assumption | apply O5 | apply N2 | apply Z8)) (fun T3 o hT3 hg3 hf3 hct3 => ?_)
 have hse := ql6 es
 have cW := fun T => qp2 (T := T) (q4t es) none m (by unfold Len; omega)
 simp -implicitDefEqProofs -dsimp only [go_sem, seval, ↓J1 _ _ q7y]
 refine cpn cSh ?_
 simp -implicitDefEqProofs -dsimp only [go_sem, seval, ↓J1 _ _ q81]
 refine CallK.of (cW T3) (fun r T4 hW => J5 ?_)
 obtain ⟨wid, w1, w2, w3⟩ := hW
 subst w1
 have k1 : wid ≠ a := fun e => by rw [e, hT3.sa.1] at w2; cases w2
 have k2 : wid ≠ ia := fun e => by rw [e, hT3.sa.2] at w2; cases w2
 have k3 : wid ≠ b := fun e => by rw [e, hT3.sb.1] at w2; cases w2
 have k4 : wid ≠ ib := fun e => by rw [e, hT3.sb.2] at w2; cases w2
 have hwt : Wt T4 wid (G2 m) (qbv (G2 m) (q4t es)) := by rw [w3]; exact Tab.put_same ..
 have hT4 : Two T T4 a ia b ib o o := by
  rw [w3]
  exact ⟨⟨by rw [Tab.put_ne _ _ (Ne.symm k1)]; exact hT3.sa.1, by rw [Tab.put_ne _ _ (Ne.symm k2)]; exact hT3.sa.2⟩, ⟨by rw [Tab.put_ne _ _ (Ne.symm k3)]; exact hT3.sb.1, by rw [Tab.put_ne _ _ (Ne.symm k4)]; exact hT3.sb.2⟩, hT3.n1, hT3.n2, hT3.n3, hT3.n4, hT3.le.put (hT3.le.unused w2), hT3.u⟩
 have cA := qnu hwt ((qy5 m).fold) hT4.sa hg3
 have hform := qps o (G2 m) (qbv (G2 m) (q4t es)) o.cs
 rcases hyes : (qby o (G2 m) (qbv (G2 m) (q4t es)) o.cs).2 with _ | _
 ·generalize qby o (G2 m) (qbv (G2 m) (q4t es)) o.cs = rr at *
  obtain ⟨rc, rb⟩ := rr
  obtain ⟨ak, ash, ae, an, hform⟩ := hform
  simp only at hform hyes
  subst hform; subst hyes
  simp -implicitDefEqProofs -dsimp only [go_sem, seval, ↓J1 _ _ q3u]
  refine can cA ?_
  simp -implicitDefEqProofs -dsimp only [go_sem, seval, Bool.not_false, ↓J1 _ _ I7]
  refine cpn q7r ?_
  simp -implicitDefEqProofs -dsimp only [go_sem, seval]
  exact hT4.le.fin
 obtain ⟨k, c, d, hc, e1, e2, e3, e4, e5⟩ := qqc hg3 hf3 hct3 o.cs 0 rfl hyes
 obtain ⟨x1, x2⟩ := qsg hg3 hc e2 e3 e4
 rw [e1] at cA
 have cP := qg7 d x2
 have eP : qq8 d = .tup [.s (wr4 d), .i .i64 0] := by unfold qq8; rw [x1]; rfl
 rw [eP] at cP
 obtain ⟨s1, s2, s3, s4, s5⟩ := hg3.small
 have cU := qar hT4.sa s3 s1 (wr4 d) (by have := qse x1 x2; omega)
 have hTA := hT4.setA (o.apply (wr4 d)).1
 have cV := qar hTA.sb s3 s1 [] (by simp)
 have hTB := hTA.setB (o.apply []).1
 have ev0 : o.apply [] = (o.step, 0) := by unfold Os.apply; rw [if_pos rfl]
 obtain ⟨p1, p2⟩ := qvz x1 x2
 have ev1 : o.apply (wr4 d) = ({ o.step with cs := o.cs.set k (o.chg d c).1, ct := if d.k = 4 then o.ct else IntKind.u64.wrap (o.ct + 1) }, 0) := by
  rw [<- qyb hg3 hct3 hc e2 e3 e4]
  unfold Os.apply
  rw [if_neg (qw0 d), if_pos p2]
  unfold cmA
  rw [if_pos p2, p1]
 have cSm : ACalls prog q28 [.ptr a 0, .ptr b 0] (oT (oT T4 a ia (o.apply (wr4 d)).1) b ib (o.apply []).1) (fun r T' => r = .b false /\ T' = oT (oT T4 a ia (o.apply (wr4 d)).1) b ib (o.apply []).1) := by
  rw [ev0, ev1] at hTB ⊢
  by_cases hk4 : d.k = 4
  ·obtain ⟨p, f1, f2⟩ := e4.mkd hk4
   rw [f2] at hTB ⊢
   exact qgd hTB.sa hTB.sb ⟨rfl, rfl, rfl⟩ rfl (if_pos hk4) hc f1 rfl s3 s4
  ·refine qj6 hTB.sa hTB.sb ⟨rfl, rfl, rfl⟩ rfl ?_
   show ¬ (if d.k = 4 then o.ct else IntKind.u64.wrap (o.ct + 1)) = o.ct
   have := hg3.ct0
   rw [if_neg hk4, show IntKind.u64.wrap (o.ct + 1) = o.ct + 1 from IntWalk.u64_in _ (by omega)]
   omega
 rw [ev0] at cV
 have ev0' : (o.apply []).1 = o.step := by rw [ev0]
 rw [show (o.apply (wr4 d)).2 = 0 by rw [ev1]] at cU
 rw [ev0'] at cSm hTB
 have hSu := qpr (es := q4t es) (cap := none) (m := m) hse d.nd
 simp only [Cm.cells] at cA cP
 generalize (o.apply (wr4 d)).1 = oo at *
 by_cases hk1 : d.k = 1
 ·have dk : decide (d.k = 1) = true := decide_eq_true hk1
  rw [e5 hk1] at hSu
  simp -implicitDefEqProofs -dsimp only [go_sem, seval, ↓J1 _ _ q3u]
  refine can cA ?_
  simp -implicitDefEqProofs -dsimp only [go_sem, seval, Bool.not_true, dk, ↓U9, q0w, true_and, ↓J1 _ _ q62]
  refine cpn hSu ?_
  simp -implicitDefEqProofs -dsimp only [go_sem, seval, Bool.not_true, ↓J1 _ _ q46]
  refine cpn cP ?_
  simp -implicitDefEqProofs -dsimp only [go_sem, seval, ↓J1 _ _ V3]
  refine can cU ?_
  simp -implicitDefEqProofs -dsimp only [go_sem, seval, ↓J1 _ _ V3]
  refine can cV ?_
  simp -implicitDefEqProofs -dsimp only [go_sem, seval, decide_true, ↓U9, q0w, true_and, ↓J1 _ _ qbr]
  refine can cSm ?_
  simp -implicitDefEqProofs -dsimp only [go_sem, seval, decide_true, Bool.not_false, ↓U9, q0w, true_and, ↓J1 _ _ I7]
  refine cpn q7r ?_
  simp -implicitDefEqProofs -dsimp only [go_sem, seval]
  exact hTB.le.fin
 ·have dk : decide (d.k = 1) = false := decide_eq_false hk1
  simp -implicitDefEqProofs -dsimp only [go_sem, seval, ↓J1 _ _ q3u]
  refine can cA ?_
  simp -implicitDefEqProofs -dsimp only [go_sem, seval, Bool.not_true, dk, ↓U9, q0w, true_and, ↓J1 _ _ q46]
  refine cpn cP ?_
  simp -implicitDefEqProofs -dsimp only [go_sem, seval, ↓J1 _ _ V3]
  refine can cU ?_
  simp -implicitDefEqProofs -dsimp only [go_sem, seval, ↓J1 _ _ V3]
  refine can cV ?_
  simp -implicitDefEqProofs -dsimp only [go_sem, seval, decide_true, ↓U9, q0w, true_and, ↓J1 _ _ qbr]
  refine can cSm ?_
  simp -implicitDefEqProofs -dsimp only [go_sem, seval, decide_true, Bool.not_false, ↓U9, q0w, true_and, ↓J1 _ _ I7]
  refine cpn q7r ?_
  simp -implicitDefEqProofs -dsimp only [go_sem, seval]
  exact hTB.le.fin
end Go.Aw
