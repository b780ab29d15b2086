import Derived.Test.YtnkagdjmjakeiaaGreatDoorV2F
import Derived.Test.YtnkagdjmjakeiaaGreatDoorV22G21C
import Derived.Test.YtnkagdjmjakeiaaGreatDoorAwD
namespace Go.Aw
open Go
open Go.Proofs.Tryz (prog)
set_option linter.all false
set_option maxHeartbeats 8000000
set_option maxRecDepth 8000
structure TwoR (T0 T : Tab) (a ia b ib : Nat) (o : Os) : Prop where
 sa : St T a ia o
 sb : RSt T b ib o
 n1 : a ≠ b
 n2 : a ≠ ib
 n3 : ia ≠ b
 n4 : ia ≠ ib
 le : TabLe T0 T
 u : T0 a = .unused /\ T0 ia = .unused /\ T0 b = .unused /\ T0 ib = .unused
theorem z0r {R : U6} (hR : ExtR R) {T0 : Tab} {l : List Cm} {cap : Option Nat} {a ia b : Nat} {m : Int} {n3 : Nat} {xs3 : List AV} {c3 : Option Nat} {v0 : Int} (hl : Len l.length) (he : ∀ c ∈ l, c.ep < 18446744073709551616) : ∀ (ys : List Cm) (j : Nat), l.drop j = ys -> j <= l.length -> ∀ (ib : Nat) (T : Tab) (o : Os), TwoR T0 T a ia b ib o -> Good o -> o.v = v0 ->
  (∀ (T : Tab) (ib : Nat) (o : Os), TwoR T0 T a ia b ib o -> Good o -> o.v = v0 -> R (.exit 0) [(2, .i .i64 m), (3, .fz n3 xs3 c3), (9, .ptr a 0), (10, .ptr b 0), (31, .fz l.length (qn2 l) cap), (32, .i .i64 l.length), (33, .i .i64 l.length), (34, .b false)] [] T) ->
  AW prog q01 R [(2, .i .i64 m), (3, .fz n3 xs3 c3), (9, .ptr a 0), (10, .ptr b 0), (31, .fz l.length (qn2 l) cap), (32, .i .i64 l.length), (33, .i .i64 j)] [] T := by
 unfold Len at hl
 intro ys
 induction ys with
 | nil =>
  intro j hj hle ib T o hT hg hv h2
  have hj' := I0 hj hle
  refine U8 hR ?_
  unfold I3
  have h2 := h2 T ib o hT hg hv
  rw [hj'] at h2
  simp -implicitDefEqProofs -dsimp only [go_sem, seval, hj', Int.lt_irrefl]
  exact h2
 | cons y ys ih =>
  intro j hj hle ib T o hT hg hv h2
  obtain ⟨hlt, hy, hj'⟩ := q0b hj
  have hws : IntKind.i64.wrap ((j : Int) + 1) = ((j + 1 : Nat) : Int) := O0 (by omega)
  have hcell := qu4 hy
  have hlen : j * 4 + 4 <= (qn2 l).length := by rw [qs4]; omega
  refine O4 (l := q01) rfl hR ?_
  unfold I3
  rcases d : decide ((j : Int) < 15) with _ | _
  ·simp -implicitDefEqProofs -dsimp only [go_sem, seval, Int.ofNat_lt, hlt, Int.natCast_nonneg, Int.toNat_natCast, hlen, hcell, Cm.cells, List.cons_append, List.nil_append, d, hws]
   exact ih (j + 1) hj' hlt ib T o hT hg hv h2
  obtain ⟨s1, s2, s3, s4, s5⟩ := hg.small
  have hey := he y (List.mem_of_getElem? hy)
  have cT := qwq hT.sa s1 s2 y hey
  have hvl := qwt (cs := o.cs) (c := y) s2 hey
  have cA := qs2 hT.sa s3 s1 (txt o.cs y) (by omega)
  obtain ⟨o', ho'⟩ : ∃ o', o' = (o.apply (txt o.cs y)).1 := ⟨_, rfl⟩
  obtain ⟨a1, a2, a3, a4⟩ := qws o (txt o.cs y)
  have hg' := (qp8 hg (txt o.cs y)).1
  rw [<- ho'] at cA hg' a4
  obtain ⟨T1, hT1⟩ : ∃ T1, T1 = oT T a ia o' := ⟨_, rfl⟩
  rw [<- hT1] at cA
  have sa1 : St T1 a ia o' := by rw [hT1]; exact qtz hT.sa.ne
  have sb1 : RSt T1 b ib o := by
   refine ⟨?_, ?_⟩
   ·rw [hT1, oT, Tab.put_ne _ _ (Ne.symm hT.n3), Tab.put_ne _ _ (Ne.symm hT.n1)]; exact hT.sb.1
   ·rw [hT1, oT, Tab.put_ne _ _ (Ne.symm hT.n4), Tab.put_ne _ _ (Ne.symm hT.n2)]; exact hT.sb.2
  have le1 : TabLe T0 T1 := by rw [hT1, oT]; exact (hT.le.put hT.u.1).put hT.u.2.1
  have cR := qs8 sb1 hg (txt o.cs y) (by omega)
  rw [<- ho'] at cR
  simp only [Cm.cells] at cT
  simp -implicitDefEqProofs -dsimp only [go_sem, seval, Int.ofNat_lt, hlt, Int.natCast_nonneg, Int.toNat_natCast, hlen, hcell, Cm.cells, List.cons_append, List.nil_append, d, ↓J0 _ _ qbv]
  refine can cT ?_
  simp -implicitDefEqProofs -dsimp only [go_sem, seval, ↓J0 _ _ qby]
  refine can cA ?_
  simp -implicitDefEqProofs -dsimp only [go_sem, seval, ↓J0 _ _ q6f]
  refine CallK.of cR (fun r T2 ⟨e1, ib', hb2, hor, hrest⟩ => J3 ?_)
  subst e1
  have n2 : a ≠ ib' := fun e => by
   rcases hor with q | q
   ·exact hT.n2 (e.trans q)
   ·rw [<- e, sa1.1] at q; cases q
  have n4 : ia ≠ ib' := fun e => by
   rcases hor with q | q
   ·exact hT.n4 (e.trans q)
   ·rw [<- e, sa1.2] at q; cases q
  have uib : T0 ib' = .unused := by
   rcases hor with q | q
   ·rw [q]; exact hT.u.2.2.2
   ·exact le1.unused q
  have sa2 : St T2 a ia o' := ⟨by rw [hrest a hT.n1 n2]; exact sa1.1, by rw [hrest ia hT.n3 n4]; exact sa1.2⟩
  have le2 : TabLe T0 T2 := fun q => by
   by_cases q1 : q = b
   ·subst q1; exact .inl hT.u.2.2.1
   by_cases q2 : q = ib'
   ·subst q2; exact .inl uib
   rw [hrest q q1 q2]; exact le1 q
  have hT2 : TwoR T0 T2 a ia b ib' o' := ⟨sa2, hb2, hT.n1, n2, hT.n3, n4, le2, hT.u.1, hT.u.2.1, hT.u.2.2.1, uib⟩
  simp -implicitDefEqProofs -dsimp only [go_sem, seval, hws]
  exact ih (j + 1) hj' hlt ib' T2 o' hT2 hg' (by rw [a4, hv]) h2
theorem que (o : Os) (lim : Int) (l : List Wr) (cs : List Cf) : ∃ k s e n, (qcy o lim l cs).1 = [.i .i64 k, .i .i64 s, .i .u64 e, .i .i64 n] := by
 induction cs with
 | nil => exact ⟨_, _, _, _, rfl⟩
 | cons c cs ih => unfold qcy; split; exact ⟨_, _, _, _, rfl⟩; exact ih
theorem qpa (es : List Ev) : (q8x es).length <= 60 := by unfold q8x; rw [List.length_take]; omega
theorem qhw (s l0 v : Int) (l : List Cm) (cap : Option Nat) (m : Int) (es : List Ev) (cap2 : Option Nat) (hl : Len l.length) (he : ∀ c ∈ l, c.ep < 18446744073709551616) (hes : Len es.length) :
  Q4 prog q2e [.agg (stC s l0 v), .fz l.length (qn2 l) cap, .i .i64 m, .fz es.length (es.flatMap evC) cap2] (.b true) := by
 refine K8 O1 q6c (by simp) fun T => ?_
 have cS := qtw s l0 v
 have cRS := qmy s l0 v
 have cSh := qtf es cap2 hes
 simp only [stC] at cS cRS
 unfold q2f
 simp -implicitDefEqProofs -dsimp only [go_sem, seval, stC, ↓J0 _ _ qal]
 refine cpn cS ?_
 rcases hok : sok s l0 v with _ | _
 ·have cN := qu0 hok
  simp only [stC] at cN
  simp -implicitDefEqProofs -dsimp only [go_sem, seval, ↓J0 _ _ qbs]
  refine cpn cN ?_
  simp -implicitDefEqProofs -dsimp only [go_sem, seval, ↓J0 _ _ q74]
  refine cpn cRS ?_
  simp -implicitDefEqProofs -dsimp only [go_sem, seval, hok, Bool.not_false, ↓Q1, I5, true_and, ↓J0 _ _ q50]
  refine cpn qio ?_
  simp -implicitDefEqProofs -dsimp only [go_sem, seval]
  exact J9 rfl
 have hsv : 0 <= v /\ v <= 8 := by have hh := of_decide_eq_true hok; omega
 obtain ⟨S, L, rfl, rfl⟩ := qwu hok
 have cN := fun T => qrp (T0 := T) hok
 have cRN := fun T => qu9 (T0 := T) hok
 simp only [stC] at cN cRN
 simp -implicitDefEqProofs -dsimp only [go_sem, seval, ↓J0 _ _ qbs]
 refine CallK.of (cN T) (fun r T1 ⟨a, ia, q1, q2, q3, q4, q5⟩ => J3 ?_)
 subst q1
 simp -implicitDefEqProofs -dsimp only [go_sem, seval, ↓J0 _ _ qdg]
 refine CallK.of (cRN T1) (fun r T2 ⟨b, ib, r1, r2, r3, r4, r5⟩ => J3 ?_)
 subst r1
 have st1 : St T1 a ia (os0 S L v) := by rw [q5]; exact qtz q4
 have hna : T1 a ≠ .unused := by rw [st1.1]; simp [Os.row]
 have hnia : T1 ia ≠ .unused := by rw [st1.2]; simp
 have m1 : a ≠ b := fun e => hna (e ▸ r2)
 have m2 : a ≠ ib := fun e => hna (e ▸ r3)
 have m3 : ia ≠ b := fun e => hnia (e ▸ r2)
 have m4 : ia ≠ ib := fun e => hnia (e ▸ r3)
 have u1 : T b = .unused := by rw [q5, oT, Tab.put_ne _ _ (Ne.symm m3), Tab.put_ne _ _ (Ne.symm m1)] at r2; exact r2
 have u2 : T ib = .unused := by rw [q5, oT, Tab.put_ne _ _ (Ne.symm m4), Tab.put_ne _ _ (Ne.symm m2)] at r3; exact r3
 have h2 : TwoR T T2 a ia b ib (os0 S L v) := by
  rw [r5]
  refine ⟨⟨?_, ?_⟩, ⟨?_, ?_⟩, m1, m2, m3, m4, ?_, q2, q3, u1, u2⟩
  ·rw [Tab.put_ne _ _ m2, Tab.put_ne _ _ m1]; exact st1.1
  ·rw [Tab.put_ne _ _ m4, Tab.put_ne _ _ m3]; exact st1.2
  ·rw [Tab.put_ne _ _ r4, Tab.put_same]
  ·rw [Tab.put_same]
  ·rw [q5, oT]
   exact ((((TabLe.refl T).put q2).put q3).put u1).put u2
 have hg := z0k hok
 simp -implicitDefEqProofs -dsimp only [go_sem, seval]
 have key := fun (R : U6) (hR : ExtR R) h => z0r (R := R) hR (T0 := T) (l := l) (cap := cap) (a := a) (ia := ia) (b := b) (m := m) (n3 := es.length) (xs3 := es.flatMap evC) (c3 := cap2) (v0 := v) hl he l 0 rfl (Nat.zero_le _) ib T2 _ h2 hg rfl h
 refine key _ (by repeat' (first | exact N8 _ _ | assumption | apply N7 | apply N0 | apply V0)) (fun T3 ib3 o hT3 hg3 hv3 => ?_)
 have hse := qpa es
 have cW := fun T => qtc (T := T) (q8x es) none m (by unfold Len; omega)
 obtain ⟨V, hV⟩ : ∃ V : Nat, v = V := ⟨v.toNat, by omega⟩
 simp -implicitDefEqProofs -dsimp only [go_sem, seval, ↓J0 _ _ qaq]
 refine cpn cSh ?_
 simp -implicitDefEqProofs -dsimp only [go_sem, seval, ↓J0 _ _ qat]
 refine CallK.of (cW T3) (fun r T4 hW => J3 ?_)
 obtain ⟨wid, w1, w2, w3⟩ := hW
 subst w1
 have k1 : wid ≠ a := fun e => by rw [e, hT3.sa.1] at w2; cases w2
 have k2 : wid ≠ ia := fun e => by rw [e, hT3.sa.2] at w2; cases w2
 have k3 : wid ≠ b := fun e => by rw [e, hT3.sb.1] at w2; cases w2
 have k4 : wid ≠ ib3 := fun e => by rw [e, hT3.sb.2] at w2; cases w2
 have sa4 : St T4 a ia o := by rw [w3]; exact ⟨by rw [Tab.put_ne _ _ (Ne.symm k1)]; exact hT3.sa.1, by rw [Tab.put_ne _ _ (Ne.symm k2)]; exact hT3.sa.2⟩
 have sb4 : RSt T4 b ib3 o := by rw [w3]; exact ⟨by rw [Tab.put_ne _ _ (Ne.symm k3)]; exact hT3.sb.1, by rw [Tab.put_ne _ _ (Ne.symm k4)]; exact hT3.sb.2⟩
 have hwt : Wt T4 wid (K7 m) (U2 (K7 m) (q8x es)) := by rw [w3]; exact Tab.put_same ..
 have hle4 : TabLe T T4 := by rw [w3]; exact hT3.le.put (hT3.le.unused w2)
 have cA := qsb hwt ((z2s m).fold) sa4 hg3
 have cB := qx8 (cap := none) (lm := m) hse sb4 hg3 (v := V) (by rw [hv3, hV]) (by omega)
 have hform := que o (K7 m) (U2 (K7 m) (q8x es)) o.cs
 generalize qcy o (K7 m) (U2 (K7 m) (q8x es)) o.cs = rr at *
 obtain ⟨rc, rb⟩ := rr
 obtain ⟨ak, ash, ae, an, hform⟩ := hform
 simp only at hform
 subst hform
 simp -implicitDefEqProofs -dsimp only [go_sem, seval, ↓J0 _ _ qdi]
 refine can cA ?_
 simp -implicitDefEqProofs -dsimp only [go_sem, seval, ↓J0 _ _ q9n]
 refine can cB ?_
 simp -implicitDefEqProofs -dsimp only [go_sem, seval, qlm, q3t, q5c, decide_true, eq_self, Bool.and_self, ↓Q1, I5, true_and, ↓J0 _ _ q50]
 refine cpn qio ?_
 simp -implicitDefEqProofs -dsimp only [go_sem, seval, qlm, q3t, q5c, decide_true, eq_self, Bool.and_self]
 exact hle4.fin
end Go.Aw
namespace Go.Aw
open Go
set_option linter.all false
abbrev z2z : Ty := .st [.int .i64, .int .i64, .int .u64, .int .i64]
theorem z0s {p : List AV} (h : qbp z2z p) : ∃ c : Cm, p = c.cells /\ (0 <= c.ep /\ c.ep < 18446744073709551616) := by
 simp only [qbp, qj7] at h
 obtain ⟨a1, b1, rfl, ⟨k, rfl, hk⟩, a2, b2, rfl, ⟨s, rfl, hs⟩, a3, b3, rfl, ⟨e, rfl, he⟩, a4, b4, rfl, ⟨n, rfl, hn⟩, rfl⟩ := h
 exact ⟨⟨k, s, e, n⟩, rfl, z09 he⟩
abbrev z30 : Ty := .st [.int .i64, .int .i64, .int .i64]
theorem quf {a : AV} (h : qop z30 a) : ∃ s l v : Int, a = .agg [.i .i64 s, .i .i64 l, .i .i64 v] := by
 obtain ⟨cells, rfl, h⟩ := h
 simp only [qj7] at h
 obtain ⟨a1, b1, rfl, h1, a2, b2, rfl, h2, a3, b3, rfl, h3, rfl⟩ := h
 simp only [qbp] at h1 h2 h3
 obtain ⟨k, rfl, hk⟩ := h1
 obtain ⟨s, rfl, hs⟩ := h2
 obtain ⟨n, rfl, hn⟩ := h3
 exact ⟨k, s, n, rfl⟩
end Go.Aw
