import Derived.Test.YtpbnmegmhhkloaaDoorW6J
namespace Go.Aw
open Go
open Go.Proofs.Tryd (prog)
set_option linter.all false
set_option maxHeartbeats 8000000
set_option maxRecDepth 8000
theorem qfu {d : Dk} (h : Un d) (hf : (10 : Int) + d.a1.b.length <= d.room) : J9 (J9 d).2.2 = J9 d := by
 obtain ⟨w, h1, h2, h3, h4, h5, h6, h7, h8, h9, h10, h11, h12, h13⟩ := q6j h hf
 generalize ho : J9 d = o at *
 obtain ⟨⟨k, g, dead⟩, rs, d3⟩ := o
 simp only at h1 h2 h3 h4 h5 h6 h7 h8 h9 h10 h11 h12 h13
 have hc := qa4 h2 h4 (by rw [h11]; exact qb3)
 show J9 d3 = _
 unfold J9
 rw [hc]
 simp only
 have hm : qca d3 k w = d3 := by
  unfold qca
  rw [if_neg (by omega), if_neg (by omega)]
 have hcl : clr d3 (1 - k) = d3 := by unfold clr; rw [if_pos h11]
 rw [hm, hcl, h5, h6, h3]
theorem qkq {d : Dk} (h : Un d) (hf : (10 : Int) + d.a1.b.length <= d.room) : (J9 d).2.1.length <= 1048576 := by
 obtain ⟨w, h1, h2, h3, h4, h5, h6, h7, h8, h9, h10, h11, h12, h13⟩ := q6j h hf
 obtain ⟨rs, rest, x, e, q1, q2, q3, q4⟩ := qeb (((J9 d).2.2).get (J9 d).1.k).b
 have hb : (((J9 d).2.2).get (J9 d).1.k).b.length <= 1048576 := by
  have r1 := h1.ok.r1
  have r2 := h1.ok.fits
  rcases h2 with e | e <;> rw [e]
  ·show ((J9 d).2.2).a0.b.length <= _; omega
  ·show ((J9 d).2.2).a1.b.length <= _; omega
 have hc := qed ((((J9 d).2.2).get (J9 d).1.k).b.length + 1) 0 _ (Nat.lt_succ_self _)
 have hr := qim (((J9 d).2.2).get (J9 d).1.k).b
 rw [h4] at hr
 unfold qn7 at hr
 rw [<- h6]
 revert hr hc
 generalize (recs ((((J9 d).2.2).get (J9 d).1.k).b.length + 1) 0 (((J9 d).2.2).get (J9 d).1.k).b).1 = L
 intro hc hr
 rcases L with _ | ⟨q, l⟩
 ·cases hr
 simp only at hr
 rcases hh : qmp q with _ | ⟨g, n⟩
 ·rw [hh] at hr; cases hr
 rw [hh] at hr
 simp only at hr
 split at hr
 ·injection hr with hr
  rw [hr]
  simp only [List.length_cons] at hc ⊢
  omega
 ·cases hr
theorem qqq {T0 T : Tab} {did lid : Nat} {d : Dk} {w : Wl} (h : TabLe T0 T) (h1 : T0 did = .unused) (h2 : T lid = .unused) : TabLe T0 (tL T did lid d w) := TabLe.tL h h1 (h.unused h2)
theorem qee {d : Dk} (h : Un d) : ((clr d 1).a1).b = [] := (h.clear (k := 1) (.inr rfl)).2.2.1
theorem qn1 {d : Dk} (h : Un d) (hf : (10 : Int) + d.a1.b.length <= d.room) : (J9 d).2.2.a1.b.length <= d.a1.b.length := by
 unfold J9
 rcases hc : U6 d with _ | ⟨k, w⟩
 ·simp only
  rw [qee (qb7 h hf).1]; exact Nat.zero_le _
 ·obtain ⟨hk, hr⟩ := q51 hc
  obtain ⟨m1, m2, m3, m4, m5⟩ := qdn h hk hr
  simp only
  rcases hk with rfl | rfl
  ·rw [show (1 : Int) - 0 = 1 from rfl, qee m1]; exact Nat.zero_le _
  ·have c4 : (clr (qca d 1 w) 0).a1 = (qca d 1 w).a1 := (m1.clear (k := 0) (.inl rfl)).2.2.2.1
   have m3' : (qca d 1 w).a1.b = d.a1.b.take w.good := m3
   rw [show (1 : Int) - 1 = 0 from rfl, c4, m3', List.length_take]; omega
theorem qiu {P : Program} {a b : SC} {R : Z3} {e : Env} {L : Loc} {T : Tab} (hR : ExtR R) (Q : Env -> Loc -> Tab -> Prop) (h1 : ∀ K : Env -> Loc -> Tab -> Prop, qfw K -> (∀ E L T, Q E L T -> K E L T) -> AW P a (q1r K R) e L T) (h2 : ∀ E L T, Q E L T -> AW P b R E L T) : AW P (.seq a b) R e L T := by
 have h := h1 (fun e' L' T' => AW P b R e' L' T') (U5 b hR) h2
 exact h
theorem qdq (a b : Bs) (c1 c2 : Option Nat) (ha : Len a.length) (hb : Len b.length) : PCalls prog q08 [bts a c1, bts b c2] (.b true) := by
 refine K7 O9 q2k (by simp) fun T => ?_
 unfold Len at ha hb
 have cA := qit
 have hN := qii 1000 T
 obtain ⟨x, hx⟩ : ∃ x, x = a.take 200 := ⟨_, rfl⟩
 obtain ⟨y, hy⟩ : ∃ y, y = b.take 200 := ⟨_, rfl⟩
 have lx : x.length <= 200 := by rw [hx, List.length_take]; omega
 have ly : y.length <= 200 := by rw [hy, List.length_take]; omega
 have u0 : Un (Dk.new 1000) := ⟨Dk.new_ok 1000, rfl, rfl⟩
 have hd0 : Dk.new 1000 = ⟨1000, ⟨[], some 0, 0⟩, ⟨[], some 0, 0⟩, false, false, 0⟩ := rfl
 obtain ⟨A1, U1⟩ := u0.append (k := 0) (.inl rfl) (b := x) (by rw [hd0]; show ((0 : Nat) : Int) + x.length + (0 : Nat) <= 1000; omega)
 obtain ⟨d1, hd1⟩ : ∃ d1, d1 = (Dk.new 1000).set 0 ⟨((Dk.new 1000).get 0).b ++ x, none, ((Dk.new 1000).get 0).su⟩ := ⟨_, rfl⟩
 rw [<- hd1] at A1 U1
 have e1 : d1 = ⟨1000, ⟨x, none, 0⟩, ⟨[], some 0, 0⟩, false, false, 0⟩ := hd1
 obtain ⟨A2, U2⟩ := U1.append (k := 1) (.inr rfl) (b := y) (by rw [e1]; show ((0 : Nat) : Int) + y.length + x.length <= 1000; omega)
 obtain ⟨d2, hd2⟩ : ∃ d2, d2 = d1.set 1 ⟨(d1.get 1).b ++ y, none, (d1.get 1).su⟩ := ⟨_, rfl⟩
 rw [<- hd2] at A2 U2
 have e2 : d2 = ⟨1000, ⟨x, none, 0⟩, ⟨y, none, 0⟩, false, false, 0⟩ := by rw [hd2, e1]; rfl
 have hf2 : (10 : Int) + d2.a1.b.length <= d2.room := by rw [e2]; show (10 : Int) + y.length <= 1000; omega
 have hl1 : d1.left <= 9223372036854775807 := by rw [e1]; show (0 : Int) <= _; decide
 have hl2 : d2.left <= 9223372036854775807 := by rw [e2]; show (0 : Int) <= _; decide
 obtain ⟨w, h1, h2, h3, h4, h5, h6, h7, h8, h9, h10, h11, h12, h13⟩ := q6j U2 hf2
 have htw := qfu U2 hf2
 have hrl := qkq U2 hf2
 have ha1 := qn1 U2 hf2
 have hl3 : (J9 d2).2.2.left <= 9223372036854775807 := by rw [qir]; exact hl2
 have hf3 : (10 : Int) + (J9 d2).2.2.a1.b.length <= (J9 d2).2.2.room := by rw [h13]; omega
 have areas : (!decide (decide (((J9 d2).2.2.a0.b.length : Int) = 0) = decide (((J9 d2).2.2.a1.b.length : Int) = 0))) = true /\ (J9 d2).2.2.a0.su = (J9 d2).2.2.a0.b.length /\ (J9 d2).2.2.a1.su = (J9 d2).2.2.a1.b.length := by
  rcases h2 with hk | hk <;> rw [hk] at h9 h10 h11 h12
  ·have q1 : (J9 d2).2.2.a1.b = [] := h11
   have q2 : (J9 d2).2.2.a1.su = 0 := h12
   have q3 : (w.all : Int) = (J9 d2).2.2.a0.b.length := by rw [h9]; rfl
   have q4 : (J9 d2).2.2.a0.su = w.all := h10
   refine ⟨?_, by omega, by rw [q1, q2]; rfl⟩
   rw [decide_eq_false (show ¬ (((J9 d2).2.2.a0.b.length : Int) = 0) by omega), q1]; rfl
  ·have q1 : (J9 d2).2.2.a0.b = [] := h11
   have q2 : (J9 d2).2.2.a0.su = 0 := h12
   have q3 : (w.all : Int) = (J9 d2).2.2.a1.b.length := by rw [h9]; rfl
   have q4 : (J9 d2).2.2.a1.su = w.all := h10
   refine ⟨?_, by rw [q1, q2]; rfl, by omega⟩
   rw [decide_eq_false (show ¬ (((J9 d2).2.2.a1.b.length : Int) = 0) by omega), q1]; rfl
 have hr0 : (J9 d2).2.2.read 0 = (bts (J9 d2).2.2.a0.b none, 0) := by unfold Dk.read; rw [if_neg (by decide), if_neg (by rw [h1.lost]; decide)]; rfl
 have hr1 : (J9 d2).2.2.read 1 = (bts (J9 d2).2.2.a1.b none, 0) := by unfold Dk.read; rw [if_neg (by decide), if_neg (by rw [h1.lost]; decide)]; rfl
 have hs0 : (J9 d2).2.2.sure 0 = (J9 d2).2.2.a0.su := by unfold Dk.sure; rw [if_neg (by decide)]; rfl
 have hs1 : (J9 d2).2.2.sure 1 = (J9 d2).2.2.a1.su := by unfold Dk.sure; rw [if_neg (by decide)]; rfl
 have cS := qmi (J9 d2).2.1 (J9 d2).2.1 none none (by unfold Len; omega) (by unfold Len; omega)
 rw [decide_eq_true rfl] at cS
 have hcut : ∀ a : Bs, a.length < 9223372036854775808 -> (decide ((200 : Int) < (a.length : Int)) = true /\ (200 <= a.length) = True /\ 200 < a.length) \/ (decide ((200 : Int) < (a.length : Int)) = false /\ (200 <= a.length) = (200 <= a.length) /\ ¬ 200 < a.length) := fun a _ => by
  by_cases h : 200 < a.length
  ·exact .inl ⟨decide_eq_true (by omega), eq_true (by omega), h⟩
  ·exact .inr ⟨decide_eq_false (by omega), rfl, h⟩
 unfold q0c
 refine qql True [(0, bts a c1), (1, bts b c2)] [] T (fun K hK => by simp -implicitDefEqProofs -dsimp only [go_sem, seval, bts]; exact hK trivial) fun _ => ?_
 refine qiu (by repeat' (first | exact N1 _ _ | assumption | apply N0 | apply K3 | apply U5)) (fun E L T1 => ∃ ca, (E = [(0, bts x ca), (1, bts b c2)] \/ E = [(0, bts x ca), (1, bts b c2), (19, .b false)]) /\ L = [] /\ T1 = T) (fun K hE hK => ?_) fun E L T1 hq => ?_
 ·rcases hcut a ha with ⟨da, la, ga⟩ | ⟨da, la, ga⟩
  ·have e200 : x.length = 200 := by rw [hx, List.length_take]; omega
   simp -implicitDefEqProofs -dsimp only [go_sem, seval, bts, da, la, N6]
   refine hK _ _ _ ⟨Option.map (fun x => x) c1, .inl ?_, rfl, rfl⟩
   rw [<- hx, bts, e200]
   rfl
  ·have ex : x = a := by rw [hx, List.take_of_length_le (by omega)]
   simp -implicitDefEqProofs -dsimp only [go_sem, seval, bts, da]
   refine hK _ _ _ ⟨c1, .inr ?_, rfl, rfl⟩
   rw [ex]; rfl
 obtain ⟨ca, hE, rfl, rfl⟩ := hq
 refine qiu (by repeat' (first | exact N1 _ _ | assumption | apply N0 | apply K3 | apply U5)) (fun E L T2 => ∃ cb, (E = [(0, bts x ca), (1, bts y cb)] \/ E = [(0, bts x ca), (1, bts y cb), (24, .b false)]) /\ L = [] /\ T2 = T1) (fun K hE2 hK => ?_) fun E2 L T2 hq => ?_
 ·rcases hcut b hb with ⟨da, la, ga⟩ | ⟨da, la, ga⟩
  ·have e200 : y.length = 200 := by rw [hy, List.length_take]; omega
   rcases hE with rfl | rfl
   all_goals
    simp -implicitDefEqProofs -dsimp only [go_sem, seval, bts, da, la, N6]
    refine hK _ _ _ ⟨Option.map (fun x => x) c2, .inl ?_, rfl, rfl⟩
    rw [<- hy, bts, bts, e200]
  ·have ex : y = b := by rw [hy, List.take_of_length_le (by omega)]
   rcases hE with rfl | rfl
   all_goals
    simp -implicitDefEqProofs -dsimp only [go_sem, seval, bts, da]
    refine hK _ _ _ ⟨c2, .inr ?_, rfl, rfl⟩
    rw [ex]; rfl
 obtain ⟨cb, hE2, rfl, rfl⟩ := hq
 clear hx hy
 rcases hE2 with rfl | rfl
 all_goals
  simp -implicitDefEqProofs -dsimp only [go_sem, seval, bts, ↓J2 _ _ q9y]
  refine CallK.of hN fun v T1 hv => J7 ?_
  obtain ⟨did, rfl, hdid, rfl⟩ := hv
  have hA1 := q60 u0.ok (show (0 : Int) <= 9223372036854775807 by decide) (T := T2.put did (.row 8 (Dk.new 1000).cells)) (id := did) (Tab.put_same ..) 0 x ca (by omega)
  rw [A1, Tab.put_put] at hA1
  have hA2 := q60 U1.ok hl1 (T := T2.put did (.row 8 d1.cells)) (id := did) (Tab.put_same ..) 1 y cb (by omega)
  rw [A2, Tab.put_put] at hA2
  have hO := qb9 (T := T2.put did (.row 8 d2.cells)) (did := did) U2 hl2 (Tab.put_same ..) hf2
  simp only [bts] at hA1 hA2
  simp -implicitDefEqProofs -dsimp only [go_sem, seval, ↓J2 _ _ V2]
  refine can hA1 ?_
  simp -implicitDefEqProofs -dsimp only [go_sem, seval, ↓J2 _ _ V2]
  refine can hA2 ?_
  simp -implicitDefEqProofs -dsimp only [go_sem, seval, ↓J2 _ _ q3u]
  refine CallK.of hO fun v T3 hv => J7 ?_
  obtain ⟨lid, rfl, hlid, hne, rfl⟩ := hv
  have hG1 := qis (T := T2.put did (.row 8 d2.cells)) (did := did) (lid := lid) (d := (J9 d2).2.2) (w := (J9 d2).1) h3
  have hO2 := qb9 (T := tL (T2.put did (.row 8 d2.cells)) did lid (J9 d2).2.2 (J9 d2).1) (did := did) h1 hl3 (qfs hne _ _) hf3
  unfold opQ at hO2
  rw [htw] at hO2
  have hle1 : TabLe T2 (tL (T2.put did (.row 8 d2.cells)) did lid (J9 d2).2.2 (J9 d2).1) := qqq ((TabLe.refl T2).put hdid) hdid hlid
  generalize hT3 : tL (T2.put did (.row 8 d2.cells)) did lid (J9 d2).2.2 (J9 d2).1 = T3 at *
  simp -implicitDefEqProofs -dsimp only [go_sem, seval, ↓J2 _ _ q2l]
  refine can hG1 ?_
  simp -implicitDefEqProofs -dsimp only [go_sem, seval, ↓J2 _ _ q3u]
  refine CallK.of hO2 fun v T4 hv => J7 ?_
  obtain ⟨lid2, rfl, hlid2, hne2, rfl⟩ := hv
  have hle : TabLe T2 (tL T3 did lid2 (J9 d2).2.2 (J9 d2).1) := qqq hle1 hdid hlid2
  have hG2 := qis (T := T3) (did := did) (lid := lid2) (d := (J9 d2).2.2) (w := (J9 d2).1) h3
  have hR0 := qb5 h1.ok (qfs (T := T3) hne2 (J9 d2).2.2 (J9 d2).1) 0
  have hR1 := qb5 h1.ok (qfs (T := T3) hne2 (J9 d2).2.2 (J9 d2).1) 1
  have hS0 := qdl (qfs (T := T3) hne2 (J9 d2).2.2 (J9 d2).1) 0
  have hS1 := qdl (qfs (T := T3) hne2 (J9 d2).2.2 (J9 d2).1) 1
  rw [hr0] at hR0
  rw [hr1] at hR1
  rw [hs0, areas.2.1] at hS0
  rw [hs1, areas.2.2] at hS1
  have hxor := areas.1
  generalize tL T3 did lid2 (J9 d2).2.2 (J9 d2).1 = T4 at *
  generalize (J9 d2).2.2.a0.b = b0 at *
  generalize (J9 d2).2.2.a1.b = b1 at *
  generalize (J9 d2).2.1 = rs at *
  generalize btL rs = B at *
  simp only [bts] at hR0 hR1
  simp -implicitDefEqProofs -dsimp only [go_sem, seval, ↓J2 _ _ N7]
  refine can hR0 ?_
  simp -implicitDefEqProofs -dsimp only [go_sem, seval, ↓J2 _ _ N7]
  refine can hR1 ?_
  have fin : AW prog .skip (fun _ _ _ T => qce (.b true) (fun v T' => v = .b true /\ T' = T2) T) [] [] T4 := hle.fin
  simp -implicitDefEqProofs -dsimp only [go_sem, seval, decide_true, ↓q3y, q46, true_and, ↓J2 _ _ q4l]
  refine cpn cS ?_
  simp -implicitDefEqProofs -dsimp only [go_sem, seval, decide_true, ↓q3y, q46, true_and, ↓J2 _ _ q2l]
  refine can hG2 ?_
  simp -implicitDefEqProofs -dsimp only [go_sem, seval, decide_true, q63, q2c, hxor, ↓q3y, q46, true_and, ↓J2 _ _ I9]
  refine can hS0 ?_
  simp -implicitDefEqProofs -dsimp only [go_sem, seval, decide_true, ↓q3y, q46, true_and, ↓J2 _ _ I9]
  refine can hS1 ?_
  simp -implicitDefEqProofs -dsimp only [go_sem, seval, decide_true, ↓q3y, q46, true_and, ↓J2 _ _ q41]
  refine cpn cA ?_
  simp -implicitDefEqProofs -dsimp only [go_sem, seval]
  exact hle.fin
end Go.Aw
