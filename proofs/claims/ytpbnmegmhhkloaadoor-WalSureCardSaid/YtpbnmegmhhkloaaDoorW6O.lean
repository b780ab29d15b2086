import Derived.Test.YtpbnmegmhhkloaaDoorW6N
namespace Go.Aw
open Go
open Go.Proofs.Tryd (prog)
set_option linter.all false
set_option maxHeartbeats 8000000
set_option maxRecDepth 8000
theorem qhh (ops : List Wo) (cap : Option Nat) (hl : Len ops.length) (hlr : ∀ x ∈ ops, Len x.p.length) (n : Int) (hn : 0 <= n /\ n < 256) (k0 k1 : Int) (h0 : 0 <= k0 /\ k0 < 65536) (h1 : 0 <= k1 /\ k1 < 65536) :
  PCalls prog q0t [.fz ops.length (ops.flatMap woC) cap, .i .u8 n, .agg [.i .u16 k0, .i .u16 k1]] (.b true) := by
 refine K7 O5 q3p (by simp) fun T => ?_
 have cA := qkw
 have hN := qkc 100000 T
 have u0 : Un (Dk.new 100000) := ⟨Dk.new_ok _, rfl, rfl⟩
 have hop := qfv (r := 100000) (by decide) (by decide)
 obtain ⟨d1, hd1⟩ : ∃ d1 : Dk, d1 = ⟨100000, ⟨frm (N4 1 0), none, 10⟩, ⟨[], some 0, 0⟩, false, false, 0⟩ := ⟨_, rfl⟩
 rw [<- hd1, show (⟨0, 1, false⟩ : Wl) = w0 from rfl] at hop
 have hf0 : (10 : Int) + (Dk.new 100000).a1.b.length <= (Dk.new 100000).room := by decide
 have w1 : IntKind.i64.wrap n = n := K8 (by unfold I64; omega)
 obtain ⟨a, ha⟩ : ∃ a : Int, a = n.tmod 40 := ⟨_, rfl⟩
 have ha0 : 0 <= a /\ a < 40 := by rw [ha, Int.tmod_eq_emod_of_nonneg hn.1]; omega
 have w2 : IntKind.i64.wrap a = a := K8 (by unfold I64; omega)
 have z40 : ((40 : Int) = 0) = False := eq_false (by decide)
 have un1 : Un d1 := by
  have hA := q7o u0 hf0
  rw [hop] at hA
  obtain ⟨w, h1, _⟩ := hA
  exact h1
 have hdw : Dw (d1.arm a) := qp3 (un1.dw (by rw [hd1]; show (0 : Int) <= 9223372036854775807; decide)) (by unfold I64; omega)
 have hst : St (d1.arm a) w0 (([] : List (Bs × Option Nat)).map (·.1)) 0 (([] : List (Bs × Option Nat)).map (·.1)) false (2 * 0 + 1) := by
  refine .inl ⟨rfl, .inl rfl, hdw.ok, by rw [hd1]; rfl, by rw [hd1]; rfl, ⟨⟨0, Nat.le_refl _, ?_, ?_⟩, Nat.le_refl _, fun _ h => (by cases h), (by decide), (by decide)⟩, by rw [hd1]; rfl, (by decide), (by decide)⟩
  ·rw [hd1, List.map_nil]; exact (q4y _).symm
  ·rw [hd1, List.map_nil, List.take_nil]
   show ((G1 [N4 1 0]).length : Int) <= 10
   rw [q4y, q14]; decide
 unfold q0u
 simp -implicitDefEqProofs -dsimp only [go_sem, seval, ↓J2 _ _ qb4]
 refine CallK.of hN fun v T1 hv => J7 ?_
 obtain ⟨did, rfl, hdid, rfl⟩ := hv
 have hO := qcj (T := T.put did (.row 8 (Dk.new 100000).cells)) (did := did) u0 (show (0 : Int) <= 9223372036854775807 by decide) (Tab.put_same ..) hf0
 unfold opQ at hO
 rw [hop] at hO
 simp only [btL, List.map_nil, List.length_nil] at hO
 simp -implicitDefEqProofs -dsimp only [go_sem, seval, ↓J2 _ _ q4u]
 refine CallK.of hO fun v T2 hv => J7 ?_
 obtain ⟨lid, rfl, hlid, hne, rfl⟩ := hv
 have hle1 : TabLe T (tL (T.put did (.row 8 (Dk.new 100000).cells)) did lid d1 w0) := qvf ((TabLe.refl T).put hdid) hdid hlid
 have hlu : T lid = .unused := (Tab.unused_put hlid).2
 have hself : tL (tL (T.put did (.row 8 (Dk.new 100000).cells)) did lid d1 w0) did lid d1 w0 = tL (T.put did (.row 8 (Dk.new 100000).cells)) did lid d1 w0 := qp0 hne d1 w0 (qf0 hne _ _) (qaj _ _)
 have hd2 : (tL (T.put did (.row 8 (Dk.new 100000).cells)) did lid d1 w0) did ≠ .unused := by rw [qf0 hne]; simp
 have hl2 : (tL (T.put did (.row 8 (Dk.new 100000).cells)) did lid d1 w0) lid ≠ .unused := by rw [qaj]; simp
 generalize tL (T.put did (.row 8 (Dk.new 100000).cells)) did lid d1 w0 = T0 at *
 have hD := qck (T := T0) (did := did) (lid := lid) (d := d1) (w := w0)
 rw [hself] at hD
 have hAr := qsu (d := d1) (T := T0) (id := did) (by have := qf0 (T := T0) hne d1 w0; rwa [hself] at this) a
 have hT0 : T0.put did (.row 8 (d1.arm a).cells) = tL T0 did lid (d1.arm a) w0 := by
  have := qak (T := T0) hne d1 (d1.arm a) w0
  rwa [hself] at this
 rw [hT0] at hAr
 simp -implicitDefEqProofs -dsimp only [go_sem, seval, decide_true, Bool.not_true, ↓q1m, q31, true_and, ↓J2 _ _ q06]
 refine can hD ?_
 simp -implicitDefEqProofs -dsimp only [go_sem, seval, w0, w1, <- ha, w2, z40, ↓J2 _ _ q9e]
 refine can hAr ?_
 have key := fun (R : Z1) (hR : ExtR R) (h2 : SuR did lid T k0 k1 R) => qp7 (R := R) hR hne (Tz := T) (k0 := k0) (k1 := k1) (cap := cap) hl hlr h2 ops 0 rfl (Nat.zero_le _) (Nat.zero_le _) T0 T0 (d1.arm a) w0 [] [] (.fz 0 [] (some 0)) 0 false hd2 hl2 hle1 (.inl (Own.nil T0 1)) hdw hst (by decide)
 simp -implicitDefEqProofs -dsimp only [go_sem, seval]
 refine key _ (by repeat' (first | exact N3 _ _ | assumption | apply N2 | apply K3 | apply V2)) ?_
 intro T0' Ta d w all hd va sure lost m tail ltail q1 q2 hz hg hdw2 hst2 hm hhd
 obtain ⟨hfin, hok, han⟩ := qt5 hst2
 have hdim : (d.crash k0 k1).left <= 9223372036854775807 := by show (0 : Int) <= _; decide
 have hCr := qfs hok (qf0 (T := Ta) hne d w) k0 k1 h0 h1
 rw [qak hne] at hCr
 obtain ⟨uc, fc, hres⟩ := qkh hfin h0.1 h1.1
 have hO2 := qcj (T := tL Ta did lid (d.crash k0 k1) w) (did := did) uc hdim (qf0 hne _ _) fc
 unfold opQ at hO2
 obtain ⟨_, _, _, hdead, _⟩ := q7o uc fc
 have hol := qmt uc fc
 generalize hdc : d.crash k0 k1 = dc at *
 obtain ⟨p1, p2, p3, p4, p5, p6⟩ := hg.form
 simp -implicitDefEqProofs -dsimp only [go_sem, seval, p1, p2, p3, p4, p5, p6, ↓J2 _ _ q2p]
 refine can hCr ?_
 simp -implicitDefEqProofs -dsimp only [go_sem, seval, p1, p2, p3, p4, p5, p6, ↓J2 _ _ q4u]
 refine CallK.of hO2 fun v T3 hv => J7 ?_
 obtain ⟨lid2, rfl, hlid2, hne2, rfl⟩ := hv
 have hDd := qck (T := tL Ta did lid dc w) (did := did) (lid := lid2) (d := (N9 dc).2.2) (w := (N9 dc).1)
 rw [hdead] at hDd
 have hgF : Gr (tL (tL T0' did lid dc w) did lid2 (N9 dc).2.2 (N9 dc).1) 1 va all.length (btK all) (tL (tL Ta did lid dc w) did lid2 (N9 dc).2.2 (N9 dc).1) := by
  rcases hg with ho | ⟨g1, g2, rfl⟩
  ·refine .inl (qkx (qkx ho (qn9 ho q1 q2)) fun j x1 x2 => ⟨fun e => ?_, fun e => ?_⟩)
   ·subst e; rw [qf0 hne] at x1; cases x1
   ·subst e; exact x2 hlid2
  ·exact .inr ⟨g1, g2, rfl⟩
 have hle : TabLe T (tL (tL Ta did lid dc w) did lid2 (N9 dc).2.2 (N9 dc).1) := by
  have h1 : TabLe T (tL Ta did lid dc w) := TabLe.tL (hz.trans hg.le) hdid hlu
  exact TabLe.tL h1 hdid (h1.unused hlid2)
 generalize tL (tL Ta did lid dc w) did lid2 (N9 dc).2.2 (N9 dc).1 = T4 at *
 generalize tL (tL T0' did lid dc w) did lid2 (N9 dc).2.2 (N9 dc).1 = B at *
 generalize (N9 dc).2.1 = rs at *
 rw [List.length_map] at han
 have cB := qkz rs (all.map (·.1)) (by omega) (by rw [List.length_map]; omega)
 rw [List.length_map] at cB
 have bor : ∀ (K : AV -> Tab -> Prop), K (.b (decide (rs.length <= all.length) && decide (rs = (all.map (·.1)).take rs.length))) T4 -> CallK prog Q4 [.fz rs.length (btL rs) none, va] T4 K := fun K hK => by
  rcases hgF with ho | ⟨rfl, _, rfl⟩
  ·refine CallK.borrow (r := .b (decide (rs.length <= all.length) && decide (rs = (all.map (·.1)).take rs.length))) (Owns.one ho) (fun S hS => ?_) .b hK
   obtain ⟨cc, hcc⟩ := hS _ (List.mem_cons_self ..)
   have hv : q65 T4 S va = .fz all.length (btK all) cc := by rw [ho.frzv]; exact hcc
   have hz : q65 T4 S (.fz rs.length (btL rs) none) = .fz rs.length (btL rs) none := rfl
   simp only [List.map_cons, List.map_nil, hv, hz]
   exact cB.wk (Wks.cons (.refl _) (Wks.one (Wk.fzs (qfp all))))
  ·exact CallK.pure (cB.wk (Wks.cons (.refl _) (Wks.one (Wk.fzs (qfp all))))) hK
 have fin : ∀ (x : Bool), x = true -> qdq (.b x) (fun v T' => v = .b true /\ T' = T) T4 := fun x hx => by rw [hx]; exact hle.fin
 simp -implicitDefEqProofs -dsimp only [go_sem, seval, decide_true, Bool.not_true, p1, p2, p3, p4, p5, p6, ↓q1m, q31, true_and, ↓J2 _ _ q06]
 refine can hDd ?_
 simp -implicitDefEqProofs -dsimp only [go_sem, seval, p1, p2, p3, p4, p5, p6, ↓J2 _ _ q45]
 refine bor _ (J7 ?_)
 rcases hb : (decide (rs.length <= all.length) && decide (rs = (all.map (·.1)).take rs.length)) && decide ((sure : Int) <= (rs.length : Int)) with _ | _
 ·-- those that were handed to it
  obtain ⟨hlost, hrs⟩ : lost = true /\ rs = hd.map (·.1) := by
   rcases hres with ⟨j, j1, j2, j3⟩ | h
   ·exfalso
    rw [List.length_map] at j2
    have hlen : rs.length = j := by rw [j3, List.length_take, List.length_map]; omega
    rw [decide_eq_true (show rs.length <= all.length by omega), decide_eq_true (show rs = (all.map (·.1)).take rs.length by rw [hlen]; exact j3), decide_eq_true (show (sure : Int) <= (rs.length : Int) by omega)] at hb
    exact absurd hb (by decide)
   ·exact h
  have cS := (qk1 (hd.map (·.1)) (hd.map (·.1)) none none (by unfold Len; rw [List.length_map]; omega) (by unfold Len; rw [List.length_map]; omega))
  rw [decide_eq_true rfl, List.length_map] at cS
  have cS' := cS.wk (xs := [.fz rs.length (btL rs) none, .fz hd.length (btK hd) (some hd.length)]) (Wks.cons (by rw [hrs, List.length_map]; exact .refl _) (Wks.one (Wk.fzs (qfp hd))))
  rcases hx : (decide (rs.length <= all.length) && decide (rs = (all.map (·.1)).take rs.length)) with _ | _
  ·simp -implicitDefEqProofs -dsimp only [go_sem, seval, hlost, ↓q1m, q31, true_and, ↓J2 _ _ q0h]
   refine cpn cS' ?_
   simp -implicitDefEqProofs -dsimp only [go_sem, seval, ↓q1m, q31, true_and, ↓J2 _ _ q00]
   refine cpn cA ?_
   simp -implicitDefEqProofs -dsimp only [go_sem, seval]
   exact hle.fin
  ·rw [hx, Bool.true_and] at hb
   simp -implicitDefEqProofs -dsimp only [go_sem, seval, hb, hlost, ↓q1m, q31, true_and, ↓J2 _ _ q0h]
   refine cpn cS' ?_
   simp -implicitDefEqProofs -dsimp only [go_sem, seval, ↓q1m, q31, true_and, ↓J2 _ _ q00]
   refine cpn cA ?_
   simp -implicitDefEqProofs -dsimp only [go_sem, seval]
   exact hle.fin
 ·rw [Bool.and_eq_true] at hb
  simp -implicitDefEqProofs -dsimp only [go_sem, seval, hb.1, hb.2, ↓q1m, q31, true_and, ↓J2 _ _ q00]
  refine cpn cA ?_
  simp -implicitDefEqProofs -dsimp only [go_sem, seval]
  exact hle.fin
end Go.Aw
