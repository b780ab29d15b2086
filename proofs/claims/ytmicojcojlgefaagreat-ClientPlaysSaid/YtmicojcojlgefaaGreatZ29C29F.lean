import Derived.Test.YtmicojcojlgefaaGreatZ29C29E
import Derived.Test.YtmicojcojlgefaaGreatAwD
namespace Go.Aw
open Go
open Go.Proofs.Tryz (prog)
set_option linter.all false
set_option maxHeartbeats 8000000
set_option maxRecDepth 8000
theorem z1m {P : Program} {a b : SC} {R : Y5} {e : Env} {L : Loc} {T : Tab} (hR : ExtR R) (Q : Env -> Loc -> Tab -> Prop) (h1 : ∀ K : Env -> Loc -> Tab -> Prop, qyp K -> (∀ E L T, Q E L T -> K E L T) -> AW P a (qem K R) e L T) (h2 : ∀ E L T, Q E L T -> AW P b R E L T) : AW P (.seq a b) R e L T := by
 have h := h1 (fun e' L' T' => AW P b R e' L' T') (U1 b hR) h2
 exact h
abbrev Lt.kc (l : Lt Cf) : List AV := l.cells cfC
theorem z1n (l : Lt Cf) : l.kc.length = 26 := rfl
theorem qx8 : ∀ (g p z : List AV), z.length = g.length -> qf6 (p ++ z) p.length g = p ++ g
 | [], p, z, h => by
  have : z = [] := List.length_eq_zero_iff.1 h
  subst this; rfl
 | x :: g, p, [], h => by cases h
 | x :: g, p, y :: z, h => by
  have e : (p ++ y :: z).set p.length x = (p ++ [x]) ++ z := by simp
  have ih := qx8 g (p ++ [x]) z (by simpa using h)
  simp only [List.length_append, List.length_cons, List.length_nil, Nat.zero_add] at ih
  rw [qf6, e, ih]
  simp
theorem qqm {z g : List AV} (h : z.length = g.length) : qf6 z 0 g = g := qx8 g [] z h
theorem zdy (g : Lt Cf) : qf6 [.i .i64 0, .i .i64 0, .i .i64 0, .i .i64 0, .i .i64 0, .i .i64 0, .i .u64 0, .i .i64 0, .i .i64 0, .i .i64 0, .b false, .i .u64 0, .i .i64 0, .fz 0 [] (some 0), .fz 0 [] (some 0), .fz 0 [] (some 0), .i .i64 0, .i .u64 0, .b false, .fz 0 [] (some 0), .fz 0 [] (some 0), .i .i64 0, .i .u64 0, .s [], .i .u64 0, .i .i64 0] 0 (g.cells cfC) = g.cells cfC := qqm rfl
theorem z3y {T : Tab} {id r w x : Nat} {c : Cl} (h : T id = qb3 c r w x) : T id ≠ .unused := by rw [h]; simp [qb3]
theorem z4t {T T1 : Tab} {z n : Nat} {v : AV} {xs : List AV} (h : Own T z v n xs T1) : qnz v (fun r T' => r = .fz n xs none /\ T' = T) T1 := by
 refine q4i (l := [⟨z, v, n, xs⟩]) ⟨T, rfl, h⟩ fun S hS => ?_
 obtain ⟨c1, e2⟩ := hS _ (List.mem_cons_self ..)
 have : qrh T1 S v = qn7 T1 S v := by rcases h.2 with ⟨h, _⟩ | ⟨j, h, _⟩ <;> (rw [h]; rfl)
 rw [this, e2]
 exact .fz
theorem z4u {T : Tab} {id r l w x : Nat} {c : Cl} {o : Cp} {t : Int} (h : Ct T id r l w x c) (hw : c.w = some (o, t)) (hk : c.Ok) :
  ACalls prog q36 [.ptr id 0] T (fun v T' => v = .fz (qp8 c o t).length ((qp8 c o t).flatMap Lt.kc) none /\ T' = T) := by
 refine U9 Q7 qku (by simp) ?_
 obtain ⟨⟨hof, hmay, hsq⟩, ht0, ht1⟩ := hk.w _ hw
 simp only at hof hmay ht0 ht1
 have hT := h.cr
 have hW := h.cw _ hw
 simp only at hW
 simp only [qb3, hw, ptO] at hT
 simp only [qx7] at hW
 unfold qcs
 refine q88 True [(0, .ptr id 0)] [] T (fun K hK => by simp -implicitDefEqProofs -dsimp only [go_sem, seval]; exact hK trivial) fun _ => ?_
 refine q88 True [(0, .ptr id 0), (3, .ptr w 0)] [] T (fun K hK => by simp -implicitDefEqProofs -dsimp only [go_sem, seval, hT]; exact hK trivial) fun _ => ?_
 refine q88 True [(0, .ptr id 0), (3, .ptr w 0), (4, .fz 0 [] (some 0))] [] T (fun K hK => by simp -implicitDefEqProofs -dsimp only [go_sem, seval]; exact hK trivial) fun _ => ?_
 refine z1m (by repeat' (first | exact N5 _ _ | assumption | apply N4 | apply K7 | apply U1)) (fun E L T1 => ∃ v, E = [(0, .ptr id 0), (3, .ptr w 0), (4, v)] /\ L = [] /\ Own T 26 v 1 (fsL c o t).kc T1) (fun K hE hK => ?_) fun E L T1 hq => ?_
 ·by_cases h1 : o.k = 1
  ·have d : decide (o.k = 1) = true := decide_eq_true h1
   obtain ⟨cf, xx, r1, r2, r3⟩ := qwe hk.l o.key t
   have hR := z0u h.rt hk.l o.key hof.key t cf xx r1 r2
   have hkey : qdh o.key = true := by unfold qut at hmay; rw [if_pos h1] at hmay; exact hmay
   rw [if_pos hkey] at hR
   have hS := (qwc h.cr 2 xx { zL with k := 19, cl := c.me, sq := c.sq, v := o.key }).wk (xs := [.ptr id 0, .i .i64 2, .i .i64 xx, .agg [.i .i64 0, .i .i64 0, .i .i64 0, .i .i64 0, .i .i64 19, .i .i64 0, .i .u64 0, .i .i64 0, .i .i64 0, .i .i64 0, .b false, .i .u64 0, .i .i64 0, .fz 0 [] (some 0), .fz 0 [] (some 0), .fz 0 [] (some 0), .i .i64 0, .i .u64 0, .b false, .fz 0 [] (some 0), .fz 0 [] (some 0), .i .i64 c.me, .i .u64 c.sq, .s o.key, .i .u64 0, .i .i64 0]]) (Wks.cons (.refl _) (Wks.cons (.refl _) (Wks.cons (.refl _) (Wks.one (Wk.agg (m := ({ zL with k := 19, cl := c.me, sq := c.sq, v := o.key } : Lt Cf).cc) ⟨.refl _, .refl _, .refl _, .refl _, .refl _, .refl _, .refl _, .refl _, .refl _, .refl _, .refl _, .refl _, .refl _, .fz, .fz, .fz, .refl _, .refl _, .refl _, .fz, .fz, .refl _, .refl _, .refl _, .refl _, .refl _, trivial⟩)))))
   have e : zav c.me 2 xx { zL with k := 19, cl := c.me, sq := c.sq, v := o.key } = fsL c o t := by
    unfold fsL gtL; rw [if_pos h1, r3]; rfl
   rw [e] at hS
   simp -implicitDefEqProofs -dsimp only [go_sem, seval, hT, hW, d, ↓J0 _ _ qj6]
   refine can hR ?_
   simp -implicitDefEqProofs -dsimp only [go_sem, seval, hT, hW, ↓J0 _ _ q8k]
   refine CallK.of hS fun v T' hv => ?_
   rw [hv.1, hv.2]
   refine J1 ?_
   simp -implicitDefEqProofs -dsimp only [go_sem, seval, z1n, zdy]
   refine (Own.nil T 26).app (m := 1) (news := (fsL c o t).kc) rfl rfl (by decide) (by decide) fun v2 T2 ho => J1 ?_
   obtain ⟨p1, p2, p3, p4, p5, p6⟩ := ho.form
   simp -implicitDefEqProofs -dsimp only [go_sem, seval, p1, p2, p3, p4, p5, p6]
   exact hK _ _ _ ⟨v2, rfl, rfl, by simpa using ho⟩
  ·have d : decide (o.k = 1) = false := decide_eq_false h1
   have hmay' : qgd (txn o 0 1) = true := by unfold qut at hmay; rw [if_neg h1] at hmay; exact hmay
   have htx : qgd (txn o c.me c.sq) = true := qwd hmay' hk.me (by omega)
   have htf := qie hof c.me c.sq
   obtain ⟨xx, cf, r1, r2, r3⟩ := qwg hk.l htx
   have hb : (txn o c.me c.sq).rs.length <= 8 /\ (txn o c.me c.sq).ws.length <= 8 := by
    have h := htx
    simp only [qgd, Bool.and_eq_true, Bool.not_eq_true', decide_eq_false_iff_not] at h
    have h1 := h.1.1.1.1.2
    have h2 := h.1.1.1.2
    omega
   have hR := z0v h.rt hk.l (txn o c.me c.sq) none none htf (by omega) (by omega) xx cf r1 r2
   rw [if_pos htx] at hR
   have hX := z1i o c.me c.sq hof
   have hS := (qwc h.cr 2 (cf.at 0) { zL with k := 20, t := txn o c.me c.sq }).wk (xs := [.ptr id 0, .i .i64 2, .i .i64 (cf.at 0), .agg [.i .i64 0, .i .i64 0, .i .i64 0, .i .i64 0, .i .i64 20, .i .i64 0, .i .u64 0, .i .i64 0, .i .i64 0, .i .i64 0, .b false, .i .u64 0, .i .i64 0, .fz 0 [] (some 0), .fz 0 [] (some 0), .fz 0 [] (some 0), .i .i64 (txn o c.me c.sq).cl, .i .u64 (txn o c.me c.sq).sq, .b (txn o c.me c.sq).pl, .fz (txn o c.me c.sq).rs.length ((txn o c.me c.sq).rs.flatMap rdC) none, .fz (txn o c.me c.sq).ws.length ((txn o c.me c.sq).ws.flatMap wtC) none, .i .i64 0, .i .u64 0, .s [], .i .u64 0, .i .i64 0]]) (Wks.cons (.refl _) (Wks.cons (.refl _) (Wks.cons (.refl _) (Wks.one (Wk.agg (m := ({ zL with k := 20, t := txn o c.me c.sq } : Lt Cf).cc) ⟨.refl _, .refl _, .refl _, .refl _, .refl _, .refl _, .refl _, .refl _, .refl _, .refl _, .refl _, .refl _, .refl _, .fz, .fz, .fz, .refl _, .refl _, .refl _, .fz, .fz, .refl _, .refl _, .refl _, .refl _, .refl _, trivial⟩)))))
   have e : zav c.me 2 (cf.at 0) { zL with k := 20, t := txn o c.me c.sq } = fsL c o t := by
    unfold fsL doL; rw [if_neg h1, r3]; rfl
   rw [e] at hS
   simp only [Cp.cells] at hX
   generalize htx : txn o c.me c.sq = tx at *
   simp only [Tx.cells] at hX hR
   simp -implicitDefEqProofs -dsimp only [go_sem, seval, hT, hW, d, ↓J0 _ _ qcw]
   refine cpn hX ?_
   simp -implicitDefEqProofs -dsimp only [go_sem, seval, hT, hW, ↓J0 _ _ qjb]
   refine can hR ?_
   simp -implicitDefEqProofs -dsimp only [go_sem, seval, hT, hW, ↓J0 _ _ q8k]
   refine CallK.of hS fun v T' hv => ?_
   rw [hv.1, hv.2]
   refine J1 ?_
   simp -implicitDefEqProofs -dsimp only [go_sem, seval, z1n, zdy]
   refine (Own.nil T 26).app (m := 1) (news := (fsL c o t).kc) rfl rfl (by decide) (by decide) fun v2 T2 ho => J1 ?_
   obtain ⟨p1, p2, p3, p4, p5, p6⟩ := ho.form
   simp -implicitDefEqProofs -dsimp only [go_sem, seval, p1, p2, p3, p4, p5, p6]
   exact hK _ _ _ ⟨v2, rfl, rfl, by simpa using ho⟩
 obtain ⟨v, rfl, rfl, ho⟩ := hq
 obtain ⟨p1, p2, p3, p4, p5, p6⟩ := ho.form
 have i1 : T1 id = T id := Own.at ho (z3y h.cr)
 have i2 : T1 w = T w := Own.at ho (by rw [h.cw _ hw]; simp [qx7])
 have hc1 : T1 id = qb3 c r w x := i1.trans h.cr
 rw [<- i1] at hT
 rw [<- i2] at hW
 have a1 := Int.lt_tmod_of_pos t (show (0 : Int) < 3 by decide)
 have a2 := Int.tmod_lt_of_pos t (show (0 : Int) < 3 by decide)
 have hsnd : zav c.me 1 ((t.tdiv 3).tmod c.ma) { zL with k := 3 } = knL c t := rfl
 have hS := (qwc hc1 1 ((t.tdiv 3).tmod c.ma) { zL with k := 3 }).wk (xs := [.ptr id 0, .i .i64 1, .i .i64 ((t.tdiv 3).tmod c.ma), .agg [.i .i64 0, .i .i64 0, .i .i64 0, .i .i64 0, .i .i64 3, .i .i64 0, .i .u64 0, .i .i64 0, .i .i64 0, .i .i64 0, .b false, .i .u64 0, .i .i64 0, .fz 0 [] (some 0), .fz 0 [] (some 0), .fz 0 [] (some 0), .i .i64 0, .i .u64 0, .b false, .fz 0 [] (some 0), .fz 0 [] (some 0), .i .i64 0, .i .u64 0, .s [], .i .u64 0, .i .i64 0]]) (Wks.cons (.refl _) (Wks.cons (.refl _) (Wks.cons (.refl _) (Wks.one (Wk.agg (m := ({ zL with k := 3 } : Lt Cf).cc) ⟨.refl _, .refl _, .refl _, .refl _, .refl _, .refl _, .refl _, .refl _, .refl _, .refl _, .refl _, .refl _, .refl _, .fz, .fz, .fz, .refl _, .refl _, .refl _, .fz, .fz, .refl _, .refl _, .refl _, .refl _, .refl _, trivial⟩)))))
 rw [hsnd] at hS
 have w1 : IntKind.i64.wrap (t.tmod 3) = t.tmod 3 := q02 (by unfold I64; omega)
 have w2 : IntKind.i64.wrap (t.tdiv 3) = t.tdiv 3 := by
  rw [Int.tdiv_eq_ediv_of_nonneg ht0]; exact q02 (by unfold I64; omega)
 have hma := hk.ma
 have b1 := Int.lt_tmod_of_pos (t.tdiv 3) (show (0 : Int) < c.ma by omega)
 have b2 := Int.tmod_lt_of_pos (t.tdiv 3) (show (0 : Int) < c.ma by omega)
 have w3 : IntKind.i64.wrap ((t.tdiv 3).tmod c.ma) = (t.tdiv 3).tmod c.ma := q02 (by unfold I64; omega)
 have z3 : ((3 : Int) = 0) = False := eq_false (by decide)
 have zm : (c.ma = 0) = False := eq_false (by omega)
 generalize hg : fsL c o t = g at *
 by_cases h2 : t.tmod 3 = 2
 ·have d2 : decide (t.tmod 3 = 2) = true := decide_eq_true h2
  have e : qp8 c o t = [g, knL c t] := by unfold qp8; rw [if_pos h2, hg]
  rw [e]
  generalize knL c t = q at *
  simp -implicitDefEqProofs -dsimp only [go_sem, seval, hT, hW, p1, p2, p3, p4, p5, p6, w1, w2, w3, z3, zm, d2, ↓J0 _ _ q8k]
  refine CallK.of hS fun v' T' hv => ?_
  rw [hv.1, hv.2]
  refine J1 ?_
  simp -implicitDefEqProofs -dsimp only [go_sem, seval, p1, p2, p3, p4, p5, p6, z1n, zdy]
  refine ho.app (m := 1) (news := q.kc) rfl rfl (by decide) (by decide) fun v2 T2 ho => J1 ?_
  obtain ⟨p1, p2, p3, p4, p5, p6⟩ := ho.form
  simp -implicitDefEqProofs -dsimp only [go_sem, seval, p1, p2, p3, p4, p5, p6]
  have := z4t ho
  simpa using this
 ·have d2 : decide (t.tmod 3 = 2) = false := decide_eq_false h2
  have e : qp8 c o t = [g] := by unfold qp8; rw [if_neg h2, hg]
  rw [e]
  simp -implicitDefEqProofs -dsimp only [go_sem, seval, hT, hW, p1, p2, p3, p4, p5, p6, w1, z3, d2]
  have := z4t ho
  simpa using this
end Go.Aw
