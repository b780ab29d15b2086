import Derived.Test.YtmicojcojlgefaaGreatZ29RK
import Derived.Test.YtmicojcojlgefaaGreatZ29C29X
import Derived.Test.YtmicojcojlgefaaGreatAwMore5
namespace Go.Aw
open Go
open Go.Proofs.Tryz (prog)
set_option linter.all false
set_option maxHeartbeats 8000000
set_option maxRecDepth 8000
abbrev Lt.pc (g : Lt Cf) : List AV := g.plain.cells rfL
def zLR : List AV := [.i .i64 0, .i .i64 0, .i .i64 0, .i .i64 0, .i .i64 0, .i .i64 0, .i .u64 0, .i .i64 0, .i .i64 0, .i .i64 0, .b false, .i .u64 0, .i .i64 0, .fz 0 [] (some 0), .fz 0 [] (some 0), .fz 0 [] (some 0), .i .i64 0, .i .u64 0, .b false, .fz 0 [] (some 0), .fz 0 [] (some 0), .i .i64 0, .i .u64 0, .s [], .i .u64 0, .i .i64 0]
theorem z1z {m : List (Cf × AV)} {k : Nat} {c : Cf} (h : (m.map (·.1))[k]? = some c) : ∃ v, m[k]? = some (c, v) := by
 rw [List.getElem?_map] at h
 rcases hm : m[k]? with _ | ⟨x, v⟩
 ·rw [hm] at h; cases h
 ·rw [hm] at h
  simp only [Option.map_some, Option.some.injEq] at h
  exact ⟨v, by rw [<- h]⟩
theorem zaq {T T1 : Tab} {z n : Nat} {v : AV} {xs ys : List AV} (h : Gr T z v n xs T1) (hw : Wks xs ys) : qnz v (fun r T' => r = .fz n ys none /\ T' = T) T1 := by
 rcases h with h | ⟨rfl, h2, rfl⟩
 ·refine q4i (l := [⟨z, v, n, xs⟩]) ⟨T, rfl, h⟩ fun S hS => ?_
  obtain ⟨c1, e2⟩ := hS _ (List.mem_cons_self ..)
  have : qrh T1 S v = qn7 T1 S v := by rcases h.2 with ⟨h, _⟩ | ⟨j, h, _⟩ <;> (rw [h]; rfl)
  rw [this, e2]
  exact Wk.fzs hw
 ·exact qn5 (Wk.fzs hw) ⟨rfl, rfl⟩
theorem z20 {T : Tab} {id : Nat} {rc : Rc} {c : Cl} {o : Cp} {t : Int} {m : List (Cf × AV)} (hT : T id = rc.row) (hme : rc.me = c.me) (hma : rc.ma = c.ma) (hsq : rc.sq = c.sq) (ho : rc.o = o) (htr : rc.tr = t) (hR : RRt T rc.rt m) (hm : m.map (·.1) = c.l) (hk : c.Ok) (hw : c.w = some (o, t)) :
  ACalls prog q0p [.ptr id 0] T (fun v T' => v = .fz (qp8 c o t).length ((qp8 c o t).flatMap Lt.pc) none /\ T' = T) := by
 refine U9 Q7 qeq (by simp) ?_
 obtain ⟨⟨hof, hmay, hsq1⟩, ht0, ht1⟩ := hk.w _ hw
 simp only at hof hmay ht0 ht1
 have hI := qxh hT
 rw [hme, hsq] at hI
 have hln : m.length = c.l.length := by rw [<- hm, List.length_map]
 have hn := hk.l.n
 obtain ⟨me, ma, rt, sq, wt, o', k1, k2, tr, la, had⟩ := rc
 simp only at hme hma hsq ho htr hR
 subst hme; subst hma; subst hsq; subst ho; subst htr
 simp only [Rc.row] at hT
 unfold q8y
 refine q88 True [(0, .ptr id 0)] [] T (fun K hK => by simp -implicitDefEqProofs -dsimp only [go_sem, seval]; exact hK trivial) fun _ => ?_
 refine q88 True [(0, .ptr id 0), (3, .lp 3 0)] [(3, [.i .i64 3, .i .i64 c.me])] T (fun K hK => by simp -implicitDefEqProofs -dsimp only [go_sem, seval, hT]; exact hK trivial) fun _ => ?_
 refine q88 True [(0, .ptr id 0), (3, .lp 3 0), (4, .lp 4 0)] [(3, [.i .i64 3, .i .i64 c.me]), (4, [.i .i64 3, .i .i64 c.me, .i .i64 2, .i .i64 0, .i .i64 20, .i .i64 0, .i .u64 0, .i .i64 0, .i .i64 0, .i .i64 0, .b false, .i .u64 0, .i .i64 0, .fz 0 [] (some 0), .fz 0 [] (some 0), .fz 0 [] (some 0), .i .i64 0, .i .u64 0, .b false, .fz 0 [] (some 0), .fz 0 [] (some 0), .i .i64 0, .i .u64 0, .s [], .i .u64 0, .i .i64 0])] T (fun K hK => by simp -implicitDefEqProofs -dsimp only [go_sem, seval]; exact hK trivial) fun _ => ?_
 refine z1m (by repeat' (first | exact N5 _ _ | assumption | apply N4 | apply K7 | apply U1)) (fun E L T1 => ∃ cs, E = [(0, .ptr id 0), (3, .lp 3 0), (4, .lp 4 0)] /\ L = [(3, [.i .i64 3, .i .i64 c.me]), (4, cs)] /\ T1 = T /\ cs.length = 26 /\ Wks cs (fsL c o' tr).pc) (fun K hE hK => ?_) fun E L T1 hq => ?_
 ·by_cases h1 : o'.k = 1
  ·have d : decide (o'.k = 1) = true := decide_eq_true h1
   obtain ⟨cf, xx, r1, r2, r3⟩ := qwe hk.l o'.key tr
   have hkey : qdh o'.key = true := by unfold qut at hmay; rw [if_pos h1] at hmay; exact hmay
   rw [<- hm, List.length_map] at r1
   obtain ⟨v, r1'⟩ := z1z r1
   have hcr : cf.right = true := (hk.l.c _ cf (by rw [<- hm]; exact r1)).1
   have hRd := qyc hR o'.key hof.key tr cf v xx r1' r2 hcr (by omega)
   rw [if_pos hkey] at hRd
   simp -implicitDefEqProofs -dsimp only [go_sem, seval, hT, d, ↓J0 _ _ q07]
   refine can hI ?_
   simp -implicitDefEqProofs -dsimp only [go_sem, seval, hT, ↓J0 _ _ qd3]
   refine can hRd ?_
   simp -implicitDefEqProofs -dsimp only [go_sem, seval, hT]
   refine hK _ _ _ ⟨_, rfl, rfl, rfl, rfl, ?_⟩
   unfold fsL gtL
   rw [if_pos h1, r3]
   exact ⟨.refl _, .refl _, .refl _, .refl _, .refl _, .refl _, .refl _, .refl _, .refl _, .refl _, .refl _, .refl _, .refl _, .fz, .fz, .fz, .refl _, .refl _, .refl _, .fz, .fz, .refl _, .refl _, .refl _, .refl _, .refl _, trivial⟩
  ·have d : decide (o'.k = 1) = false := decide_eq_false h1
   have hmay' : qgd (txn o' 0 1) = true := by unfold qut at hmay; rw [if_neg h1] at hmay; exact hmay
   have htx : qgd (txn o' c.me c.sq) = true := qwd hmay' hk.me (by omega)
   have htf := qie hof c.me c.sq
   obtain ⟨xx, cf, r1, r2, r3⟩ := qwg hk.l htx
   rw [<- hm, List.length_map] at r1
   rw [<- hm] at r2
   obtain ⟨v, r2'⟩ := z1z r2
   have hcr : cf.right = true := (hk.l.c _ cf (by rw [<- hm]; exact r2)).1
   have hl0 := qdi hcr
   obtain ⟨y, hy⟩ : ∃ y, cf.ch[0]? = some y := ⟨_, List.getElem?_eq_getElem (by omega)⟩
   have hat : cf.at 0 = y := by
    unfold Cf.at
    rw [if_pos ⟨hcr, by omega, by omega⟩]
    show (cf.ch[(0 : Nat)]?).getD _ = y
    rw [hy]; rfl
   have hb : (txn o' c.me c.sq).rs.length <= 8 /\ (txn o' c.me c.sq).ws.length <= 8 := by
    have h := htx
    simp only [qgd, Bool.and_eq_true, Bool.not_eq_true', decide_eq_false_iff_not] at h
    have h1 := h.1.1.1.1.2
    have h2 := h.1.1.1.2
    omega
   have hsq0 : 0 <= (txn o' c.me c.sq).sq := by unfold txn; split <;> (try split) <;> (try split) <;> first | exact Int.natCast_nonneg _ | exact (by decide : (0 : Int) <= 0)
   have hRw := qyg hR (txn o' c.me c.sq) none none htf hsq0 (by omega) (by omega) xx cf v y r1 r2' hy
   rw [if_pos htx] at hRw
   have hX := (z1j o' c.me c.sq).wk (xs := [.agg [.i .i64 o'.k, .s o'.key, .s o'.v, .fz o'.rs.length (o'.rs.flatMap rdC) k1, .fz o'.ws.length (o'.ws.flatMap wtC) k2], .agg [.i .i64 c.me, .i .u64 c.sq]]) (Wks.cons (Wk.agg (m := o'.cells) ⟨.refl _, .refl _, .refl _, .fz, .fz, trivial⟩) (Wks.one (.refl _)))
   have e : (fsL c o' tr) = { zL with fk := 3, fn := c.me, tk := 2, tn := y, k := 20, t := txn o' c.me c.sq } := by unfold fsL doL; rw [if_neg h1, r3, hat]
   generalize txn o' c.me c.sq = tx at *
   simp only [Tx.cells] at hX hRw
   simp -implicitDefEqProofs -dsimp only [go_sem, seval, hT, d, ↓J0 _ _ q07]
   refine CallK.as hI (qk4 (fun _ => ?_) ?_)
   ·simp -implicitDefEqProofs -dsimp only [go_sem, seval, hT, U6, qdk, gdd]
   simp -implicitDefEqProofs -dsimp only [go_sem, seval, hT, ↓J0 _ _ qed]
   refine cpn hX ?_
   simp -implicitDefEqProofs -dsimp only [go_sem, seval, hT, ↓J0 _ _ qd6]
   refine can hRw ?_
   simp -implicitDefEqProofs -dsimp only [go_sem, seval, hT]
   refine hK _ _ _ ⟨_, rfl, rfl, rfl, rfl, ?_⟩
   rw [e]
   exact ⟨.refl _, .refl _, .refl _, .refl _, .refl _, .refl _, .refl _, .refl _, .refl _, .refl _, .refl _, .refl _, .refl _, .fz, .fz, .fz, .refl _, .refl _, .refl _, .fz, .fz, .refl _, .refl _, .refl _, .refl _, .refl _, trivial⟩
 obtain ⟨cs, rfl, rfl, rfl, hcl, hcw⟩ := hq
 have hset : qf6 zLR 0 cs = cs := qqm (by rw [hcl]; rfl)
 unfold zLR at hset
 have ht1' : cs.take 26 = cs := List.take_of_length_le (by omega)
 have ht2' : cs.drop 26 = [] := List.drop_of_length_le (by omega)
 have a1 := Int.lt_tmod_of_pos tr (show (0 : Int) < 3 by decide)
 have a2 := Int.tmod_lt_of_pos tr (show (0 : Int) < 3 by decide)
 have w1 : IntKind.i64.wrap (tr.tmod 3) = tr.tmod 3 := q02 (by unfold I64; omega)
 have w2 : IntKind.i64.wrap (tr.tdiv 3) = tr.tdiv 3 := by
  rw [Int.tdiv_eq_ediv_of_nonneg ht0]; exact q02 (by unfold I64; omega)
 have hma := hk.ma
 have b1 := Int.lt_tmod_of_pos (tr.tdiv 3) (show (0 : Int) < c.ma by omega)
 have b2 := Int.tmod_lt_of_pos (tr.tdiv 3) (show (0 : Int) < c.ma by omega)
 have w3 : IntKind.i64.wrap ((tr.tdiv 3).tmod c.ma) = (tr.tdiv 3).tmod c.ma := q02 (by unfold I64; omega)
 have z3 : ((3 : Int) = 0) = False := eq_false (by decide)
 have zm : (c.ma = 0) = False := eq_false (by omega)
 have hg : Gr T1 26 (.fz 1 cs (some 1)) 1 cs T1 := .inr ⟨rfl, by rw [hcl], rfl⟩
 generalize hfs : fsL c o' tr = g at *
 by_cases h2 : tr.tmod 3 = 2
 ·have d2 : decide (tr.tmod 3 = 2) = true := decide_eq_true h2
  have e : qp8 c o' tr = [g, knL c tr] := by unfold qp8; rw [if_pos h2, hfs]
  rw [e]
  simp -implicitDefEqProofs -dsimp only [go_sem, seval, hcl, ht1', ht2', hset, hT, w1, w2, w3, z3, zm, d2]
  refine hg.app (m := 1) rfl rfl (by decide) (by decide) (by decide) fun v2 T2 ho => J1 ?_
  obtain ⟨p1, p2, p3, p4, p5, p6⟩ := ho.form
  simp -implicitDefEqProofs -dsimp only [go_sem, seval, p1, p2, p3, p4, p5, p6]
  refine zaq (.inl ho) ?_
  show Wks _ (g.pc ++ ((knL c tr).pc ++ []))
  rw [List.append_nil]
  exact hcw.append ⟨.refl _, .refl _, .refl _, .refl _, .refl _, .refl _, .refl _, .refl _, .refl _, .refl _, .refl _, .refl _, .refl _, .fz, .fz, .fz, .refl _, .refl _, .refl _, .fz, .fz, .refl _, .refl _, .refl _, .refl _, .refl _, trivial⟩
 ·have d2 : decide (tr.tmod 3 = 2) = false := decide_eq_false h2
  have e : qp8 c o' tr = [g] := by unfold qp8; rw [if_neg h2, hfs]
  rw [e]
  simp -implicitDefEqProofs -dsimp only [go_sem, seval, hcl, ht1', ht2', hset, hT, w1, z3, d2]
  refine zaq hg ?_
  show Wks _ (g.pc ++ [])
  rw [List.append_nil]
  exact hcw
end Go.Aw
namespace Go.Aw
open Go
open Go.Proofs.Tryz (prog)
set_option linter.all false
set_option maxHeartbeats 8000000
set_option maxRecDepth 8000
def cr0 : Cr := ⟨0, 0, 0, 0, [], 0⟩
structure RcOf (rc : Rc) (rt : Nat) (c : Cl) : Prop where
 me : rc.me = c.me
 ma : rc.ma = c.ma
 rt : rc.rt = rt
 sq : rc.sq = c.sq
 wt : rc.wt = c.w.isSome
 o : ∀ q, c.w = some q -> rc.o = q.1 /\ rc.tr = q.2
 la : rc.la = c.la.getD cr0
 had : rc.had = c.la.isSome
structure Dc (T : Tab) (id rt : Nat) (c : Cl) : Prop where
 ex : ∃ rc : Rc, T id = rc.row /\ RcOf rc rt c
 rt : ∃ m, RRt T rt m /\ m.map (·.1) = c.l
theorem RRt.keepS {T T' : Tab} {id : Nat} {l : List (Cf × AV)} (h : RRt T id l) (hk : ∀ j z xs, T j = .row z xs -> (z = 1 \/ z = 2 \/ z = 4) -> T' j = T j) : RRt T' id l := by
 obtain ⟨rL, h1, h2, h3⟩ := h
 refine ⟨rL, by rw [hk _ _ _ h1 (by omega), h1], by rw [hk _ _ _ h2 (by omega), h2], fun x hx => ?_⟩
 rcases h3 x hx with h | ⟨i, e, t⟩
 ·exact .inl h
 ·exact .inr ⟨i, e, by rw [hk _ _ _ t (by omega), t]⟩
theorem RRt.put18 {T : Tab} {id rt : Nat} {l : List (Cf × AV)} {ys zs : List AV} (h : RRt T rt l) (hT : T id = .row 18 ys) : RRt (T.put id (.row 18 zs)) rt l :=
 h.keepS fun j z xs hj hz => Tab.put_ne _ _ fun e => by
  subst e; rw [hT] at hj; injection hj with h1; omega
theorem z21 {T : Tab} {id rt : Nat} {s : Slot} : Fr [id, rt] [] T (T.put id s) := Fr.put (by simp)
theorem Rc.rowE (rc : Rc) : rc.row = .row 18 [.i .i64 rc.me, .i .i64 rc.ma, .ptr rc.rt 0, .i .u64 rc.sq, .b rc.wt, .i .i64 rc.o.k, .s rc.o.key, .s rc.o.v, .fz rc.o.rs.length (rc.o.rs.flatMap rdC) rc.k1, .fz rc.o.ws.length (rc.o.ws.flatMap wtC) rc.k2, .i .i64 rc.tr, .i .i64 rc.la.cl, .i .u64 rc.la.sq, .i .i64 rc.la.n, .i .i64 rc.la.co, .s rc.la.v, .i .u64 rc.la.q, .b rc.had] := rfl
theorem z48 {T : Tab} {id rt : Nat} {c : Cl} (hD : Dc T id rt c) (hk : c.Ok) (hk2 : (qfk c).1.Ok) :
  ACalls prog q0i [.ptr id 0] T (fun v T' => v = .fz (qfk c).2.length ((qfk c).2.flatMap Lt.pc) none /\ Dc T' id rt (qfk c).1 /\ Fr [id, rt] [] T T') := by
 refine U9 Q7 qds (by simp) ?_
 have hD0 := hD
 obtain ⟨⟨rc, hT, e1, e2, e3, e4, e5, e6, e7, e8⟩, m, hR, hm⟩ := hD
 rw [Rc.rowE] at hT
 unfold qfk at hk2 ⊢
 unfold q84
 rcases hw : c.w with _ | ⟨o, t⟩
 ·rw [hw] at e5
  simp only [Option.isSome_none] at e5
  simp only
  simp -implicitDefEqProofs -dsimp only [go_sem, seval, hT, e5, Bool.not_false]
  exact qn5 .fz ⟨rfl, hD0, Fr.refl _ _⟩
 ·rw [hw] at e5
  simp only [Option.isSome_some] at e5
  obtain ⟨e9, e10⟩ := e6 _ hw
  simp only [hw] at e9 e10 hk2 ⊢
  have ht := (hk.w _ hw).2
  simp only at ht
  have w1 : IntKind.i64.wrap (t + 1) = t + 1 := q02 (by unfold I64; omega)
  rw [e10, e5] at hT
  have hrow : (T.put id ({ rc with tr := t + 1 } : Rc).row) id = ({ rc with tr := t + 1 } : Rc).row := Tab.put_same ..
  rw [<- e3] at hR
  have hac := z20 (c := { c with w := some (o, t + 1) }) (t := t + 1) (o := o) hrow e1 e2 e4 e9 rfl (hR.put18 hT) hm hk2 rfl
  rw [z4v] at hac
  rw [Rc.rowE] at hac
  simp only [e5] at hac
  simp -implicitDefEqProofs -dsimp only [go_sem, seval, hT, w1, Bool.not_true]
  refine q4h hT rfl rfl (by simp) (J1 ?_)
  simp -implicitDefEqProofs -dsimp only [go_sem, seval, ↓J0 _ _ q8z]
  refine CallK.of hac fun v T' hv => ?_
  rw [hv.1, hv.2]
  refine J1 ?_
  simp -implicitDefEqProofs -dsimp only [go_sem, seval]
  refine V1 _ (fun _ => .inr (.inl rfl)) ⟨rfl, ⟨⟨{ rc with tr := t + 1 }, ?_, e1, e2, e3, e4, e5, fun q hq => ?_, e7, e8⟩, m, ?_, hm⟩, z21⟩
  ·rw [Tab.put_same, Rc.rowE]; simp only [e5]
  ·injection hq with hq; subst hq; exact ⟨e9, rfl⟩
  ·rw [<- e3]; exact hR.put18 hT
theorem z49 {T : Tab} {id rt : Nat} {c : Cl} (hD : Dc T id rt c) (hk : c.Ok) (o : Cp) (ho : o.Fine) (hs : c.sq < 1000) (hk2 : (qaj c o).1.1.Ok) :
  ACalls prog q0h [.ptr id 0, .agg o.cells] T (fun v T' => v = .tup [.fz (qaj c o).1.2.length ((qaj c o).1.2.flatMap Lt.pc) none, .i .i64 (qaj c o).2] /\ Dc T' id rt (qaj c o).1.1 /\ Fr [id, rt] [] T T') := by
 refine U9 Q7 qdp (by simp) ?_
 have hD0 := hD
 obtain ⟨⟨rc, hT, e1, e2, e3, e4, e5, e6, e7, e8⟩, m, hR, hm⟩ := hD
 rw [Rc.rowE] at hT
 have cm := z6r o ho
 simp only [Cp.cells] at cm
 unfold qaj at hk2 ⊢
 unfold q83
 rcases hw : c.w with _ | ⟨o1, t1⟩
 case some =>
  rw [hw] at e5
  simp only [Option.isSome_some] at e5
  simp only [hw, Option.isSome_some, if_true]
  simp -implicitDefEqProofs -dsimp only [go_sem, seval, Cp.cells, hT, e5]
  exact qn5 (r' := .tup [.fz 0 [] none, .i .i64 10]) (Wk.tup ⟨.fz, .refl _, trivial⟩) ⟨rfl, hD0, Fr.refl _ _⟩
 rw [hw] at e5
 simp only [Option.isSome_none] at e5
 simp only [hw, Option.isSome_none, Bool.false_eq_true, if_false] at hk2 ⊢
 rcases hmf : qut o with _ | _
 ·rw [hmf] at cm
  simp only [if_true]
  simp -implicitDefEqProofs -dsimp only [go_sem, seval, Cp.cells, hT, e5, ↓J0 _ _ qe9]
  refine cpn cm ?_
  simp -implicitDefEqProofs -dsimp only [go_sem, seval, Bool.not_false]
  exact qn5 (r' := .tup [.fz 0 [] none, .i .i64 1]) (Wk.tup ⟨.fz, .refl _, trivial⟩) ⟨rfl, hD0, Fr.refl _ _⟩
 rw [hmf] at cm
 have hsn : ¬ c.sq = 18446744073709551615 := by omega
 simp only [hmf, Bool.true_eq_false, if_false, if_neg hsn] at hk2 ⊢
 rw [e4, e5] at hT
 have ws : IntKind.u64.wrap ((c.sq : Int) + 1) = ((c.sq + 1 : Nat) : Int) := (IntWalk.u64_in _ (by omega)).trans (by omega)
 have hrow : (T.put id ({ rc with sq := c.sq + 1, wt := true, o := o, k1 := none, k2 := none, tr := 0 } : Rc).row) id = ({ rc with sq := c.sq + 1, wt := true, o := o, k1 := none, k2 := none, tr := 0 } : Rc).row := Tab.put_same ..
 rw [<- e3] at hR
 have hac := z20 (c := { c with sq := c.sq + 1, w := some (o, 0) }) (t := 0) (o := o) hrow e1 e2 rfl rfl rfl (hR.put18 hT) hm hk2 rfl
 rw [Rc.rowE] at hac
 simp only at hac
 simp -implicitDefEqProofs -dsimp only [go_sem, seval, Cp.cells, hT, ↓J0 _ _ qe9]
 refine cpn cm ?_
 simp -implicitDefEqProofs -dsimp only [go_sem, seval, hT, ws, Bool.not_true]
 refine q4h hT rfl rfl (by simp) (J1 ?_)
 have hT1 := Tab.put_same T id (.row 18 [.i .i64 rc.me, .i .i64 rc.ma, .ptr rc.rt 0, .i .u64 ((c.sq + 1 : Nat) : Int), .b false, .i .i64 rc.o.k, .s rc.o.key, .s rc.o.v, .fz rc.o.rs.length (rc.o.rs.flatMap rdC) rc.k1, .fz rc.o.ws.length (rc.o.ws.flatMap wtC) rc.k2, .i .i64 rc.tr, .i .i64 rc.la.cl, .i .u64 rc.la.sq, .i .i64 rc.la.n, .i .i64 rc.la.co, .s rc.la.v, .i .u64 rc.la.q, .b rc.had])
 simp -implicitDefEqProofs -dsimp only [go_sem, seval]
 refine q4h hT1 rfl rfl (by simp) (J1 ?_)
 have hT2 := Tab.put_same T id (.row 18 [.i .i64 rc.me, .i .i64 rc.ma, .ptr rc.rt 0, .i .u64 ((c.sq + 1 : Nat) : Int), .b true, .i .i64 rc.o.k, .s rc.o.key, .s rc.o.v, .fz rc.o.rs.length (rc.o.rs.flatMap rdC) rc.k1, .fz rc.o.ws.length (rc.o.ws.flatMap wtC) rc.k2, .i .i64 rc.tr, .i .i64 rc.la.cl, .i .u64 rc.la.sq, .i .i64 rc.la.n, .i .i64 rc.la.co, .s rc.la.v, .i .u64 rc.la.q, .b rc.had])
 simp -implicitDefEqProofs -dsimp only [go_sem, seval, Tab.put_put]
 refine q4h hT2 rfl rfl (by simp) (J1 ?_)
 have hT3 := Tab.put_same T id (.row 18 [.i .i64 rc.me, .i .i64 rc.ma, .ptr rc.rt 0, .i .u64 ((c.sq + 1 : Nat) : Int), .b true, .i .i64 o.k, .s o.key, .s o.v, .fz o.rs.length (o.rs.flatMap rdC) none, .fz o.ws.length (o.ws.flatMap wtC) none, .i .i64 rc.tr, .i .i64 rc.la.cl, .i .u64 rc.la.sq, .i .i64 rc.la.n, .i .i64 rc.la.co, .s rc.la.v, .i .u64 rc.la.q, .b rc.had])
 simp -implicitDefEqProofs -dsimp only [go_sem, seval, Tab.put_put]
 refine q4h hT3 rfl rfl (by simp) (J1 ?_)
 simp -implicitDefEqProofs -dsimp only [go_sem, seval, Tab.put_put, ↓J0 _ _ q8z]
 refine CallK.of hac fun v T' hv => ?_
 rw [hv.1, hv.2]
 refine J1 ?_
 simp -implicitDefEqProofs -dsimp only [go_sem, seval]
 refine V1 _ (fun _ => .inr (.inl rfl)) ⟨rfl, ⟨⟨{ rc with sq := c.sq + 1, wt := true, o := o, k1 := none, k2 := none, tr := 0 }, Tab.put_same .., e1, e2, e3, rfl, rfl, fun q hq => ?_, e7, e8⟩, m, ?_, hm⟩, z21⟩
 ·injection hq with hq; subst hq; exact ⟨rfl, rfl⟩
 ·rw [<- e3]; exact hR.put18 hT
end Go.Aw
