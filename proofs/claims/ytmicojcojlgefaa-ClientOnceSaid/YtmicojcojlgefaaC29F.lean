import Derived.Test.YtmicojcojlgefaaC29E
import Derived.Test.YtmicojcojlgefaaAwD
namespace Go.Aw
open Go
open Go.Proofs.Try (prog)
set_option linter.all false
set_option maxHeartbeats 8000000
set_option maxRecDepth 8000

/-! What a client sends: the walk. -/
theorem AW_cutX {P : Program} {a b : SC} {R : RPost} {e : Env} {L : Loc} {T : Tab} (hR : ExtR R) (Q : Env → Loc → Tab → Prop) (h1 : ∀ K : Env → Loc → Tab → Prop, ExtK K → (∀ E L T, Q E L T → K E L T) → AW P a (thenR K R) e L T) (h2 : ∀ E L T, Q E L T → AW P b R E L T) : AW P (.seq a b) R e L T := by
  have h := h1 (fun e' L' T' => AW P b R e' L' T') (AW_ext b hR) h2
  exact h
abbrev Lt.kc (l : Lt Cf) : List AV := l.cells cfC
theorem kc_len (l : Lt Cf) : l.kc.length = 26 := rfl
theorem setAll_p : ∀ (g p z : List AV), z.length = g.length → setAll (p ++ z) p.length g = p ++ g
  | [], p, z, h => by
    have : z = [] := List.length_eq_zero_iff.1 h
    subst this; rfl
  | x :: g, p, [], h => by cases h
  | x :: g, p, y :: z, h => by
    have e : (p ++ y :: z).set p.length x = (p ++ [x]) ++ z := by simp
    have ih := setAll_p g (p ++ [x]) z (by simpa using h)
    simp only [List.length_append, List.length_cons, List.length_nil, Nat.zero_add] at ih
    rw [setAll, e, ih]
    simp
theorem setAll_full {z g : List AV} (h : z.length = g.length) : setAll z 0 g = g := setAll_p g [] z h
theorem setL (g : Lt Cf) : setAll [.i .i64 0, .i .i64 0, .i .i64 0, .i .i64 0, .i .i64 0, .i .i64 0, .i .u64 0, .i .i64 0, .i .i64 0, .i .i64 0, .b false, .i .u64 0, .i .i64 0, .fz 0 [] (some 0), .fz 0 [] (some 0), .fz 0 [] (some 0), .i .i64 0, .i .u64 0, .b false, .fz 0 [] (some 0), .fz 0 [] (some 0), .i .i64 0, .i .u64 0, .s [], .i .u64 0, .i .i64 0] 0 (g.cells cfC) = g.cells cfC := setAll_full rfl
theorem clR_used {T : Tab} {id r w x : Nat} {c : Cl} (h : T id = clRow c r w x) : T id ≠ .unused := by rw [h]; simp [clRow]
theorem own_fz {T T1 : Tab} {z n : Nat} {v : AV} {xs : List AV} (h : Own T z v n xs T1) : finL v (fun r T' => r = .fz n xs none ∧ T' = T) T1 := by
  refine finL_owns (l := [⟨z, v, n, xs⟩]) ⟨T, rfl, h⟩ fun S hS => ?_
  obtain ⟨c1, e2⟩ := hS _ (List.mem_cons_self ..)
  have : frzt T1 S v = frz1 T1 S v := by rcases h.2 with ⟨h, _⟩ | ⟨j, h, _⟩ <;> (rw [h]; rfl)
  rw [this, e2]
  exact .fz
theorem ac_try {T : Tab} {id r l w x : Nat} {c : Cl} {o : Cp} {t : Int} (h : Ct T id r l w x c) (hw : c.w = some (o, t)) (hk : c.Ok) :
    ACalls prog f_client_Client_try [.ptr id 0] T (fun v T' => v = .fz (tryL c o t).length ((tryL c o t).flatMap Lt.kc) none ∧ T' = T) := by
  refine acalls_of mixed t_client_Client_try (by simp) ?_
  obtain ⟨⟨hof, hmay, hsq⟩, ht0, ht1⟩ := hk.w _ hw
  simp only at hof hmay ht0 ht1
  have hT := h.cr
  have hW := h.cw _ hw
  simp only at hW
  simp only [clRow, hw, ptO] at hT
  simp only [wRow] at hW
  unfold s_client_Client_try
  refine AW_cut True [(0, .ptr id 0)] [] T (fun K hK => by simp -implicitDefEqProofs -dsimp only [go_sem, seval]; exact hK trivial) fun _ => ?_
  refine AW_cut True [(0, .ptr id 0), (3, .ptr w 0)] [] T (fun K hK => by simp -implicitDefEqProofs -dsimp only [go_sem, seval, hT]; exact hK trivial) fun _ => ?_
  refine AW_cut True [(0, .ptr id 0), (3, .ptr w 0), (4, .fz 0 [] (some 0))] [] T (fun K hK => by simp -implicitDefEqProofs -dsimp only [go_sem, seval]; exact hK trivial) fun _ => ?_
  refine AW_cutX (by repeat' (first | exact finX_ext _ _ | assumption | apply blkR_ext | apply thenR_ext | apply AW_ext)) (fun E L T1 => ∃ v, E = [(0, .ptr id 0), (3, .ptr w 0), (4, v)] ∧ L = [] ∧ Own T 26 v 1 (fsL c o t).kc T1) (fun K hE hK => ?_) fun E L T1 hq => ?_
  · by_cases h1 : o.k = 1
    · have d : decide (o.k = 1) = true := decide_eq_true h1
      obtain ⟨cf, xx, r1, r2, r3⟩ := rd_some hk.l o.key t
      have hR := ac_Reader h.rt hk.l o.key hof.key t cf xx r1 r2
      have hkey : keyOk o.key = true := by unfold mayF at hmay; rw [if_pos h1] at hmay; exact hmay
      rw [if_pos hkey] at hR
      have hS := (ac_send h.cr 2 xx { zL with k := 19, cl := c.me, sq := c.sq, v := o.key }).wk (xs := [.ptr id 0, .i .i64 2, .i .i64 xx, .agg [.i .i64 0, .i .i64 0, .i .i64 0, .i .i64 0, .i .i64 19, .i .i64 0, .i .u64 0, .i .i64 0, .i .i64 0, .i .i64 0, .b false, .i .u64 0, .i .i64 0, .fz 0 [] (some 0), .fz 0 [] (some 0), .fz 0 [] (some 0), .i .i64 0, .i .u64 0, .b false, .fz 0 [] (some 0), .fz 0 [] (some 0), .i .i64 c.me, .i .u64 c.sq, .s o.key, .i .u64 0, .i .i64 0]]) (Wks.cons (.refl _) (Wks.cons (.refl _) (Wks.cons (.refl _) (Wks.one (Wk.agg (m := ({ zL with k := 19, cl := c.me, sq := c.sq, v := o.key } : Lt Cf).cc) ⟨.refl _, .refl _, .refl _, .refl _, .refl _, .refl _, .refl _, .refl _, .refl _, .refl _, .refl _, .refl _, .refl _, .fz, .fz, .fz, .refl _, .refl _, .refl _, .fz, .fz, .refl _, .refl _, .refl _, .refl _, .refl _, trivial⟩)))))
      have e : sndL c.me 2 xx { zL with k := 19, cl := c.me, sq := c.sq, v := o.key } = fsL c o t := by
        unfold fsL gtL; rw [if_pos h1, r3]; rfl
      rw [e] at hS
      simp -implicitDefEqProofs -dsimp only [go_sem, seval, hT, hW, d, ↓g_call _ _ c_route_Route_Reader]
      refine CallK.as hR (aft_nil ?_)
      simp -implicitDefEqProofs -dsimp only [go_sem, seval, hT, hW, ↓g_call _ _ c_client_Client_send]
      refine CallK.of hS fun v T' hv => ?_
      rw [hv.1, hv.2]
      refine aft_nil ?_
      simp -implicitDefEqProofs -dsimp only [go_sem, seval, kc_len, cc_len, cc_take, cc_drop, setL]
      refine (Own.nil T 26).app (m := 1) (news := (fsL c o t).kc) rfl rfl (by decide) (by decide) fun v2 T2 ho => aft_nil ?_
      obtain ⟨p1, p2, p3, p4, p5, p6⟩ := ho.form
      simp -implicitDefEqProofs -dsimp only [go_sem, seval, p1, p2, p3, p4, p5, p6]
      exact hK _ _ _ ⟨v2, rfl, rfl, by simpa using ho⟩
    · have d : decide (o.k = 1) = false := decide_eq_false h1
      have hmay' : txOk (txn o 0 1) = true := by unfold mayF at hmay; rw [if_neg h1] at hmay; exact hmay
      have htx : txOk (txn o c.me c.sq) = true := txOk_id hmay' hk.me (by omega)
      have htf := txn_fine hof c.me c.sq
      obtain ⟨xx, cf, r1, r2, r3⟩ := wr_some hk.l htx
      have hb : (txn o c.me c.sq).rs.length ≤ 8 ∧ (txn o c.me c.sq).ws.length ≤ 8 := by
        have h := htx
        simp only [txOk, Bool.and_eq_true, Bool.not_eq_true', decide_eq_false_iff_not] at h
        have h1 := h.1.1.1.1.2
        have h2 := h.1.1.1.2
        omega
      have hR := ac_Writer h.rt hk.l (txn o c.me c.sq) none none htf (by omega) (by omega) xx cf r1 r2
      rw [if_pos htx] at hR
      have hX := pc_Txn o c.me c.sq hof
      have hS := (ac_send h.cr 2 (cf.at 0) { zL with k := 20, t := txn o c.me c.sq }).wk (xs := [.ptr id 0, .i .i64 2, .i .i64 (cf.at 0), .agg [.i .i64 0, .i .i64 0, .i .i64 0, .i .i64 0, .i .i64 20, .i .i64 0, .i .u64 0, .i .i64 0, .i .i64 0, .i .i64 0, .b false, .i .u64 0, .i .i64 0, .fz 0 [] (some 0), .fz 0 [] (some 0), .fz 0 [] (some 0), .i .i64 (txn o c.me c.sq).cl, .i .u64 (txn o c.me c.sq).sq, .b (txn o c.me c.sq).pl, .fz (txn o c.me c.sq).rs.length ((txn o c.me c.sq).rs.flatMap rdC) none, .fz (txn o c.me c.sq).ws.length ((txn o c.me c.sq).ws.flatMap wtC) none, .i .i64 0, .i .u64 0, .s [], .i .u64 0, .i .i64 0]]) (Wks.cons (.refl _) (Wks.cons (.refl _) (Wks.cons (.refl _) (Wks.one (Wk.agg (m := ({ zL with k := 20, t := txn o c.me c.sq } : Lt Cf).cc) ⟨.refl _, .refl _, .refl _, .refl _, .refl _, .refl _, .refl _, .refl _, .refl _, .refl _, .refl _, .refl _, .refl _, .fz, .fz, .fz, .refl _, .refl _, .refl _, .fz, .fz, .refl _, .refl _, .refl _, .refl _, .refl _, trivial⟩)))))
      have e : sndL c.me 2 (cf.at 0) { zL with k := 20, t := txn o c.me c.sq } = fsL c o t := by
        unfold fsL doL; rw [if_neg h1, r3]; rfl
      rw [e] at hS
      simp only [Cp.cells] at hX
      generalize htx : txn o c.me c.sq = tx at *
      simp only [Tx.cells] at hX hR
      simp -implicitDefEqProofs -dsimp only [go_sem, seval, hT, hW, d, ↓g_call _ _ c_client_Op_Txn]
      refine CallK.pure hX (aft_nil ?_)
      simp -implicitDefEqProofs -dsimp only [go_sem, seval, hT, hW, ↓g_call _ _ c_route_Route_Writer]
      refine CallK.as hR (aft_nil ?_)
      simp -implicitDefEqProofs -dsimp only [go_sem, seval, hT, hW, ↓g_call _ _ c_client_Client_send]
      refine CallK.of hS fun v T' hv => ?_
      rw [hv.1, hv.2]
      refine aft_nil ?_
      simp -implicitDefEqProofs -dsimp only [go_sem, seval, kc_len, cc_len, cc_take, cc_drop, setL]
      refine (Own.nil T 26).app (m := 1) (news := (fsL c o t).kc) rfl rfl (by decide) (by decide) fun v2 T2 ho => aft_nil ?_
      obtain ⟨p1, p2, p3, p4, p5, p6⟩ := ho.form
      simp -implicitDefEqProofs -dsimp only [go_sem, seval, p1, p2, p3, p4, p5, p6]
      exact hK _ _ _ ⟨v2, rfl, rfl, by simpa using ho⟩
  obtain ⟨v, rfl, rfl, ho⟩ := hq
  obtain ⟨p1, p2, p3, p4, p5, p6⟩ := ho.form
  have i1 : T1 id = T id := Own.at ho (clR_used h.cr)
  have i2 : T1 w = T w := Own.at ho (by rw [h.cw _ hw]; simp [wRow])
  have hc1 : T1 id = clRow c r w x := i1.trans h.cr
  rw [← i1] at hT
  rw [← i2] at hW
  have a1 := Int.lt_tmod_of_pos t (show (0 : Int) < 3 by decide)
  have a2 := Int.tmod_lt_of_pos t (show (0 : Int) < 3 by decide)
  have hsnd : sndL c.me 1 ((t.tdiv 3).tmod c.ma) { zL with k := 3 } = knL c t := rfl
  have hS := (ac_send hc1 1 ((t.tdiv 3).tmod c.ma) { zL with k := 3 }).wk (xs := [.ptr id 0, .i .i64 1, .i .i64 ((t.tdiv 3).tmod c.ma), .agg [.i .i64 0, .i .i64 0, .i .i64 0, .i .i64 0, .i .i64 3, .i .i64 0, .i .u64 0, .i .i64 0, .i .i64 0, .i .i64 0, .b false, .i .u64 0, .i .i64 0, .fz 0 [] (some 0), .fz 0 [] (some 0), .fz 0 [] (some 0), .i .i64 0, .i .u64 0, .b false, .fz 0 [] (some 0), .fz 0 [] (some 0), .i .i64 0, .i .u64 0, .s [], .i .u64 0, .i .i64 0]]) (Wks.cons (.refl _) (Wks.cons (.refl _) (Wks.cons (.refl _) (Wks.one (Wk.agg (m := ({ zL with k := 3 } : Lt Cf).cc) ⟨.refl _, .refl _, .refl _, .refl _, .refl _, .refl _, .refl _, .refl _, .refl _, .refl _, .refl _, .refl _, .refl _, .fz, .fz, .fz, .refl _, .refl _, .refl _, .fz, .fz, .refl _, .refl _, .refl _, .refl _, .refl _, trivial⟩)))))
  rw [hsnd] at hS
  have w1 : IntKind.i64.wrap (t.tmod 3) = t.tmod 3 := wrap_i64 (by unfold I64; omega)
  have w2 : IntKind.i64.wrap (t.tdiv 3) = t.tdiv 3 := by
    rw [Int.tdiv_eq_ediv_of_nonneg ht0]; exact wrap_i64 (by unfold I64; omega)
  have hma := hk.ma
  have b1 := Int.lt_tmod_of_pos (t.tdiv 3) (show (0 : Int) < c.ma by omega)
  have b2 := Int.tmod_lt_of_pos (t.tdiv 3) (show (0 : Int) < c.ma by omega)
  have w3 : IntKind.i64.wrap ((t.tdiv 3).tmod c.ma) = (t.tdiv 3).tmod c.ma := wrap_i64 (by unfold I64; omega)
  have z3 : ((3 : Int) = 0) = False := eq_false (by decide)
  have zm : (c.ma = 0) = False := eq_false (by omega)
  generalize hg : fsL c o t = g at *
  by_cases h2 : t.tmod 3 = 2
  · have d2 : decide (t.tmod 3 = 2) = true := decide_eq_true h2
    have e : tryL c o t = [g, knL c t] := by unfold tryL; rw [if_pos h2, hg]
    rw [e]
    generalize knL c t = q at *
    simp -implicitDefEqProofs -dsimp only [go_sem, seval, hT, hW, p1, p2, p3, p4, p5, p6, w1, w2, w3, z3, zm, d2, ↓g_call _ _ c_client_Client_send]
    refine CallK.of hS fun v' T' hv => ?_
    rw [hv.1, hv.2]
    refine aft_nil ?_
    simp -implicitDefEqProofs -dsimp only [go_sem, seval, p1, p2, p3, p4, p5, p6, kc_len, cc_len, cc_take, cc_drop, setL]
    refine ho.app (m := 1) (news := q.kc) rfl rfl (by decide) (by decide) fun v2 T2 ho => aft_nil ?_
    obtain ⟨p1, p2, p3, p4, p5, p6⟩ := ho.form
    simp -implicitDefEqProofs -dsimp only [go_sem, seval, p1, p2, p3, p4, p5, p6]
    have := own_fz ho
    simpa using this
  · have d2 : decide (t.tmod 3 = 2) = false := decide_eq_false h2
    have e : tryL c o t = [g] := by unfold tryL; rw [if_neg h2, hg]
    rw [e]
    simp -implicitDefEqProofs -dsimp only [go_sem, seval, hT, hW, p1, p2, p3, p4, p5, p6, w1, z3, d2]
    have := own_fz ho
    simpa using this
end Go.Aw

