import Derived.Test.YtfphinopblfacaaGreatDoorP21B
namespace Go.Aw
open Go
open Go.Proofs.Tryz (prog)
set_option linter.all false
set_option maxHeartbeats 4000000

theorem lp_lSame {R : RPost} (hR : ExtR R) {T : Tab} {ib : Nat} {cs : List Cf} {l : List Rf} (hll : l = cs.map Cf.plain) (hC : T ib = .row 4 (rfsC l)) (hl : Len cs.length) (hs : ∀ c ∈ cs, c.ch.length < 1000000000) : ∀ (ys : List Cf) (k : Nat), cs.drop k = ys → k ≤ cs.length →
    R (.exit 0) [(5, .fz cs.length (cfsC cs) none), (39, .sl ib 0 cs.length none), (40, .i .i64 cs.length), (41, .i .i64 cs.length), (42, .b false)] [] T →
    AW prog sautoirlaw21_Same_l0 R [(5, .fz cs.length (cfsC cs) none), (39, .sl ib 0 cs.length none), (40, .i .i64 cs.length), (41, .i .i64 k)] [] T := by
  unfold Len at hl
  have hlen' : l.length = cs.length := by rw [hll]; simp
  intro ys
  induction ys with
  | nil =>
    intro k hk hle h2
    have hk' := drop_nil hk hle
    refine AW_loop hR ?_
    unfold sautoirlaw21_Same_l0b
    rw [← hk']
    simp -implicitDefEqProofs -dsimp only [go_sem, Nat.reduceEqDiff, Nat.reduceAdd, Nat.reduceMul, Nat.reduceSub, Nat.reduceLT, Nat.reduceLeDiff, Nat.reduceBEq, reduceIte, reduceCtorEq, Int.reduceLT, Int.reduceLE, Int.reduceEq, Int.reduceNeg, Int.reduceToNat, Int.reduceAdd, Int.reduceSub, Int.lt_irrefl]
    exact h2
  | cons y ys ih =>
    intro k hk hle h2
    obtain ⟨hlt, hy, hk'⟩ := drop_lt hk
    have hws : IntKind.i64.wrap ((k : Int) + 1) = ((k + 1 : Nat) : Int) := wrap_succ (by omega)
    have hcell := cfsC_at hy
    have hlen : k * 5 + 5 ≤ (cfsC cs).length := by rw [cfsC_length]; omega
    have hyl : l[k]? = some y.plain := by rw [hll, List.getElem?_map, hy]; rfl
    have hcellr := rfsC_at hyl
    have hlenr : k * 4 + 4 ≤ (rfsC l).length := by rw [rfsC_length]; omega
    have hsy := hs y (List.mem_of_getElem? hy)
    have cP := pc_Plain y none none hsy
    have cS := pc_Same y.plain none none (by rw [y.plain_len]; unfold Len; omega)
    simp only [Cf.cells, Rf.cells] at cP cS
    refine AW_loopD (l := sautoirlaw21_Same_l0) rfl hR ?_
    unfold sautoirlaw21_Same_l0b
    simp -implicitDefEqProofs -dsimp only [go_sem, Nat.reduceEqDiff, Nat.reduceAdd, Nat.reduceMul, Nat.reduceSub, Nat.reduceLT, Nat.reduceLeDiff, Nat.reduceBEq, reduceIte, reduceCtorEq, Int.reduceLT, Int.reduceLE, Int.reduceEq, Int.reduceNeg, Int.reduceToNat, Int.reduceAdd, Int.reduceSub, Int.ofNat_lt, hlt, Int.natCast_nonneg, Int.toNat_natCast, hC, hlen, hcell, hlenr, hcellr, Cf.cells, Rf.cells, List.cons_append, List.nil_append, ↓g_call _ _ c_sautoirlaw16_Plain]
    refine CallK.pure cP (aft_nil ?_)
    simp -implicitDefEqProofs -dsimp only [go_sem, Nat.reduceEqDiff, Nat.reduceAdd, Nat.reduceMul, Nat.reduceSub, Nat.reduceLT, Nat.reduceLeDiff, Nat.reduceBEq, reduceIte, reduceCtorEq, Int.reduceLT, Int.reduceLE, Int.reduceEq, Int.reduceNeg, Int.reduceToNat, Int.reduceAdd, Int.reduceSub, ↓g_call _ _ c_sautoirref16_Same]
    refine CallK.pure cS (aft_nil ?_)
    simp -implicitDefEqProofs -dsimp only [go_sem, Nat.reduceEqDiff, Nat.reduceAdd, Nat.reduceMul, Nat.reduceSub, Nat.reduceLT, Nat.reduceLeDiff, Nat.reduceBEq, reduceIte, reduceCtorEq, Int.reduceLT, Int.reduceLE, Int.reduceEq, Int.reduceNeg, Int.reduceToNat, Int.reduceAdd, Int.reduceSub, Bool.not_true, hws]
    exact ih (k + 1) hk' hlt h2
theorem ac_lSame {T : Tab} {a ia b ib : Nat} {o : Os} (ha : St T a ia o) (hb : RSt T b ib o) (hg : Good o) : ACalls prog f_sautoirlaw21_Same [.ptr a 0, .ptr b 0] T (fun r T' => r = .b true ∧ T' = T) := by
  obtain ⟨s1, s2, s3, s4, s5⟩ := hg.small
  have cC := ac_oConfs ha (by have := hg.len; omega) s1
  have cN := ac_oN ha
  have cO := ac_oCounter ha
  obtain ⟨t1, t2⟩ := hb
  rw [Os.row] at t1
  refine acalls_of mixed t_sautoirlaw21_Same (by simp) ?_
  unfold s_sautoirlaw21_Same
  simp -implicitDefEqProofs -dsimp only [go_sem, Nat.reduceEqDiff, Nat.reduceAdd, Nat.reduceMul, Nat.reduceSub, Nat.reduceLT, Nat.reduceLeDiff, Nat.reduceBEq, reduceIte, reduceCtorEq, Int.reduceLT, Int.reduceLE, Int.reduceEq, Int.reduceNeg, Int.reduceToNat, Int.reduceAdd, Int.reduceSub, ↓g_call _ _ c_order_State_Confs]
  refine CallK.as cC (aft_nil ?_)
  simp -implicitDefEqProofs -dsimp only [go_sem, Nat.reduceEqDiff, Nat.reduceAdd, Nat.reduceMul, Nat.reduceSub, Nat.reduceLT, Nat.reduceLeDiff, Nat.reduceBEq, reduceIte, reduceCtorEq, Int.reduceLT, Int.reduceLE, Int.reduceEq, Int.reduceNeg, Int.reduceToNat, Int.reduceAdd, Int.reduceSub, t1, ↓g_call _ _ c_order_State_N]
  refine CallK.as cN (aft_rc (fun _ => ?_) ?_)
  · simp -implicitDefEqProofs -dsimp only [go_sem, Nat.reduceEqDiff, Nat.reduceAdd, Nat.reduceMul, Nat.reduceSub, Nat.reduceLT, Nat.reduceLeDiff, Nat.reduceBEq, reduceIte, reduceCtorEq, Int.reduceLT, Int.reduceLE, Int.reduceEq, Int.reduceNeg, Int.reduceToNat, Int.reduceAdd, Int.reduceSub, rcOk, gvev, gdd, t1]
  simp -implicitDefEqProofs -dsimp only [go_sem, Nat.reduceEqDiff, Nat.reduceAdd, Nat.reduceMul, Nat.reduceSub, Nat.reduceLT, Nat.reduceLeDiff, Nat.reduceBEq, reduceIte, reduceCtorEq, Int.reduceLT, Int.reduceLE, Int.reduceEq, Int.reduceNeg, Int.reduceToNat, Int.reduceAdd, Int.reduceSub, t1, decide_true, eq_self, Bool.not_true, ↓g_gdc, rcOk, true_and, ↓g_call _ _ c_order_State_Counter]
  refine CallK.as cO (aft_rc (fun _ => ?_) ?_)
  · simp -implicitDefEqProofs -dsimp only [go_sem, Nat.reduceEqDiff, Nat.reduceAdd, Nat.reduceMul, Nat.reduceSub, Nat.reduceLT, Nat.reduceLeDiff, Nat.reduceBEq, reduceIte, reduceCtorEq, Int.reduceLT, Int.reduceLE, Int.reduceEq, Int.reduceNeg, Int.reduceToNat, Int.reduceAdd, Int.reduceSub, rcOk, gvev, gdd, t1]
  simp -implicitDefEqProofs -dsimp only [go_sem, Nat.reduceEqDiff, Nat.reduceAdd, Nat.reduceMul, Nat.reduceSub, Nat.reduceLT, Nat.reduceLeDiff, Nat.reduceBEq, reduceIte, reduceCtorEq, Int.reduceLT, Int.reduceLE, Int.reduceEq, Int.reduceNeg, Int.reduceToNat, Int.reduceAdd, Int.reduceSub, t1, decide_true, eq_self, Bool.not_true]
  refine lp_lSame (T := T) (by repeat' (first | exact finX_ext _ _ | assumption | apply blkR_ext | apply thenR_ext | apply AW_ext)) rfl t2 s3 (fun c hc => (s4 c hc).1) o.cs 0 rfl (Nat.zero_le _) ?_
  simp -implicitDefEqProofs -dsimp only [go_sem, Nat.reduceEqDiff, Nat.reduceAdd, Nat.reduceMul, Nat.reduceSub, Nat.reduceLT, Nat.reduceLeDiff, Nat.reduceBEq, reduceIte, reduceCtorEq, Int.reduceLT, Int.reduceLE, Int.reduceEq, Int.reduceNeg, Int.reduceToNat, Int.reduceAdd, Int.reduceSub]
  exact fin_as (.refl _) rfl

structure TwoR (T0 T : Tab) (a ia b ib : Nat) (o : Os) : Prop where
  sa : St T a ia o
  sb : RSt T b ib o
  n1 : a ≠ b
  n2 : a ≠ ib
  n3 : ia ≠ b
  n4 : ia ≠ ib
  le : TabLe T0 T
  u : T0 a = .unused ∧ T0 ia = .unused ∧ T0 b = .unused ∧ T0 ib = .unused

theorem lp_Plays {R : RPost} (hR : ExtR R) {T0 : Tab} {l : List Cm} {cap : Option Nat} {a ia b : Nat} {node s0 l0 v0 : Int} (hl : Len l.length) (he : ∀ c ∈ l, c.ep < 18446744073709551616) : ∀ (ys : List Cm) (j : Nat), l.drop j = ys → j ≤ l.length → j ≤ 25 → ∀ (ib : Nat) (T : Tab) (o : Os), TwoR T0 T a ia b ib o → Good o → o.v = v0 →
    (∀ (T : Tab) env L, TabLe T0 T → R (.exit 0) env L T) →
    AW prog sautoirlaw21_OrderPlays_l0 R [(2, .i .i64 node), (3, .lp 3 0), (7, .ptr a 0), (8, .ptr b 0), (46, .fz l.length (cmdsC l) cap), (47, .i .i64 l.length), (48, .i .i64 j)] [(3, [.i .i64 s0, .i .i64 l0, .i .i64 v0])] T := by
  unfold Len at hl
  intro ys
  induction ys with
  | nil =>
    intro j hj hle h25 ib T o hT hg hv h2
    have hj' := drop_nil hj hle
    refine AW_loop hR ?_
    unfold sautoirlaw21_OrderPlays_l0b
    simp -implicitDefEqProofs -dsimp only [go_sem, Nat.reduceEqDiff, Nat.reduceAdd, Nat.reduceMul, Nat.reduceSub, Nat.reduceLT, Nat.reduceLeDiff, Nat.reduceBEq, reduceIte, reduceCtorEq, Int.reduceLT, Int.reduceLE, Int.reduceEq, Int.reduceNeg, Int.reduceToNat, Int.reduceAdd, Int.reduceSub, hj', Int.lt_irrefl]
    exact h2 T _ _ hT.le
  | cons y ys ih =>
    intro j hj hle h25 ib T o hT hg hv h2
    obtain ⟨hlt, hy, hj'⟩ := drop_lt hj
    have hws : IntKind.i64.wrap ((j : Int) + 1) = ((j + 1 : Nat) : Int) := wrap_succ (by omega)
    have hcell := cmdsC_at hy
    have hlen : j * 4 + 4 ≤ (cmdsC l).length := by rw [cmdsC_len]; omega
    refine AW_loopD (l := sautoirlaw21_OrderPlays_l0) rfl hR ?_
    unfold sautoirlaw21_OrderPlays_l0b
    by_cases h25' : j = 25
    · have d : decide ((25 : Int) ≤ j) = true := decide_eq_true (by omega)
      simp -implicitDefEqProofs -dsimp only [go_sem, Nat.reduceEqDiff, Nat.reduceAdd, Nat.reduceMul, Nat.reduceSub, Nat.reduceLT, Nat.reduceLeDiff, Nat.reduceBEq, reduceIte, reduceCtorEq, Int.reduceLT, Int.reduceLE, Int.reduceEq, Int.reduceNeg, Int.reduceToNat, Int.reduceAdd, Int.reduceSub, Int.ofNat_lt, hlt, Int.natCast_nonneg, Int.toNat_natCast, hlen, hcell, Cm.cells, List.cons_append, List.nil_append, d]
      exact h2 T _ _ hT.le
    have d : decide ((25 : Int) ≤ j) = false := decide_eq_false (by omega)
    obtain ⟨s1, s2, s3, s4, s5⟩ := hg.small
    have hey := he y (List.mem_of_getElem? hy)
    have cT := ac_Text hT.sa s1 s2 y hey
    have hvl := txt_len (cs := o.cs) (c := y) s2 hey
    have cA := ac_oApply hT.sa s3 s1 (txt o.cs y) (by omega)
    obtain ⟨o', ho'⟩ : ∃ o', o' = (o.apply (txt o.cs y)).1 := ⟨_, rfl⟩
    obtain ⟨a1, a2, a3, a4⟩ := apply_n o (txt o.cs y)
    have hg' := (good_apply hg (txt o.cs y)).1
    rw [← ho'] at cA hg' a4
    obtain ⟨T1, hT1⟩ : ∃ T1, T1 = oT T a ia o' := ⟨_, rfl⟩
    rw [← hT1] at cA
    have sa1 : St T1 a ia o' := by rw [hT1]; exact oT_st hT.sa.ne
    have sb1 : RSt T1 b ib o := by
      refine ⟨?_, ?_⟩
      · rw [hT1, oT, Tab.put_ne _ _ (Ne.symm hT.n3), Tab.put_ne _ _ (Ne.symm hT.n1)]; exact hT.sb.1
      · rw [hT1, oT, Tab.put_ne _ _ (Ne.symm hT.n4), Tab.put_ne _ _ (Ne.symm hT.n2)]; exact hT.sb.2
    have le1 : TabLe T0 T1 := by rw [hT1, oT]; exact (hT.le.put hT.u.1).put hT.u.2.1
    have cR := ac_rApply sb1 hg (txt o.cs y) (by omega)
    rw [← ho'] at cR
    simp only [Cm.cells] at cT
    simp -implicitDefEqProofs -dsimp only [go_sem, Nat.reduceEqDiff, Nat.reduceAdd, Nat.reduceMul, Nat.reduceSub, Nat.reduceLT, Nat.reduceLeDiff, Nat.reduceBEq, reduceIte, reduceCtorEq, Int.reduceLT, Int.reduceLE, Int.reduceEq, Int.reduceNeg, Int.reduceToNat, Int.reduceAdd, Int.reduceSub, Int.ofNat_lt, hlt, Int.natCast_nonneg, Int.toNat_natCast, hlen, hcell, Cm.cells, List.cons_append, List.nil_append, d, ↓g_call _ _ c_sautoirlaw21_Text]
    refine CallK.as cT (aft_nil ?_)
    simp -implicitDefEqProofs -dsimp only [go_sem, Nat.reduceEqDiff, Nat.reduceAdd, Nat.reduceMul, Nat.reduceSub, Nat.reduceLT, Nat.reduceLeDiff, Nat.reduceBEq, reduceIte, reduceCtorEq, Int.reduceLT, Int.reduceLE, Int.reduceEq, Int.reduceNeg, Int.reduceToNat, Int.reduceAdd, Int.reduceSub, ↓g_call _ _ c_order_State_Apply]
    refine CallK.as cA (aft_nil ?_)
    simp -implicitDefEqProofs -dsimp only [go_sem, Nat.reduceEqDiff, Nat.reduceAdd, Nat.reduceMul, Nat.reduceSub, Nat.reduceLT, Nat.reduceLeDiff, Nat.reduceBEq, reduceIte, reduceCtorEq, Int.reduceLT, Int.reduceLE, Int.reduceEq, Int.reduceNeg, Int.reduceToNat, Int.reduceAdd, Int.reduceSub, ↓g_call _ _ c_sautoirref21_State_Apply]
    refine CallK.of cR (fun r T2 ⟨e1, ib', hb2, hor, hrest⟩ => aft_nil ?_)
    subst e1
    have n2 : a ≠ ib' := fun e => by
      rcases hor with q | q
      · exact hT.n2 (e.trans q)
      · rw [← e, sa1.1] at q; cases q
    have n4 : ia ≠ ib' := fun e => by
      rcases hor with q | q
      · exact hT.n4 (e.trans q)
      · rw [← e, sa1.2] at q; cases q
    have uib : T0 ib' = .unused := by
      rcases hor with q | q
      · rw [q]; exact hT.u.2.2.2
      · exact le1.unused q
    have sa2 : St T2 a ia o' := ⟨by rw [hrest a hT.n1 n2]; exact sa1.1, by rw [hrest ia hT.n3 n4]; exact sa1.2⟩
    have le2 : TabLe T0 T2 := fun q => by
      by_cases q1 : q = b
      · subst q1; exact .inl hT.u.2.2.1
      by_cases q2 : q = ib'
      · subst q2; exact .inl uib
      rw [hrest q q1 q2]; exact le1 q
    have hT2 : TwoR T0 T2 a ia b ib' o' := ⟨sa2, hb2, hT.n1, n2, hT.n3, n4, le2, hT.u.1, hT.u.2.1, hT.u.2.2.1, uib⟩
    obtain ⟨q1, q2, q3, q4, q5⟩ := hg'.small
    have cS := ac_lSame sa2 hb2 hg'
    have cSp := ac_oSpare sa2 q3 q1 node
    have hv' : o'.v = v0 := by rw [a4, hv]
    simp -implicitDefEqProofs -dsimp only [go_sem, Nat.reduceEqDiff, Nat.reduceAdd, Nat.reduceMul, Nat.reduceSub, Nat.reduceLT, Nat.reduceLeDiff, Nat.reduceBEq, reduceIte, reduceCtorEq, Int.reduceLT, Int.reduceLE, Int.reduceEq, Int.reduceNeg, Int.reduceToNat, Int.reduceAdd, Int.reduceSub, decide_true, eq_self, Bool.not_true, ↓g_gdc, rcOk, true_and, ↓g_call _ _ c_sautoirlaw21_Same]
    refine CallK.as cS (aft_nil ?_)
    simp -implicitDefEqProofs -dsimp only [go_sem, Nat.reduceEqDiff, Nat.reduceAdd, Nat.reduceMul, Nat.reduceSub, Nat.reduceLT, Nat.reduceLeDiff, Nat.reduceBEq, reduceIte, reduceCtorEq, Int.reduceLT, Int.reduceLE, Int.reduceEq, Int.reduceNeg, Int.reduceToNat, Int.reduceAdd, Int.reduceSub, decide_true, eq_self, Bool.not_true, ↓g_gdc, rcOk, true_and, ↓g_call _ _ c_order_State_Spare]
    refine CallK.as cSp (aft_nil ?_)
    rw [Os.spare, hv']
    rcases h0 : decide (0 ≤ node) with _ | _
    · simp -implicitDefEqProofs -dsimp only [go_sem, Nat.reduceEqDiff, Nat.reduceAdd, Nat.reduceMul, Nat.reduceSub, Nat.reduceLT, Nat.reduceLeDiff, Nat.reduceBEq, reduceIte, reduceCtorEq, Int.reduceLT, Int.reduceLE, Int.reduceEq, Int.reduceNeg, Int.reduceToNat, Int.reduceAdd, Int.reduceSub, h0, eqAv, decide_true, eq_self, Bool.not_true, Bool.false_and, ↓g_gdc, rcOk, true_and, hws]
      exact ih (j + 1) hj' hlt (by omega) ib' T2 o' hT2 hg' hv' h2
    rcases hv0 : decide (node < v0) with _ | _
    · simp -implicitDefEqProofs -dsimp only [go_sem, Nat.reduceEqDiff, Nat.reduceAdd, Nat.reduceMul, Nat.reduceSub, Nat.reduceLT, Nat.reduceLeDiff, Nat.reduceBEq, reduceIte, reduceCtorEq, Int.reduceLT, Int.reduceLE, Int.reduceEq, Int.reduceNeg, Int.reduceToNat, Int.reduceAdd, Int.reduceSub, h0, hv0, eqAv, decide_true, eq_self, Bool.not_true, Bool.false_and, Bool.true_and, ↓g_gdc, rcOk, true_and, hws]
      exact ih (j + 1) hj' hlt (by omega) ib' T2 o' hT2 hg' hv' h2
    have cH := ac_rHas hb2 q3 q5 (of_decide_eq_true h0)
    rw [rhas_eq hg' (of_decide_eq_true h0)] at cH
    simp -implicitDefEqProofs -dsimp only [go_sem, Nat.reduceEqDiff, Nat.reduceAdd, Nat.reduceMul, Nat.reduceSub, Nat.reduceLT, Nat.reduceLeDiff, Nat.reduceBEq, reduceIte, reduceCtorEq, Int.reduceLT, Int.reduceLE, Int.reduceEq, Int.reduceNeg, Int.reduceToNat, Int.reduceAdd, Int.reduceSub, h0, hv0, eqAv, decide_true, eq_self, Bool.not_true, Bool.false_and, Bool.true_and, ↓g_gdc, rcOk, true_and, ↓g_call _ _ c_sautoirref21_State_Has]
    refine CallK.of cH (fun r T3 ⟨i, e1, e2, e3⟩ => aft_nil ?_)
    subst e1
    rw [e3]
    have e4 : decide (i < 0) = !o'.cs.any (·.has node) := by
      rw [← e2, Bool.eq_iff_iff]
      simp only [decide_eq_true_eq, Bool.not_eq_true', decide_eq_false_iff_not]
      omega
    simp -implicitDefEqProofs -dsimp only [go_sem, Nat.reduceEqDiff, Nat.reduceAdd, Nat.reduceMul, Nat.reduceSub, Nat.reduceLT, Nat.reduceLeDiff, Nat.reduceBEq, reduceIte, reduceCtorEq, Int.reduceLT, Int.reduceLE, Int.reduceEq, Int.reduceNeg, Int.reduceToNat, Int.reduceAdd, Int.reduceSub, e4, eqAv, decide_true, eq_self, Bool.not_true, Bool.true_and, ↓g_gdc, rcOk, true_and, hws]
    exact ih (j + 1) hj' hlt (by omega) ib' T2 o' hT2 hg' hv' h2

theorem pc_OrderPlays (s l0 v : Int) (l : List Cm) (cap : Option Nat) (node : Int) (hl : Len l.length) (he : ∀ c ∈ l, c.ep < 18446744073709551616) : PCalls prog f_sautoirlaw21_OrderPlays [.agg (stC s l0 v), .fz l.length (cmdsC l) cap, .i .i64 node] (.b true) := by
  refine pcalls_of mixed t_sautoirlaw21_OrderPlays (by simp) fun T => ?_
  have cS := pc_Setup s l0 v
  have cRS := pc_refSetup s l0 v
  have cOS := pc_RightSetup s l0 v
  simp only [stC] at cS cRS cOS
  unfold s_sautoirlaw21_OrderPlays
  simp -implicitDefEqProofs -dsimp only [go_sem, Nat.reduceEqDiff, Nat.reduceAdd, Nat.reduceMul, Nat.reduceSub, Nat.reduceLT, Nat.reduceLeDiff, Nat.reduceBEq, reduceIte, reduceCtorEq, Int.reduceLT, Int.reduceLE, Int.reduceEq, Int.reduceNeg, Int.reduceToNat, Int.reduceAdd, Int.reduceSub, stC, ↓g_call _ _ c_sautoirlaw21_Setup]
  refine CallK.pure cS (aft_nil ?_)
  rcases hok : sok s l0 v with _ | _
  · have cN := pc_oNew0 hok
    simp only [stC] at cN
    simp -implicitDefEqProofs -dsimp only [go_sem, Nat.reduceEqDiff, Nat.reduceAdd, Nat.reduceMul, Nat.reduceSub, Nat.reduceLT, Nat.reduceLeDiff, Nat.reduceBEq, reduceIte, reduceCtorEq, Int.reduceLT, Int.reduceLE, Int.reduceEq, Int.reduceNeg, Int.reduceToNat, Int.reduceAdd, Int.reduceSub, ↓g_call _ _ c_order_New]
    refine CallK.pure cN (aft_nil ?_)
    simp -implicitDefEqProofs -dsimp only [go_sem, Nat.reduceEqDiff, Nat.reduceAdd, Nat.reduceMul, Nat.reduceSub, Nat.reduceLT, Nat.reduceLeDiff, Nat.reduceBEq, reduceIte, reduceCtorEq, Int.reduceLT, Int.reduceLE, Int.reduceEq, Int.reduceNeg, Int.reduceToNat, Int.reduceAdd, Int.reduceSub, ↓g_call _ _ c_sautoirref21_RightSetup]
    refine CallK.pure cRS (aft_nil ?_)
    simp -implicitDefEqProofs -dsimp only [go_sem, Nat.reduceEqDiff, Nat.reduceAdd, Nat.reduceMul, Nat.reduceSub, Nat.reduceLT, Nat.reduceLeDiff, Nat.reduceBEq, reduceIte, reduceCtorEq, Int.reduceLT, Int.reduceLE, Int.reduceEq, Int.reduceNeg, Int.reduceToNat, Int.reduceAdd, Int.reduceSub, hok, Bool.not_false, ↓g_gdc, rcOk, true_and, ↓g_call _ _ c_sautoirlaw21_Setup]
    refine CallK.pure cS (aft_nil ?_)
    simp -implicitDefEqProofs -dsimp only [go_sem, Nat.reduceEqDiff, Nat.reduceAdd, Nat.reduceMul, Nat.reduceSub, Nat.reduceLT, Nat.reduceLeDiff, Nat.reduceBEq, reduceIte, reduceCtorEq, Int.reduceLT, Int.reduceLE, Int.reduceEq, Int.reduceNeg, Int.reduceToNat, Int.reduceAdd, Int.reduceSub, hok, Bool.not_false, ↓g_gdc, rcOk, true_and, ↓g_call _ _ c_order_RightSetup]
    refine CallK.pure cOS (aft_nil ?_)
    simp -implicitDefEqProofs -dsimp only [go_sem, Nat.reduceEqDiff, Nat.reduceAdd, Nat.reduceMul, Nat.reduceSub, Nat.reduceLT, Nat.reduceLeDiff, Nat.reduceBEq, reduceIte, reduceCtorEq, Int.reduceLT, Int.reduceLE, Int.reduceEq, Int.reduceNeg, Int.reduceToNat, Int.reduceAdd, Int.reduceSub, hok, Bool.not_false, ↓g_gdc, rcOk, true_and, ↓g_call _ _ c_sautoirlaw21_awake]
    refine CallK.pure pc_awake21 (aft_nil ?_)
    simp -implicitDefEqProofs -dsimp only [go_sem, Nat.reduceEqDiff, Nat.reduceAdd, Nat.reduceMul, Nat.reduceSub, Nat.reduceLT, Nat.reduceLeDiff, Nat.reduceBEq, reduceIte, reduceCtorEq, Int.reduceLT, Int.reduceLE, Int.reduceEq, Int.reduceNeg, Int.reduceToNat, Int.reduceAdd, Int.reduceSub]
    exact finL_pure rfl
  obtain ⟨S, L, rfl, rfl⟩ := sok_nat hok
  have cN := fun T => ac_oNew (T0 := T) hok
  have cRN := fun T => ac_rNew2 (T0 := T) hok
  simp only [stC] at cN cRN
  simp -implicitDefEqProofs -dsimp only [go_sem, Nat.reduceEqDiff, Nat.reduceAdd, Nat.reduceMul, Nat.reduceSub, Nat.reduceLT, Nat.reduceLeDiff, Nat.reduceBEq, reduceIte, reduceCtorEq, Int.reduceLT, Int.reduceLE, Int.reduceEq, Int.reduceNeg, Int.reduceToNat, Int.reduceAdd, Int.reduceSub, ↓g_call _ _ c_order_New]
  refine CallK.of (cN T) (fun r T1 ⟨a, ia, q1, q2, q3, q4, q5⟩ => aft_nil ?_)
  subst q1
  simp -implicitDefEqProofs -dsimp only [go_sem, Nat.reduceEqDiff, Nat.reduceAdd, Nat.reduceMul, Nat.reduceSub, Nat.reduceLT, Nat.reduceLeDiff, Nat.reduceBEq, reduceIte, reduceCtorEq, Int.reduceLT, Int.reduceLE, Int.reduceEq, Int.reduceNeg, Int.reduceToNat, Int.reduceAdd, Int.reduceSub, ↓g_call _ _ c_sautoirref21_RightSetup]
  refine CallK.pure cRS (aft_nil ?_)
  simp -implicitDefEqProofs -dsimp only [go_sem, Nat.reduceEqDiff, Nat.reduceAdd, Nat.reduceMul, Nat.reduceSub, Nat.reduceLT, Nat.reduceLeDiff, Nat.reduceBEq, reduceIte, reduceCtorEq, Int.reduceLT, Int.reduceLE, Int.reduceEq, Int.reduceNeg, Int.reduceToNat, Int.reduceAdd, Int.reduceSub, hok, Bool.not_true, ↓g_call _ _ c_sautoirref21_New]
  refine CallK.of (cRN T1) (fun r T2 ⟨b, ib, r1, r2, r3, r4, r5⟩ => aft_nil ?_)
  subst r1
  have st1 : St T1 a ia (os0 S L v) := by rw [q5]; exact oT_st q4
  have hna : T1 a ≠ .unused := by rw [st1.1]; simp [Os.row]
  have hnia : T1 ia ≠ .unused := by rw [st1.2]; simp
  have m1 : a ≠ b := fun e => hna (e ▸ r2)
  have m2 : a ≠ ib := fun e => hna (e ▸ r3)
  have m3 : ia ≠ b := fun e => hnia (e ▸ r2)
  have m4 : ia ≠ ib := fun e => hnia (e ▸ r3)
  have u1 : T b = .unused := by rw [q5, oT, Tab.put_ne _ _ (Ne.symm m3), Tab.put_ne _ _ (Ne.symm m1)] at r2; exact r2
  have u2 : T ib = .unused := by rw [q5, oT, Tab.put_ne _ _ (Ne.symm m4), Tab.put_ne _ _ (Ne.symm m2)] at r3; exact r3
  have h2 : TwoR T T2 a ia b ib (os0 S L v) := by
    rw [r5]
    refine ⟨⟨?_, ?_⟩, ⟨?_, ?_⟩, m1, m2, m3, m4, ?_, q2, q3, u1, u2⟩
    · rw [Tab.put_ne _ _ m2, Tab.put_ne _ _ m1]; exact st1.1
    · rw [Tab.put_ne _ _ m4, Tab.put_ne _ _ m3]; exact st1.2
    · rw [Tab.put_ne _ _ r4, Tab.put_same]
    · rw [Tab.put_same]
    · rw [q5, oT]
      exact ((((TabLe.refl T).put q2).put q3).put u1).put u2
  have hg := good0 hok
  have cSet := ac_oSetup h2.sa
  simp only [stC] at cSet
  simp -implicitDefEqProofs -dsimp only [go_sem, Nat.reduceEqDiff, Nat.reduceAdd, Nat.reduceMul, Nat.reduceSub, Nat.reduceLT, Nat.reduceLeDiff, Nat.reduceBEq, reduceIte, reduceCtorEq, Int.reduceLT, Int.reduceLE, Int.reduceEq, Int.reduceNeg, Int.reduceToNat, Int.reduceAdd, Int.reduceSub, hok, decide_true, Bool.not_true, ↓g_gdc, rcOk, true_and, ↓g_call _ _ c_sautoirlaw21_Setup]
  refine CallK.pure cS (aft_nil ?_)
  simp -implicitDefEqProofs -dsimp only [go_sem, Nat.reduceEqDiff, Nat.reduceAdd, Nat.reduceMul, Nat.reduceSub, Nat.reduceLT, Nat.reduceLeDiff, Nat.reduceBEq, reduceIte, reduceCtorEq, Int.reduceLT, Int.reduceLE, Int.reduceEq, Int.reduceNeg, Int.reduceToNat, Int.reduceAdd, Int.reduceSub, ↓g_gdc, rcOk, true_and, ↓g_call _ _ c_order_RightSetup]
  refine CallK.pure cOS (aft_nil ?_)
  simp -implicitDefEqProofs -dsimp only [go_sem, Nat.reduceEqDiff, Nat.reduceAdd, Nat.reduceMul, Nat.reduceSub, Nat.reduceLT, Nat.reduceLeDiff, Nat.reduceBEq, reduceIte, reduceCtorEq, Int.reduceLT, Int.reduceLE, Int.reduceEq, Int.reduceNeg, Int.reduceToNat, Int.reduceAdd, Int.reduceSub, hok, Bool.not_true, ↓g_gdc, rcOk, true_and, ↓g_call _ _ c_order_State_Setup]
  refine CallK.as cSet (aft_nil ?_)
  simp -implicitDefEqProofs -dsimp only [go_sem, Nat.reduceEqDiff, Nat.reduceAdd, Nat.reduceMul, Nat.reduceSub, Nat.reduceLT, Nat.reduceLeDiff, Nat.reduceBEq, reduceIte, reduceCtorEq, Int.reduceLT, Int.reduceLE, Int.reduceEq, Int.reduceNeg, Int.reduceToNat, Int.reduceAdd, Int.reduceSub, ↓g_gdc, rcOk, true_and, ↓g_call _ _ c_sautoirlaw21_Setup]
  refine CallK.pure cS (aft_nil ?_)
  simp -implicitDefEqProofs -dsimp only [go_sem, Nat.reduceEqDiff, Nat.reduceAdd, Nat.reduceMul, Nat.reduceSub, Nat.reduceLT, Nat.reduceLeDiff, Nat.reduceBEq, reduceIte, reduceCtorEq, Int.reduceLT, Int.reduceLE, Int.reduceEq, Int.reduceNeg, Int.reduceToNat, Int.reduceAdd, Int.reduceSub, os0, eqAv, aggEq, scalarEq, decide_true, eq_self, Bool.and_self, Bool.not_true]
  have key := fun (R : RPost) (hR : ExtR R) h => lp_Plays (R := R) hR (T0 := T) (l := l) (cap := cap) (a := a) (ia := ia) (b := b) (node := node) (s0 := S) (l0 := L) (v0 := v) hl he l 0 rfl (Nat.zero_le _) (by omega) ib T2 _ h2 hg rfl h
  refine key _ (by repeat' (first | exact finX_ext _ _ | assumption | apply blkR_ext | apply thenR_ext | apply AW_ext)) (fun T3 env Lx hT3 => ?_)
  simp -implicitDefEqProofs -dsimp only [go_sem, Nat.reduceEqDiff, Nat.reduceAdd, Nat.reduceMul, Nat.reduceSub, Nat.reduceLT, Nat.reduceLeDiff, Nat.reduceBEq, reduceIte, reduceCtorEq, Int.reduceLT, Int.reduceLE, Int.reduceEq, Int.reduceNeg, Int.reduceToNat, Int.reduceAdd, Int.reduceSub, ↓g_call _ _ c_sautoirlaw21_awake]
  refine CallK.pure pc_awake21 (aft_nil ?_)
  simp -implicitDefEqProofs -dsimp only [go_sem, Nat.reduceEqDiff, Nat.reduceAdd, Nat.reduceMul, Nat.reduceSub, Nat.reduceLT, Nat.reduceLeDiff, Nat.reduceBEq, reduceIte, reduceCtorEq, Int.reduceLT, Int.reduceLE, Int.reduceEq, Int.reduceNeg, Int.reduceToNat, Int.reduceAdd, Int.reduceSub]
  exact hT3.fin
end Go.Aw
