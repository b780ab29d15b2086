import Derived.Test.YtfphinopblfacaaGreatDoorH21G21D
import Derived.Test.YtfphinopblfacaaGreatDoorH21R28K
namespace Go.Aw
open Go
open Go.Proofs.Tryz (prog)
set_option linter.all false
set_option maxHeartbeats 4000000

/-! The order's state. -/
structure Os where
  s : Int
  l : Int
  v : Int
  n : Int
  ct : Int
  cs : List Cf
def Os.row (o : Os) (idC : Nat) : Slot := .row 6 [.i .i64 o.s, .i .i64 o.l, .i .i64 o.v, .i .i64 o.n, .i .u64 o.ct, .sl idC 0 o.cs.length none]
def St (T : Tab) (id idC : Nat) (o : Os) : Prop := T id = o.row idC ∧ T idC = .row 5 (cfsC o.cs)
theorem St.ne {T : Tab} {id idC : Nat} {o : Os} (h : St T id idC o) : id ≠ idC := fun e => by
  have := h.1; rw [e, h.2] at this; cases this
def oT (T : Tab) (id idC : Nat) (o : Os) : Tab := (T.put id (o.row idC)).put idC (.row 5 (cfsC o.cs))
theorem oT_st {T : Tab} {id idC : Nat} {o : Os} (h : id ≠ idC) : St (oT T id idC o) id idC o := ⟨by rw [oT, Tab.put_ne _ _ h, Tab.put_same], Tab.put_same ..⟩
theorem oT_self {T : Tab} {id idC : Nat} {o : Os} (h : St T id idC o) : oT T id idC o = T := by
  rw [oT, Tab.put_self (T := T) h.1, Tab.put_self h.2]
theorem oT_oT {T : Tab} {id idC : Nat} {o o' : Os} (h : id ≠ idC) : oT (oT T id idC o) id idC o' = oT T id idC o' := by
  simp only [oT]
  rw [Tab.put_comm _ (Ne.symm h), Tab.put_put, Tab.put_put]
def os0 (S L : Nat) (v : Int) : Os := ⟨S, L, v, 0, S, cfs0 L S⟩

theorem celF_wk {L : Nat} {f : AV → AV} (hf : ∀ k n, f (.i k n) = .i k n) : ∀ (ps : List (AV × AV)) (k : Nat), (∀ a ∈ owsF L k ps, ∃ cap, f a.v = .fz a.n a.xs cap) → Wks ((celF k ps).map f) (((List.range ps.length).map fun i => cf0 L (k + i)).flatMap fun c => c.cells none none)
  | [], k, _ => trivial
  | p :: ps, k, h => by
    have ih := celF_wk hf ps (k + 1) (fun a ha => h a (by simp only [owsF]; exact List.mem_cons_of_mem _ (List.mem_cons_of_mem _ ha)))
    obtain ⟨c1, e1⟩ := h _ (by simp only [owsF]; exact List.mem_cons_self ..)
    obtain ⟨c2, e2⟩ := h _ (by simp only [owsF]; exact List.mem_cons_of_mem _ (List.mem_cons_self ..))
    simp only at e1 e2
    have er : (List.range (p :: ps).length).map (fun i => cf0 L (k + i)) = cf0 L k :: (List.range ps.length).map (fun i => cf0 L (k + 1 + i)) := by
      rw [List.length_cons, List.range_succ_eq_map, List.map_cons, List.map_map, Nat.add_zero]
      congr 1
      apply List.map_congr_left
      intro i _
      simp only [Function.comp]
      rw [show k + (i + 1) = k + 1 + i by omega]
    rw [er, List.flatMap_cons]
    simp only [celF, List.map_append]
    refine Wks.append ?_ ih
    simp only [cel, List.map_cons, List.map_nil, hf, e1, e2, Cf.cells, cf0, chn_len, alls_len]
    exact ⟨.refl _, .refl _, .fz, .fz, .refl _, trivial⟩

theorem ac_oNew {T0 : Tab} {S L : Nat} {v : Int} (h : sok S L v = true) : ACalls prog f_order_New [.agg (stC S L v)] T0 (fun r T' => ∃ id idC, r = .ptr id 0 ∧ T0 id = .unused ∧ T0 idC = .unused ∧ id ≠ idC ∧ T' = oT T0 id idC (os0 S L v)) := by
  refine acalls_of mixed t_order_New (by simp) ?_
  have hh := of_decide_eq_true h
  have w1 : IntKind.u64.wrap (S : Int) = S := IntWalk.u64_in _ (by omega)
  unfold s_order_New
  simp -implicitDefEqProofs -dsimp only [go_sem, Nat.reduceEqDiff, Nat.reduceAdd, Nat.reduceMul, Nat.reduceSub, Nat.reduceLT, Nat.reduceLeDiff, Nat.reduceBEq, reduceIte, reduceCtorEq, Int.reduceLT, Int.reduceLE, Int.reduceEq, Int.reduceNeg, Int.reduceToNat, Int.reduceAdd, Int.reduceSub, stC, ↓g_call _ _ c_order_RightSetup]
  refine CallK.pure (pc_RightSetup S L v) (aft_nil ?_)
  simp -implicitDefEqProofs -dsimp only [go_sem, Nat.reduceEqDiff, Nat.reduceAdd, Nat.reduceMul, Nat.reduceSub, Nat.reduceLT, Nat.reduceLeDiff, Nat.reduceBEq, reduceIte, reduceCtorEq, Int.reduceLT, Int.reduceLE, Int.reduceEq, Int.reduceNeg, Int.reduceToNat, Int.reduceAdd, Int.reduceSub, h, w1]
  refine fun id hid => aft_nil ?_
  simp -implicitDefEqProofs -dsimp only [go_sem, Nat.reduceEqDiff, Nat.reduceAdd, Nat.reduceMul, Nat.reduceSub, Nat.reduceLT, Nat.reduceLeDiff, Nat.reduceBEq, reduceIte, reduceCtorEq, Int.reduceLT, Int.reduceLE, Int.reduceEq, Int.reduceNeg, Int.reduceToNat, Int.reduceAdd, Int.reduceSub]
  refine lp_New0 (T0 := T0) (id := id) (by repeat' (first | exact finX_ext _ _ | assumption | apply blkR_ext | apply thenR_ext | apply AW_ext)) hid (by omega) (by omega) (by omega) (by omega) S 0 (by omega) (.fz 0 [] (some 0)) [] _ rfl ?_ (fun vC ps T1 hps how => ?_)
  · exact ⟨_, rfl, .nil ..⟩
  simp -implicitDefEqProofs -dsimp only [go_sem, Nat.reduceEqDiff, Nat.reduceAdd, Nat.reduceMul, Nat.reduceSub, Nat.reduceLT, Nat.reduceLeDiff, Nat.reduceBEq, reduceIte, reduceCtorEq, Int.reduceLT, Int.reduceLE, Int.reduceEq, Int.reduceNeg, Int.reduceToNat, Int.reduceAdd, Int.reduceSub]
  obtain ⟨idC, e1, e2, e3⟩ := how.get (List.mem_cons_self ..) (by simp only; omega)
  simp only at e1 e2 e3
  subst e1
  have hne : idC ≠ id := fun e => by subst e; rw [Tab.put_same] at e3; cases e3
  refine gzS_tail how (by omega) (fun Sf h1 h2 h3 h4 => ⟨cfsC (cfs0 L S), ?_, ?_, ?_⟩)
  · have := celF_wk (L := L) (f := frz1 T1 Sf) (fun _ _ => rfl) ps 0 h3
    simp only [Nat.zero_add, hps] at this
    exact this
  · rw [cfsC_length, celF_length, hps]; simp [cfs0]
  have hidS : id ∉ Sf := fun hm => by have := h1 id hm; rw [Tab.put_same] at this; cases this
  simp only [frE, frX_lp, frX_out hidS, frX_i, frX_b]
  simp -implicitDefEqProofs -dsimp only [go_sem, Nat.reduceEqDiff, Nat.reduceAdd, Nat.reduceMul, Nat.reduceSub, Nat.reduceLT, Nat.reduceLeDiff, Nat.reduceBEq, reduceIte, reduceCtorEq, Int.reduceLT, Int.reduceLE, Int.reduceEq, Int.reduceNeg, Int.reduceToNat, Int.reduceAdd, Int.reduceSub]
  refine finL_of _ (fun _ => .inr (.inl rfl)) ⟨id, idC, rfl, hid, by rw [Tab.put_ne _ _ hne] at h4; exact h4, Ne.symm hne, ?_⟩
  simp [oT, Os.row, os0, stR, cfs0]
theorem pc_oNew0 {s l v : Int} (h : sok s l v = false) : PCalls prog f_order_New [.agg (stC s l v)] .nilptr := by
  refine pcalls_of mixed t_order_New (by simp) fun T => ?_
  unfold s_order_New
  simp -implicitDefEqProofs -dsimp only [go_sem, Nat.reduceEqDiff, Nat.reduceAdd, Nat.reduceMul, Nat.reduceSub, Nat.reduceLT, Nat.reduceLeDiff, Nat.reduceBEq, reduceIte, reduceCtorEq, Int.reduceLT, Int.reduceLE, Int.reduceEq, Int.reduceNeg, Int.reduceToNat, Int.reduceAdd, Int.reduceSub, stC, ↓g_call _ _ c_order_RightSetup]
  refine CallK.pure (pc_RightSetup s l v) (aft_nil ?_)
  simp -implicitDefEqProofs -dsimp only [go_sem, Nat.reduceEqDiff, Nat.reduceAdd, Nat.reduceMul, Nat.reduceSub, Nat.reduceLT, Nat.reduceLeDiff, Nat.reduceBEq, reduceIte, reduceCtorEq, Int.reduceLT, Int.reduceLE, Int.reduceEq, Int.reduceNeg, Int.reduceToNat, Int.reduceAdd, Int.reduceSub, h]
  exact finL_pure rfl

theorem ac_oConf {T : Tab} {id idC : Nat} {o : Os} (hR : St T id idC o) (hl : ∀ c ∈ o.cs, Small c) (k : Int) : ACalls prog f_order_State_Conf [.ptr id 0, .i .i64 k] T (fun r T' => r = cfR o.cs k ∧ T' = T) := by
  obtain ⟨t1, t2⟩ := hR
  rw [Os.row] at t1
  refine acalls_of mixed t_order_State_Conf (by simp) ?_
  unfold s_order_State_Conf
  simp -implicitDefEqProofs -dsimp only [go_sem, Nat.reduceEqDiff, Nat.reduceAdd, Nat.reduceMul, Nat.reduceSub, Nat.reduceLT, Nat.reduceLeDiff, Nat.reduceBEq, reduceIte, reduceCtorEq, Int.reduceLT, Int.reduceLE, Int.reduceEq, Int.reduceNeg, Int.reduceToNat, Int.reduceAdd, Int.reduceSub, t1, ↓g_gdc, rcOk, true_and, decide_true, decide_false]
  refine br_split (fun h1 => ?_) (fun h1 => ?_)
  · have := of_decide_eq_true h1
    simp -implicitDefEqProofs -dsimp only [go_sem, Nat.reduceEqDiff, Nat.reduceAdd, Nat.reduceMul, Nat.reduceSub, Nat.reduceLT, Nat.reduceLeDiff, Nat.reduceBEq, reduceIte, reduceCtorEq, Int.reduceLT, Int.reduceLE, Int.reduceEq, Int.reduceNeg, Int.reduceToNat, Int.reduceAdd, Int.reduceSub, h1, ↓g_gdc, rcOk, true_and, decide_true, decide_false]
    refine fin_as ?_ rfl
    rw [cfR, at?, if_neg (by omega)]; exact .refl _
  have d1 := of_decide_eq_false h1
  simp -implicitDefEqProofs -dsimp only [go_sem, Nat.reduceEqDiff, Nat.reduceAdd, Nat.reduceMul, Nat.reduceSub, Nat.reduceLT, Nat.reduceLeDiff, Nat.reduceBEq, reduceIte, reduceCtorEq, Int.reduceLT, Int.reduceLE, Int.reduceEq, Int.reduceNeg, Int.reduceToNat, Int.reduceAdd, Int.reduceSub, h1, t1]
  refine br_split (fun h2 => ?_) (fun h2 => ?_)
  · have := of_decide_eq_true h2
    simp -implicitDefEqProofs -dsimp only [go_sem, Nat.reduceEqDiff, Nat.reduceAdd, Nat.reduceMul, Nat.reduceSub, Nat.reduceLT, Nat.reduceLeDiff, Nat.reduceBEq, reduceIte, reduceCtorEq, Int.reduceLT, Int.reduceLE, Int.reduceEq, Int.reduceNeg, Int.reduceToNat, Int.reduceAdd, Int.reduceSub, h2]
    refine fin_as ?_ rfl
    rw [cfR, at?, if_pos (by omega), List.getElem?_eq_none (by omega)]; exact .refl _
  have d2 := of_decide_eq_false h2
  have hlt : k.toNat < o.cs.length := by omega
  have hget : o.cs[k.toNat]? = some o.cs[k.toNat] := List.getElem?_eq_getElem hlt
  have hcell := cfsC_at hget
  have hlen : k.toNat * 5 + 5 ≤ (cfsC o.cs).length := by rw [cfsC_length]; omega
  generalize hc : o.cs[k.toNat] = c at hget hcell
  have hs : Small c := hl c (by rw [← hc]; exact List.getElem_mem hlt)
  have k0 : 0 ≤ k := by omega
  have k1 : k < o.cs.length := by omega
  have cC := pc_ocopied c none none hs.1 hs.2
  simp only [Cf.cells] at cC
  simp -implicitDefEqProofs -dsimp only [go_sem, Nat.reduceEqDiff, Nat.reduceAdd, Nat.reduceMul, Nat.reduceSub, Nat.reduceLT, Nat.reduceLeDiff, Nat.reduceBEq, reduceIte, reduceCtorEq, Int.reduceLT, Int.reduceLE, Int.reduceEq, Int.reduceNeg, Int.reduceToNat, Int.reduceAdd, Int.reduceSub, h2, t1, t2, k0, k1, hlen, hcell, Cf.cells, List.cons_append, List.nil_append, ↓g_call _ _ c_order_copied]
  refine CallK.pure cC (aft_nil ?_)
  simp -implicitDefEqProofs -dsimp only [go_sem, Nat.reduceEqDiff, Nat.reduceAdd, Nat.reduceMul, Nat.reduceSub, Nat.reduceLT, Nat.reduceLeDiff, Nat.reduceBEq, reduceIte, reduceCtorEq, Int.reduceLT, Int.reduceLE, Int.reduceEq, Int.reduceNeg, Int.reduceToNat, Int.reduceAdd, Int.reduceSub, Cf.cells]
  refine fin_as ?_ rfl
  rw [cfR, at?, if_pos k0, hget]; exact .refl _
theorem pc_oConf_nil (k : Int) : PCalls prog f_order_State_Conf [.nilptr, .i .i64 k] (.tup [.agg (Cf.nil.cells (some 0) (some 0)), .b false]) := by
  refine pcalls_of mixed t_order_State_Conf (by simp) fun T => ?_
  unfold s_order_State_Conf
  simp -implicitDefEqProofs -dsimp only [go_sem, Nat.reduceEqDiff, Nat.reduceAdd, Nat.reduceMul, Nat.reduceSub, Nat.reduceLT, Nat.reduceLeDiff, Nat.reduceBEq, reduceIte, reduceCtorEq, Int.reduceLT, Int.reduceLE, Int.reduceEq, Int.reduceNeg, Int.reduceToNat, Int.reduceAdd, Int.reduceSub]
  exact finL_pure rfl

/-! Which has a server? -/
def Cf.hasB (c : Cf) (n : Int) : Bool := c.has n
theorem lp_iF {R : RPost} (hR : ExtR R) {T : Tab} {idC idN : Nat} {cs : List Cf} {n : Int} {fv : AV} (hfv : fv = .fn (.func f_order_State_taken_1) [] [.ptr idN 0]) (hC : T idC = .row 5 (cfsC cs)) (hN : T idN = .row 1 [.i .i64 n]) (hl : Len cs.length) (hs : ∀ c ∈ cs, Small c) : ∀ (ys : List Cf) (k : Nat), cs.drop k = ys → k ≤ cs.length →
    (ys.any (·.has n) = true → ∀ j : Nat, R .ret [(4, .i .i64 j)] [] T) →
    (ys.any (·.has n) = false → R (.exit 0) [(0, .sl idC 0 cs.length none), (1, fv), (7, .i .i64 cs.length), (8, .i .i64 cs.length), (9, .b false)] [] T) →
    AW prog slices_IndexFunc_conf_Conf_conf_Conf_l0 R [(0, .sl idC 0 cs.length none), (1, fv), (7, .i .i64 cs.length), (8, .i .i64 k)] [] T := by
  subst hfv
  unfold Len at hl
  intro ys
  induction ys with
  | nil =>
    intro k hk hle h1 h2
    have hk' := drop_nil hk hle
    refine AW_loop hR ?_
    unfold slices_IndexFunc_conf_Conf_conf_Conf_l0b
    have h2 := h2 rfl
    rw [hk'] at h2
    simp -implicitDefEqProofs -dsimp only [go_sem, Nat.reduceEqDiff, Nat.reduceAdd, Nat.reduceMul, Nat.reduceSub, Nat.reduceLT, Nat.reduceLeDiff, Nat.reduceBEq, reduceIte, reduceCtorEq, Int.reduceLT, Int.reduceLE, Int.reduceEq, Int.reduceNeg, Int.reduceToNat, Int.reduceAdd, Int.reduceSub, hk', Int.lt_irrefl]
    exact h2
  | cons y ys ih =>
    intro k hk hle h1 h2
    obtain ⟨hlt, hy, hk'⟩ := drop_lt hk
    have hws : IntKind.i64.wrap ((k : Int) + 1) = ((k + 1 : Nat) : Int) := wrap_succ (by omega)
    have hcell := cfsC_at hy
    have hlen : k * 5 + 5 ≤ (cfsC cs).length := by rw [cfsC_length]; omega
    have cH := fun T (hN : T idN = .row 1 [.i .i64 n]) => show ACalls prog f_order_State_taken_1 [.agg (y.cells none none), .ptr idN 0] T (fun v T' => v = .b (y.has n) ∧ T' = T) from by
      have hsy := hs y (List.mem_of_getElem? hy)
      have cHas := pc_Has y none none n (by unfold Len; have := hsy.1; omega)
      simp only [Cf.cells] at cHas ⊢
      refine acalls_of mixed t_order_State_taken_1 (by simp) ?_
      unfold s_order_State_taken_1
      simp -implicitDefEqProofs -dsimp only [go_sem, Nat.reduceEqDiff, Nat.reduceAdd, Nat.reduceMul, Nat.reduceSub, Nat.reduceLT, Nat.reduceLeDiff, Nat.reduceBEq, reduceIte, reduceCtorEq, Int.reduceLT, Int.reduceLE, Int.reduceEq, Int.reduceNeg, Int.reduceToNat, Int.reduceAdd, Int.reduceSub, hN, ↓g_call _ _ c_conf_Conf_Has]
      refine CallK.pure cHas (aft_nil ?_)
      simp -implicitDefEqProofs -dsimp only [go_sem, Nat.reduceEqDiff, Nat.reduceAdd, Nat.reduceMul, Nat.reduceSub, Nat.reduceLT, Nat.reduceLeDiff, Nat.reduceBEq, reduceIte, reduceCtorEq, Int.reduceLT, Int.reduceLE, Int.reduceEq, Int.reduceNeg, Int.reduceToNat, Int.reduceAdd, Int.reduceSub]
      exact fin_as (.refl _) rfl
    simp only [Cf.cells] at cH
    refine AW_loopD (l := slices_IndexFunc_conf_Conf_conf_Conf_l0) rfl hR ?_
    unfold slices_IndexFunc_conf_Conf_conf_Conf_l0b
    simp -implicitDefEqProofs -dsimp only [go_sem, Nat.reduceEqDiff, Nat.reduceAdd, Nat.reduceMul, Nat.reduceSub, Nat.reduceLT, Nat.reduceLeDiff, Nat.reduceBEq, reduceIte, reduceCtorEq, Int.reduceLT, Int.reduceLE, Int.reduceEq, Int.reduceNeg, Int.reduceToNat, Int.reduceAdd, Int.reduceSub, Int.ofNat_lt, hlt, Int.natCast_nonneg, Int.toNat_natCast, hC, hlen, hcell, Cf.cells, List.cons_append, List.nil_append, calV_some _ _ _ _ _ _ c_order_State_taken_1]
    refine CallK.as (cH T hN) (aft_nil ?_)
    rcases hb : y.has n with _ | _
    · simp -implicitDefEqProofs -dsimp only [go_sem, Nat.reduceEqDiff, Nat.reduceAdd, Nat.reduceMul, Nat.reduceSub, Nat.reduceLT, Nat.reduceLeDiff, Nat.reduceBEq, reduceIte, reduceCtorEq, Int.reduceLT, Int.reduceLE, Int.reduceEq, Int.reduceNeg, Int.reduceToNat, Int.reduceAdd, Int.reduceSub, hws]
      exact ih (k + 1) hk' hlt (fun h => h1 (by rw [List.any_cons, hb, h]; rfl)) (fun h => h2 (by rw [List.any_cons, hb, h]; rfl))
    · simp -implicitDefEqProofs -dsimp only [go_sem, Nat.reduceEqDiff, Nat.reduceAdd, Nat.reduceMul, Nat.reduceSub, Nat.reduceLT, Nat.reduceLeDiff, Nat.reduceBEq, reduceIte, reduceCtorEq, Int.reduceLT, Int.reduceLE, Int.reduceEq, Int.reduceNeg, Int.reduceToNat, Int.reduceAdd, Int.reduceSub]
      exact h1 (by rw [List.any_cons, hb]; rfl) k
theorem ac_taken {T : Tab} {id idC : Nat} {o : Os} (hR : St T id idC o) (hl : Len o.cs.length) (hs : ∀ c ∈ o.cs, Small c) (n : Int) : ACalls prog f_order_State_taken [.ptr id 0, .i .i64 n] T (fun r T' => r = .b (o.cs.any (·.has n)) ∧ T' = T) := by
  obtain ⟨t1, t2⟩ := hR
  rw [Os.row] at t1
  have cI : ∀ T idN, T idC = .row 5 (cfsC o.cs) → T idN = .row 1 [.i .i64 n] → ACalls prog f_slices_IndexFunc_conf_Conf_conf_Conf [.sl idC 0 o.cs.length none, .fn (.func f_order_State_taken_1) [] [.ptr idN 0]] T (fun r T' => ∃ j : Int, r = .i .i64 j ∧ decide (0 ≤ j) = o.cs.any (·.has n) ∧ T' = T) := fun T idN hC hN => by
    refine acalls_of mixed t_slices_IndexFunc_conf_Conf_conf_Conf (by simp) ?_
    unfold s_slices_IndexFunc_conf_Conf_conf_Conf
    simp -implicitDefEqProofs -dsimp only [go_sem, Nat.reduceEqDiff, Nat.reduceAdd, Nat.reduceMul, Nat.reduceSub, Nat.reduceLT, Nat.reduceLeDiff, Nat.reduceBEq, reduceIte, reduceCtorEq, Int.reduceLT, Int.reduceLE, Int.reduceEq, Int.reduceNeg, Int.reduceToNat, Int.reduceAdd, Int.reduceSub]
    refine lp_iF (T := T) (by repeat' (first | exact finX_ext _ _ | assumption | apply blkR_ext | apply thenR_ext | apply AW_ext)) rfl hC hN hl hs o.cs 0 rfl (Nat.zero_le _) (fun h j => ?_) (fun h => ?_)
    · simp -implicitDefEqProofs -dsimp only [go_sem, Nat.reduceEqDiff, Nat.reduceAdd, Nat.reduceMul, Nat.reduceSub, Nat.reduceLT, Nat.reduceLeDiff, Nat.reduceBEq, reduceIte, reduceCtorEq, Int.reduceLT, Int.reduceLE, Int.reduceEq, Int.reduceNeg, Int.reduceToNat, Int.reduceAdd, Int.reduceSub]
      exact finL_of _ (fun _ => .inr (.inl rfl)) ⟨(j : Int), rfl, by rw [h]; exact decide_eq_true (by omega), rfl⟩
    · simp -implicitDefEqProofs -dsimp only [go_sem, Nat.reduceEqDiff, Nat.reduceAdd, Nat.reduceMul, Nat.reduceSub, Nat.reduceLT, Nat.reduceLeDiff, Nat.reduceBEq, reduceIte, reduceCtorEq, Int.reduceLT, Int.reduceLE, Int.reduceEq, Int.reduceNeg, Int.reduceToNat, Int.reduceAdd, Int.reduceSub]
      exact finL_of _ (fun _ => .inr (.inl rfl)) ⟨-1, rfl, by rw [h]; rfl, rfl⟩
  refine acalls_of mixed t_order_State_taken (by simp) ?_
  unfold s_order_State_taken
  simp -implicitDefEqProofs -dsimp only [go_sem, Nat.reduceEqDiff, Nat.reduceAdd, Nat.reduceMul, Nat.reduceSub, Nat.reduceLT, Nat.reduceLeDiff, Nat.reduceBEq, reduceIte, reduceCtorEq, Int.reduceLT, Int.reduceLE, Int.reduceEq, Int.reduceNeg, Int.reduceToNat, Int.reduceAdd, Int.reduceSub]
  intro idN hidN
  refine aft_nil ?_
  have n1 : id ≠ idN := fun e => by subst e; rw [t1] at hidN; cases hidN
  have n2 : idC ≠ idN := fun e => by subst e; rw [t2] at hidN; cases hidN
  have u1 : (T.put idN (.row 1 [.i .i64 n])) id = .row 6 [.i .i64 o.s, .i .i64 o.l, .i .i64 o.v, .i .i64 o.n, .i .u64 o.ct, .sl idC 0 o.cs.length none] := by rw [Tab.put_ne _ _ n1, t1]
  have u2 : (T.put idN (.row 1 [.i .i64 n])) idC = .row 5 (cfsC o.cs) := by rw [Tab.put_ne _ _ n2, t2]
  simp -implicitDefEqProofs -dsimp only [go_sem, Nat.reduceEqDiff, Nat.reduceAdd, Nat.reduceMul, Nat.reduceSub, Nat.reduceLT, Nat.reduceLeDiff, Nat.reduceBEq, reduceIte, reduceCtorEq, Int.reduceLT, Int.reduceLE, Int.reduceEq, Int.reduceNeg, Int.reduceToNat, Int.reduceAdd, Int.reduceSub, u1, ↓g_call _ _ c_slices_ContainsFunc_conf_Conf_conf_Conf]
  have cC : ACalls prog f_slices_ContainsFunc_conf_Conf_conf_Conf [.sl idC 0 o.cs.length none, .fn (.func f_order_State_taken_1) [] [.ptr idN 0]] (T.put idN (.row 1 [.i .i64 n])) (fun r T' => r = .b (o.cs.any (·.has n)) ∧ T' = T.put idN (.row 1 [.i .i64 n])) := by
    refine acalls_of mixed t_slices_ContainsFunc_conf_Conf_conf_Conf (by simp) ?_
    unfold s_slices_ContainsFunc_conf_Conf_conf_Conf
    simp -implicitDefEqProofs -dsimp only [go_sem, Nat.reduceEqDiff, Nat.reduceAdd, Nat.reduceMul, Nat.reduceSub, Nat.reduceLT, Nat.reduceLeDiff, Nat.reduceBEq, reduceIte, reduceCtorEq, Int.reduceLT, Int.reduceLE, Int.reduceEq, Int.reduceNeg, Int.reduceToNat, Int.reduceAdd, Int.reduceSub, ↓g_call _ _ c_slices_IndexFunc_conf_Conf_conf_Conf]
    refine CallK.of (cI _ idN u2 (Tab.put_same ..)) (fun r T1 ⟨j, e1, e2, e3⟩ => aft_nil ?_)
    subst e1; subst e3
    simp -implicitDefEqProofs -dsimp only [go_sem, Nat.reduceEqDiff, Nat.reduceAdd, Nat.reduceMul, Nat.reduceSub, Nat.reduceLT, Nat.reduceLeDiff, Nat.reduceBEq, reduceIte, reduceCtorEq, Int.reduceLT, Int.reduceLE, Int.reduceEq, Int.reduceNeg, Int.reduceToNat, Int.reduceAdd, Int.reduceSub, e2]
    exact fin_as (.refl _) rfl
  refine CallK.as cC (aft_nil ?_)
  simp -implicitDefEqProofs -dsimp only [go_sem, Nat.reduceEqDiff, Nat.reduceAdd, Nat.reduceMul, Nat.reduceSub, Nat.reduceLT, Nat.reduceLeDiff, Nat.reduceBEq, reduceIte, reduceCtorEq, Int.reduceLT, Int.reduceLE, Int.reduceEq, Int.reduceNeg, Int.reduceToNat, Int.reduceAdd, Int.reduceSub]
  exact ((TabLe.refl T).put hidN).fin
end Go.Aw
