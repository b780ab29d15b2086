import Derived.Test.YtfphinopblfacaaGreatDoorH21G21F
namespace Go.Aw
open Go
open Go.Proofs.Tryz (prog)
set_option linter.all false
set_option maxHeartbeats 4000000

def Os.step (o : Os) : Os := { o with n := IntKind.i64.wrap (o.n + 1) }
def Os.apply (o : Os) (val : List UInt8) : Os × Int := if val = [] then (o.step, 0) else if cmOk val = true then o.step.do (cmA val) else (o.step, 3)
theorem ac_oApply {T : Tab} {id idC : Nat} {o : Os} (hR : St T id idC o) (hl : Len o.cs.length) (hs : ∀ c ∈ o.cs, Small c) (val : List UInt8) (hv : val.length ≤ 1000000000) :
    ACalls prog f_order_State_Apply [.ptr id 0, .s val] T (fun r T' => r = .i .i64 (o.apply val).2 ∧ T' = oT T id idC (o.apply val).1) := by
  have hne := hR.ne
  have h1 : St (oT T id idC o.step) id idC o.step := oT_st hne
  have cD := ac_do h1 hl hs (cmA val)
  rw [oT_oT hne] at cD
  have cG := pc_oGet val hv
  simp only [Cm.cells] at cD cG
  obtain ⟨t1, t2⟩ := hR
  have hstep : oT T id idC o.step = T.put id (o.step.row idC) := by
    have : (T.put id (o.step.row idC)) idC = .row 5 (cfsC o.step.cs) := by rw [Tab.put_ne _ _ (Ne.symm hne), t2]; rfl
    rw [oT, Tab.put_self this]
  rw [hstep] at cD
  rw [Os.row] at t1
  refine acalls_of mixed t_order_State_Apply (by simp) ?_
  unfold s_order_State_Apply
  rw [Os.apply]
  have hrow : (T.put id (.row 6 [.i .i64 o.s, .i .i64 o.l, .i .i64 o.v, .i .i64 (IntKind.i64.wrap (o.n + 1)), .i .u64 o.ct, .sl idC 0 o.cs.length none])) = T.put id (o.step.row idC) := rfl
  simp -implicitDefEqProofs -dsimp only [go_sem, Nat.reduceEqDiff, Nat.reduceAdd, Nat.reduceMul, Nat.reduceSub, Nat.reduceLT, Nat.reduceLeDiff, Nat.reduceBEq, reduceIte, reduceCtorEq, Int.reduceLT, Int.reduceLE, Int.reduceEq, Int.reduceNeg, Int.reduceToNat, Int.reduceAdd, Int.reduceSub, t1]
  refine stS_row t1 rfl rfl (by simp) (aft_nil ?_)
  by_cases hv0 : val = []
  · have d : decide (val = []) = true := decide_eq_true hv0
    rw [if_pos hv0, hstep]
    simp -implicitDefEqProofs -dsimp only [go_sem, Nat.reduceEqDiff, Nat.reduceAdd, Nat.reduceMul, Nat.reduceSub, Nat.reduceLT, Nat.reduceLeDiff, Nat.reduceBEq, reduceIte, reduceCtorEq, Int.reduceLT, Int.reduceLE, Int.reduceEq, Int.reduceNeg, Int.reduceToNat, Int.reduceAdd, Int.reduceSub, d]
    exact fin_as (.refl _) rfl
  have d : decide (val = []) = false := decide_eq_false hv0
  rw [if_neg hv0]
  simp -implicitDefEqProofs -dsimp only [go_sem, Nat.reduceEqDiff, Nat.reduceAdd, Nat.reduceMul, Nat.reduceSub, Nat.reduceLT, Nat.reduceLeDiff, Nat.reduceBEq, reduceIte, reduceCtorEq, Int.reduceLT, Int.reduceLE, Int.reduceEq, Int.reduceNeg, Int.reduceToNat, Int.reduceAdd, Int.reduceSub, d, ↓g_call _ _ c_order_Get]
  refine CallK.pure cG (aft_nil ?_)
  rcases hk : cmOk val with _ | _
  · have e : gCode val = 3 := by unfold gCode; rw [hk]; rfl
    rw [if_neg (by simp), hstep, e]
    simp -implicitDefEqProofs -dsimp only [go_sem, Nat.reduceEqDiff, Nat.reduceAdd, Nat.reduceMul, Nat.reduceSub, Nat.reduceLT, Nat.reduceLeDiff, Nat.reduceBEq, reduceIte, reduceCtorEq, Int.reduceLT, Int.reduceLE, Int.reduceEq, Int.reduceNeg, Int.reduceToNat, Int.reduceAdd, Int.reduceSub]
    exact fin_as (.refl _) rfl
  · have e : gCode val = 0 := by unfold gCode; rw [hk]; rfl
    rw [if_pos rfl, e]
    simp -implicitDefEqProofs -dsimp only [go_sem, Nat.reduceEqDiff, Nat.reduceAdd, Nat.reduceMul, Nat.reduceSub, Nat.reduceLT, Nat.reduceLeDiff, Nat.reduceBEq, reduceIte, reduceCtorEq, Int.reduceLT, Int.reduceLE, Int.reduceEq, Int.reduceNeg, Int.reduceToNat, Int.reduceAdd, Int.reduceSub, decide_true, Bool.not_true, ↓g_call _ _ c_order_State_do]
    rw [hrow]
    refine CallK.as cD (aft_nil ?_)
    simp -implicitDefEqProofs -dsimp only [go_sem, Nat.reduceEqDiff, Nat.reduceAdd, Nat.reduceMul, Nat.reduceSub, Nat.reduceLT, Nat.reduceLeDiff, Nat.reduceBEq, reduceIte, reduceCtorEq, Int.reduceLT, Int.reduceLE, Int.reduceEq, Int.reduceNeg, Int.reduceToNat, Int.reduceAdd, Int.reduceSub]
    exact fin_as (.refl _) rfl
theorem pc_oApply_nil (val : List UInt8) : PCalls prog f_order_State_Apply [.nilptr, .s val] (.i .i64 2) := by
  refine pcalls_of mixed t_order_State_Apply (by simp) fun T => ?_
  unfold s_order_State_Apply
  simp -implicitDefEqProofs -dsimp only [go_sem, Nat.reduceEqDiff, Nat.reduceAdd, Nat.reduceMul, Nat.reduceSub, Nat.reduceLT, Nat.reduceLeDiff, Nat.reduceBEq, reduceIte, reduceCtorEq, Int.reduceLT, Int.reduceLE, Int.reduceEq, Int.reduceNeg, Int.reduceToNat, Int.reduceAdd, Int.reduceSub]
  exact finL_pure rfl

/-! A command's text. -/
def epOf (cs : List Cf) (k : Int) : Int := match at? cs k with
  | some c => c.ep
  | none => 0
def txC (cs : List Cf) (c : Cm) : Cm := if c.ep = 0 then ⟨c.k, c.sh, epOf cs c.sh, c.nd⟩ else c
def txt (cs : List Cf) (c : Cm) : List UInt8 := if c.k = 0 then [] else if c.k = 6 then [63] else if (txC cs c).ok = true then wr4 (txC cs c) else []
theorem ac_Text {T : Tab} {id idC : Nat} {o : Os} (hR : St T id idC o) (hs : ∀ c ∈ o.cs, Small c) (he : ∀ c ∈ o.cs, c.ep < 18446744073709551616) (c : Cm) (hc : c.ep < 18446744073709551616) :
    ACalls prog f_sautoirlaw21_Text [.ptr id 0, .agg c.cells] T (fun r T' => r = .s (txt o.cs c) ∧ T' = T) := by
  have cC := ac_oConf hR hs c.sh
  refine acalls_of mixed t_sautoirlaw21_Text (by simp) ?_
  unfold s_sautoirlaw21_Text
  rw [txt]
  by_cases h0 : c.k = 0
  · rw [if_pos h0]
    simp -implicitDefEqProofs -dsimp only [go_sem, Nat.reduceEqDiff, Nat.reduceAdd, Nat.reduceMul, Nat.reduceSub, Nat.reduceLT, Nat.reduceLeDiff, Nat.reduceBEq, reduceIte, reduceCtorEq, Int.reduceLT, Int.reduceLE, Int.reduceEq, Int.reduceNeg, Int.reduceToNat, Int.reduceAdd, Int.reduceSub, Cm.cells, h0, decide_true]
    exact fin_as (.refl _) rfl
  have d0 : decide (c.k = 0) = false := decide_eq_false h0
  rw [if_neg h0]
  by_cases h6 : c.k = 6
  · rw [if_pos h6]
    rw [h6] at d0
    simp -implicitDefEqProofs -dsimp only [go_sem, Nat.reduceEqDiff, Nat.reduceAdd, Nat.reduceMul, Nat.reduceSub, Nat.reduceLT, Nat.reduceLeDiff, Nat.reduceBEq, reduceIte, reduceCtorEq, Int.reduceLT, Int.reduceLE, Int.reduceEq, Int.reduceNeg, Int.reduceToNat, Int.reduceAdd, Int.reduceSub, Cm.cells, d0, h6, decide_true]
    exact fin_as (.refl _) rfl
  have d6 : decide (c.k = 6) = false := decide_eq_false h6
  rw [if_neg h6]
  by_cases hz : c.ep = 0
  · have dz : decide (c.ep = 0) = true := decide_eq_true hz
    have hep : (txC o.cs c).ep < 18446744073709551616 := by
      unfold txC
      rw [if_pos hz]
      show epOf o.cs c.sh < _
      unfold epOf at?
      split
      · rename_i x hx
        split at hx
        · exact he _ (List.mem_of_getElem? hx)
        · cases hx
      · decide
    have cP := pc_oPut4 (txC o.cs c) hep
    have e : txC o.cs c = ⟨c.k, c.sh, epOf o.cs c.sh, c.nd⟩ := by unfold txC; rw [if_pos hz]
    simp only [Cm.cells, e] at cP
    simp -implicitDefEqProofs -dsimp only [go_sem, Nat.reduceEqDiff, Nat.reduceAdd, Nat.reduceMul, Nat.reduceSub, Nat.reduceLT, Nat.reduceLeDiff, Nat.reduceBEq, reduceIte, reduceCtorEq, Int.reduceLT, Int.reduceLE, Int.reduceEq, Int.reduceNeg, Int.reduceToNat, Int.reduceAdd, Int.reduceSub, Cm.cells, d0, d6, dz, ↓g_call _ _ c_order_State_Conf]
    refine CallK.as cC (aft_nil ?_)
    unfold cfR
    have eE : epOf o.cs c.sh = match at? o.cs c.sh with | some c => c.ep | none => 0 := rfl
    rcases hat : at? o.cs c.sh with _ | y
    · rw [hat] at eE
      simp only at eE
      rw [eE] at cP
      simp -implicitDefEqProofs -dsimp only [go_sem, Nat.reduceEqDiff, Nat.reduceAdd, Nat.reduceMul, Nat.reduceSub, Nat.reduceLT, Nat.reduceLeDiff, Nat.reduceBEq, reduceIte, reduceCtorEq, Int.reduceLT, Int.reduceLE, Int.reduceEq, Int.reduceNeg, Int.reduceToNat, Int.reduceAdd, Int.reduceSub, Cf.cells, Cf.nil, List.length_nil, ints_nil, bools_nil, ↓g_call _ _ c_order_Put]
      refine CallK.pure cP (aft_nil ?_)
      rw [e, eE, cPut]
      rcases hok : (Cm.ok ⟨c.k, c.sh, 0, c.nd⟩) with _ | _
      · simp only [Bool.false_eq_true, if_false]
        simp -implicitDefEqProofs -dsimp only [go_sem, Nat.reduceEqDiff, Nat.reduceAdd, Nat.reduceMul, Nat.reduceSub, Nat.reduceLT, Nat.reduceLeDiff, Nat.reduceBEq, reduceIte, reduceCtorEq, Int.reduceLT, Int.reduceLE, Int.reduceEq, Int.reduceNeg, Int.reduceToNat, Int.reduceAdd, Int.reduceSub]
        exact fin_as (.refl _) rfl
      · simp only [if_true]
        simp -implicitDefEqProofs -dsimp only [go_sem, Nat.reduceEqDiff, Nat.reduceAdd, Nat.reduceMul, Nat.reduceSub, Nat.reduceLT, Nat.reduceLeDiff, Nat.reduceBEq, reduceIte, reduceCtorEq, Int.reduceLT, Int.reduceLE, Int.reduceEq, Int.reduceNeg, Int.reduceToNat, Int.reduceAdd, Int.reduceSub]
        exact fin_as (.refl _) rfl
    · rw [hat] at eE
      simp only at eE
      rw [eE] at cP
      simp -implicitDefEqProofs -dsimp only [go_sem, Nat.reduceEqDiff, Nat.reduceAdd, Nat.reduceMul, Nat.reduceSub, Nat.reduceLT, Nat.reduceLeDiff, Nat.reduceBEq, reduceIte, reduceCtorEq, Int.reduceLT, Int.reduceLE, Int.reduceEq, Int.reduceNeg, Int.reduceToNat, Int.reduceAdd, Int.reduceSub, Cf.cells, ↓g_call _ _ c_order_Put]
      refine CallK.pure cP (aft_nil ?_)
      rw [e, eE, cPut]
      rcases hok : (Cm.ok ⟨c.k, c.sh, y.ep, c.nd⟩) with _ | _
      · simp only [Bool.false_eq_true, if_false]
        simp -implicitDefEqProofs -dsimp only [go_sem, Nat.reduceEqDiff, Nat.reduceAdd, Nat.reduceMul, Nat.reduceSub, Nat.reduceLT, Nat.reduceLeDiff, Nat.reduceBEq, reduceIte, reduceCtorEq, Int.reduceLT, Int.reduceLE, Int.reduceEq, Int.reduceNeg, Int.reduceToNat, Int.reduceAdd, Int.reduceSub]
        exact fin_as (.refl _) rfl
      · simp only [if_true]
        simp -implicitDefEqProofs -dsimp only [go_sem, Nat.reduceEqDiff, Nat.reduceAdd, Nat.reduceMul, Nat.reduceSub, Nat.reduceLT, Nat.reduceLeDiff, Nat.reduceBEq, reduceIte, reduceCtorEq, Int.reduceLT, Int.reduceLE, Int.reduceEq, Int.reduceNeg, Int.reduceToNat, Int.reduceAdd, Int.reduceSub]
        exact fin_as (.refl _) rfl
  · have dz : decide (c.ep = 0) = false := decide_eq_false hz
    have e : txC o.cs c = c := by unfold txC; rw [if_neg hz]
    have cP := pc_oPut4 c hc
    simp only [Cm.cells] at cP
    rw [e]
    simp -implicitDefEqProofs -dsimp only [go_sem, Nat.reduceEqDiff, Nat.reduceAdd, Nat.reduceMul, Nat.reduceSub, Nat.reduceLT, Nat.reduceLeDiff, Nat.reduceBEq, reduceIte, reduceCtorEq, Int.reduceLT, Int.reduceLE, Int.reduceEq, Int.reduceNeg, Int.reduceToNat, Int.reduceAdd, Int.reduceSub, Cm.cells, d0, d6, dz, ↓g_call _ _ c_order_Put]
    refine CallK.pure cP (aft_nil ?_)
    rw [cPut]
    rcases hok : c.ok with _ | _
    · simp only [Bool.false_eq_true, if_false]
      simp -implicitDefEqProofs -dsimp only [go_sem, Nat.reduceEqDiff, Nat.reduceAdd, Nat.reduceMul, Nat.reduceSub, Nat.reduceLT, Nat.reduceLeDiff, Nat.reduceBEq, reduceIte, reduceCtorEq, Int.reduceLT, Int.reduceLE, Int.reduceEq, Int.reduceNeg, Int.reduceToNat, Int.reduceAdd, Int.reduceSub]
      exact fin_as (.refl _) rfl
    · simp only [if_true]
      simp -implicitDefEqProofs -dsimp only [go_sem, Nat.reduceEqDiff, Nat.reduceAdd, Nat.reduceMul, Nat.reduceSub, Nat.reduceLT, Nat.reduceLeDiff, Nat.reduceBEq, reduceIte, reduceCtorEq, Int.reduceLT, Int.reduceLE, Int.reduceEq, Int.reduceNeg, Int.reduceToNat, Int.reduceAdd, Int.reduceSub]
      exact fin_as (.refl _) rfl

/-! Are two states the same? -/
/-! The example. -/
theorem cfR1 : cfR (cfs0 2 2) 1 = .tup [.agg ((cf0 2 1).cells none none), .b true] := rfl
theorem pc_awake21 : PCalls prog f_sautoirlaw21_awake [] (.b true) := by
  refine pcalls_of mixed t_sautoirlaw21_awake (by simp) fun T => ?_
  have hs : ∀ c ∈ (os0 2 2 5).cs, Small c := fun c hc => by
    have : c = cf0 2 0 ∨ c = cf0 2 1 := by simpa [os0, cfs0, List.range_succ] using hc
    rcases this with rfl | rfl <;> (unfold Small; decide)
  have hl : Len (os0 2 2 5).cs.length := by unfold Len; decide
  have cN := ac_oNew (T0 := T) (S := 2) (L := 2) (v := 5) (by decide)
  have cH := pc_Head (cf0 2 1) none none (by unfold Len; decide)
  have cT := pc_Tail (cf0 2 1) none none (by unfold Len; decide)
  have e1 : (cf0 2 1).at 0 = 2 := by decide
  have e2 : (cf0 2 1).at ((cf0 2 1).ch.length - 1) = 3 := by decide
  have e3 : (cf0 2 1).cells none none = [.i .u64 2, .i .i64 1, .fz 2 (ints [2, 3]) none, .fz 2 (bools [true, true]) none, .i .i64 (-1)] := rfl
  rw [e1, e3] at cH
  rw [e2, e3] at cT
  simp only [stC] at cN
  unfold s_sautoirlaw21_awake
  simp -implicitDefEqProofs -dsimp only [go_sem, Nat.reduceEqDiff, Nat.reduceAdd, Nat.reduceMul, Nat.reduceSub, Nat.reduceLT, Nat.reduceLeDiff, Nat.reduceBEq, reduceIte, reduceCtorEq, Int.reduceLT, Int.reduceLE, Int.reduceEq, Int.reduceNeg, Int.reduceToNat, Int.reduceAdd, Int.reduceSub, ↓g_call _ _ c_order_New]
  refine CallK.of cN (fun r T' ⟨id, idC, q1, q2, q3, q4, q5⟩ => aft_nil ?_)
  subst q1
  have hst : St T' id idC (os0 2 2 5) := by rw [q5]; exact oT_st q4
  have cC := ac_oConf hst hs 1
  rw [show (os0 2 2 5).cs = cfs0 2 2 from rfl, cfR1, e3] at cC
  have cS4 := ac_oSpare hst hl hs 4
  have cS0 := ac_oSpare hst hl hs 0
  rw [show (os0 2 2 5).spare 4 = true by decide] at cS4
  rw [show (os0 2 2 5).spare 0 = false by decide] at cS0
  have cO := ac_oCounter hst
  rw [show (os0 2 2 5).ct = 2 from rfl] at cO
  simp -implicitDefEqProofs -dsimp only [go_sem, Nat.reduceEqDiff, Nat.reduceAdd, Nat.reduceMul, Nat.reduceSub, Nat.reduceLT, Nat.reduceLeDiff, Nat.reduceBEq, reduceIte, reduceCtorEq, Int.reduceLT, Int.reduceLE, Int.reduceEq, Int.reduceNeg, Int.reduceToNat, Int.reduceAdd, Int.reduceSub, ↓g_call _ _ c_order_State_Conf]
  refine CallK.as cC (aft_nil ?_)
  simp -implicitDefEqProofs -dsimp only [go_sem, Nat.reduceEqDiff, Nat.reduceAdd, Nat.reduceMul, Nat.reduceSub, Nat.reduceLT, Nat.reduceLeDiff, Nat.reduceBEq, reduceIte, reduceCtorEq, Int.reduceLT, Int.reduceLE, Int.reduceEq, Int.reduceNeg, Int.reduceToNat, Int.reduceAdd, Int.reduceSub, decide_true, ↓g_gdc, rcOk, true_and, ↓g_call _ _ c_conf_Conf_Head]
  refine CallK.pure cH (aft_nil ?_)
  simp -implicitDefEqProofs -dsimp only [go_sem, Nat.reduceEqDiff, Nat.reduceAdd, Nat.reduceMul, Nat.reduceSub, Nat.reduceLT, Nat.reduceLeDiff, Nat.reduceBEq, reduceIte, reduceCtorEq, Int.reduceLT, Int.reduceLE, Int.reduceEq, Int.reduceNeg, Int.reduceToNat, Int.reduceAdd, Int.reduceSub, decide_true, ↓g_gdc, rcOk, true_and, ↓g_call _ _ c_conf_Conf_Tail]
  refine CallK.pure cT (aft_nil ?_)
  simp -implicitDefEqProofs -dsimp only [go_sem, Nat.reduceEqDiff, Nat.reduceAdd, Nat.reduceMul, Nat.reduceSub, Nat.reduceLT, Nat.reduceLeDiff, Nat.reduceBEq, reduceIte, reduceCtorEq, Int.reduceLT, Int.reduceLE, Int.reduceEq, Int.reduceNeg, Int.reduceToNat, Int.reduceAdd, Int.reduceSub, decide_true, ↓g_gdc, rcOk, true_and, ↓g_call _ _ c_order_State_Spare]
  refine CallK.as cS4 (aft_nil ?_)
  simp -implicitDefEqProofs -dsimp only [go_sem, Nat.reduceEqDiff, Nat.reduceAdd, Nat.reduceMul, Nat.reduceSub, Nat.reduceLT, Nat.reduceLeDiff, Nat.reduceBEq, reduceIte, reduceCtorEq, Int.reduceLT, Int.reduceLE, Int.reduceEq, Int.reduceNeg, Int.reduceToNat, Int.reduceAdd, Int.reduceSub, decide_true, ↓g_gdc, rcOk, true_and, ↓g_call _ _ c_order_State_Spare]
  refine CallK.as cS0 (aft_nil ?_)
  simp -implicitDefEqProofs -dsimp only [go_sem, Nat.reduceEqDiff, Nat.reduceAdd, Nat.reduceMul, Nat.reduceSub, Nat.reduceLT, Nat.reduceLeDiff, Nat.reduceBEq, reduceIte, reduceCtorEq, Int.reduceLT, Int.reduceLE, Int.reduceEq, Int.reduceNeg, Int.reduceToNat, Int.reduceAdd, Int.reduceSub, decide_true, Bool.not_false, ↓g_gdc, rcOk, true_and, ↓g_call _ _ c_order_State_Counter]
  refine CallK.as cO (aft_nil ?_)
  simp -implicitDefEqProofs -dsimp only [go_sem, Nat.reduceEqDiff, Nat.reduceAdd, Nat.reduceMul, Nat.reduceSub, Nat.reduceLT, Nat.reduceLeDiff, Nat.reduceBEq, reduceIte, reduceCtorEq, Int.reduceLT, Int.reduceLE, Int.reduceEq, Int.reduceNeg, Int.reduceToNat, Int.reduceAdd, Int.reduceSub, decide_true]
  rw [q5, oT]
  exact (((TabLe.refl T).put q2).put q3).fin
end Go.Aw
