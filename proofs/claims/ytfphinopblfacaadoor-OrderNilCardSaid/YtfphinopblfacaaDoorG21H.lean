import Derived.Test.YtfphinopblfacaaDoorG21G
namespace Go.Aw
open Go
open Go.Proofs.Tryd (prog)
set_option linter.all false
set_option maxHeartbeats 4000000

theorem pc_OrderNil (val : List UInt8) (n : Int) : PCalls prog f_sautoirlaw21_OrderNil [.s val, .i .i64 n] (.b true) := by
  refine pcalls_of mixed t_sautoirlaw21_OrderNil (by simp) fun T => ?_
  have c0 := pc_oConf_nil n
  have c1 := pc_oApply_nil val
  have c2 : PCalls prog f_order_State_N [.nilptr] (.i .i64 0) := by
    refine pcalls_of mixed t_order_State_N (by simp) fun T => ?_
    unfold s_order_State_N
    simp -implicitDefEqProofs -dsimp only [go_sem, Nat.reduceEqDiff, Nat.reduceAdd, Nat.reduceMul, Nat.reduceSub, Nat.reduceLT, Nat.reduceLeDiff, Nat.reduceBEq, reduceIte, reduceCtorEq, Int.reduceLT, Int.reduceLE, Int.reduceEq, Int.reduceNeg, Int.reduceToNat, Int.reduceAdd, Int.reduceSub]
    exact finL_pure rfl
  have c3 : PCalls prog f_order_State_Counter [.nilptr] (.i .u64 0) := by
    refine pcalls_of mixed t_order_State_Counter (by simp) fun T => ?_
    unfold s_order_State_Counter
    simp -implicitDefEqProofs -dsimp only [go_sem, Nat.reduceEqDiff, Nat.reduceAdd, Nat.reduceMul, Nat.reduceSub, Nat.reduceLT, Nat.reduceLeDiff, Nat.reduceBEq, reduceIte, reduceCtorEq, Int.reduceLT, Int.reduceLE, Int.reduceEq, Int.reduceNeg, Int.reduceToNat, Int.reduceAdd, Int.reduceSub]
    exact finL_pure rfl
  have c4 : PCalls prog f_order_State_Confs [.nilptr] (.fz 0 [] (some 0)) := by
    refine pcalls_of mixed t_order_State_Confs (by simp) fun T => ?_
    unfold s_order_State_Confs
    simp -implicitDefEqProofs -dsimp only [go_sem, Nat.reduceEqDiff, Nat.reduceAdd, Nat.reduceMul, Nat.reduceSub, Nat.reduceLT, Nat.reduceLeDiff, Nat.reduceBEq, reduceIte, reduceCtorEq, Int.reduceLT, Int.reduceLE, Int.reduceEq, Int.reduceNeg, Int.reduceToNat, Int.reduceAdd, Int.reduceSub]
    exact finL_pure rfl
  have c5 : PCalls prog f_order_State_Spare [.nilptr, .i .i64 n] (.b false) := by
    refine pcalls_of mixed t_order_State_Spare (by simp) fun T => ?_
    unfold s_order_State_Spare
    simp -implicitDefEqProofs -dsimp only [go_sem, Nat.reduceEqDiff, Nat.reduceAdd, Nat.reduceMul, Nat.reduceSub, Nat.reduceLT, Nat.reduceLeDiff, Nat.reduceBEq, reduceIte, reduceCtorEq, Int.reduceLT, Int.reduceLE, Int.reduceEq, Int.reduceNeg, Int.reduceToNat, Int.reduceAdd, Int.reduceSub, ↓g_gdc, rcOk, true_and]
    exact finL_pure rfl
  have c6 : PCalls prog f_order_State_Setup [.nilptr] (.agg [.i .i64 0, .i .i64 0, .i .i64 0]) := by
    refine pcalls_of mixed t_order_State_Setup (by simp) fun T => ?_
    unfold s_order_State_Setup
    simp -implicitDefEqProofs -dsimp only [go_sem, Nat.reduceEqDiff, Nat.reduceAdd, Nat.reduceMul, Nat.reduceSub, Nat.reduceLT, Nat.reduceLeDiff, Nat.reduceBEq, reduceIte, reduceCtorEq, Int.reduceLT, Int.reduceLE, Int.reduceEq, Int.reduceNeg, Int.reduceToNat, Int.reduceAdd, Int.reduceSub]
    exact finL_pure rfl
  unfold s_sautoirlaw21_OrderNil
  simp -implicitDefEqProofs -dsimp only [go_sem, Nat.reduceEqDiff, Nat.reduceAdd, Nat.reduceMul, Nat.reduceSub, Nat.reduceLT, Nat.reduceLeDiff, Nat.reduceBEq, reduceIte, reduceCtorEq, Int.reduceLT, Int.reduceLE, Int.reduceEq, Int.reduceNeg, Int.reduceToNat, Int.reduceAdd, Int.reduceSub, ↓g_call _ _ c_order_State_Conf]
  refine CallK.pure c0 (aft_nil ?_)
  simp -implicitDefEqProofs -dsimp only [go_sem, Nat.reduceEqDiff, Nat.reduceAdd, Nat.reduceMul, Nat.reduceSub, Nat.reduceLT, Nat.reduceLeDiff, Nat.reduceBEq, reduceIte, reduceCtorEq, Int.reduceLT, Int.reduceLE, Int.reduceEq, Int.reduceNeg, Int.reduceToNat, Int.reduceAdd, Int.reduceSub, Cf.cells, Cf.nil, List.length_nil, ints_nil, bools_nil, ↓g_call _ _ c_order_State_Apply]
  refine CallK.pure c1 (aft_nil ?_)
  simp -implicitDefEqProofs -dsimp only [go_sem, Nat.reduceEqDiff, Nat.reduceAdd, Nat.reduceMul, Nat.reduceSub, Nat.reduceLT, Nat.reduceLeDiff, Nat.reduceBEq, reduceIte, reduceCtorEq, Int.reduceLT, Int.reduceLE, Int.reduceEq, Int.reduceNeg, Int.reduceToNat, Int.reduceAdd, Int.reduceSub, decide_true, ↓g_gdc, rcOk, true_and, ↓g_call _ _ c_order_State_N]
  refine CallK.pure c2 (aft_nil ?_)
  simp -implicitDefEqProofs -dsimp only [go_sem, Nat.reduceEqDiff, Nat.reduceAdd, Nat.reduceMul, Nat.reduceSub, Nat.reduceLT, Nat.reduceLeDiff, Nat.reduceBEq, reduceIte, reduceCtorEq, Int.reduceLT, Int.reduceLE, Int.reduceEq, Int.reduceNeg, Int.reduceToNat, Int.reduceAdd, Int.reduceSub, decide_true, ↓g_gdc, rcOk, true_and, ↓g_call _ _ c_order_State_Counter]
  refine CallK.pure c3 (aft_nil ?_)
  simp -implicitDefEqProofs -dsimp only [go_sem, Nat.reduceEqDiff, Nat.reduceAdd, Nat.reduceMul, Nat.reduceSub, Nat.reduceLT, Nat.reduceLeDiff, Nat.reduceBEq, reduceIte, reduceCtorEq, Int.reduceLT, Int.reduceLE, Int.reduceEq, Int.reduceNeg, Int.reduceToNat, Int.reduceAdd, Int.reduceSub, decide_true, ↓g_gdc, rcOk, true_and, ↓g_call _ _ c_order_State_Confs]
  refine CallK.pure c4 (aft_nil ?_)
  simp -implicitDefEqProofs -dsimp only [go_sem, Nat.reduceEqDiff, Nat.reduceAdd, Nat.reduceMul, Nat.reduceSub, Nat.reduceLT, Nat.reduceLeDiff, Nat.reduceBEq, reduceIte, reduceCtorEq, Int.reduceLT, Int.reduceLE, Int.reduceEq, Int.reduceNeg, Int.reduceToNat, Int.reduceAdd, Int.reduceSub, show ((0 : Nat) : Int) = 0 from rfl, decide_true, Bool.not_false, ↓g_gdc, rcOk, true_and, ↓g_call _ _ c_order_State_Spare]
  refine CallK.pure c5 (aft_nil ?_)
  simp -implicitDefEqProofs -dsimp only [go_sem, Nat.reduceEqDiff, Nat.reduceAdd, Nat.reduceMul, Nat.reduceSub, Nat.reduceLT, Nat.reduceLeDiff, Nat.reduceBEq, reduceIte, reduceCtorEq, Int.reduceLT, Int.reduceLE, Int.reduceEq, Int.reduceNeg, Int.reduceToNat, Int.reduceAdd, Int.reduceSub, decide_true, Bool.not_false, ↓g_gdc, rcOk, true_and, ↓g_call _ _ c_order_State_Setup]
  refine CallK.pure c6 (aft_nil ?_)
  simp -implicitDefEqProofs -dsimp only [go_sem, Nat.reduceEqDiff, Nat.reduceAdd, Nat.reduceMul, Nat.reduceSub, Nat.reduceLT, Nat.reduceLeDiff, Nat.reduceBEq, reduceIte, reduceCtorEq, Int.reduceLT, Int.reduceLE, Int.reduceEq, Int.reduceNeg, Int.reduceToNat, Int.reduceAdd, Int.reduceSub, eqAv, aggEq, scalarEq, Bool.and_self, decide_true, ↓g_gdc, rcOk, true_and, ↓g_call _ _ c_sautoirlaw21_awake]
  refine CallK.pure pc_awake21 (aft_nil ?_)
  simp -implicitDefEqProofs -dsimp only [go_sem, Nat.reduceEqDiff, Nat.reduceAdd, Nat.reduceMul, Nat.reduceSub, Nat.reduceLT, Nat.reduceLeDiff, Nat.reduceBEq, reduceIte, reduceCtorEq, Int.reduceLT, Int.reduceLE, Int.reduceEq, Int.reduceNeg, Int.reduceToNat, Int.reduceAdd, Int.reduceSub]
  exact finL_pure rfl

/-- What was written is read. -/
theorem cm_put {c : Cm} (hok : c.ok = true) (he : c.ep < 18446744073709551616) : cmOf (wr4 c) = c ∧ cmOk (wr4 c) = true := by
  have hh := of_decide_eq_true hok
  have e1 : rd1 (wr4 c) = (c.k.toNat, (enc c.sh.toNat ++ (enc c.ep.toNat ++ enc c.nd.toNat), false)) := by
    unfold rd1 wr4
    rw [List.append_assoc, List.append_assoc]
    exact rMost_put (by omega) (by omega) _
  have e2 : rd2 (wr4 c) = (c.sh.toNat, (enc c.ep.toNat ++ enc c.nd.toNat, false)) := by
    unfold rd2
    rw [e1]
    exact rMost_put (by omega) (by omega) _
  have e3 : rd3 (wr4 c) = (c.ep.toNat, (enc c.nd.toNat, false)) := by
    unfold rd3
    rw [e2]
    exact rMost_put (by omega) (by omega) _
  have e4 : rd4 (wr4 c) = (c.nd.toNat, ([], false)) := by
    unfold rd4
    rw [e3]
    have := rMost_put (k := 7) (n := c.nd.toNat) (by omega) (by omega) []
    rwa [List.append_nil] at this
  have ec : cmOf (wr4 c) = c := by
    unfold cmOf
    rw [e1, e2, e3, e4]
    cases c
    simp only at hh ⊢
    congr 1 <;> omega
  refine ⟨ec, ?_⟩
  unfold cmOk
  rw [ec, hok, e4]
  rfl
theorem wr4_len {c : Cm} (hok : c.ok = true) (he : c.ep < 18446744073709551616) : (wr4 c).length ≤ 40 := by
  have hh := of_decide_eq_true hok
  have l1 := enc_le10 (n := c.k.toNat) (by omega)
  have l2 := enc_le10 (n := c.sh.toNat) (by omega)
  have l3 := enc_le10 (n := c.ep.toNat) (by omega)
  have l4 := enc_le10 (n := c.nd.toNat) (by omega)
  simp only [wr4, List.length_append]; omega
theorem wr4_ne (c : Cm) : wr4 c ≠ [] := by
  intro h
  have := congrArg List.length h
  simp only [wr4, List.length_append, List.length_nil] at this
  have := List.length_pos_iff.2 (enc_ne c.k.toNat)
  omega
theorem pc_OrderCmd (c : Cm) (val : List UInt8) (he0 : 0 ≤ c.ep) (he : c.ep < 18446744073709551616) : PCalls prog f_sautoirlaw21_OrderCmd [.agg c.cells, .s val] (.b true) := by
  refine pcalls_of mixed t_sautoirlaw21_OrderCmd (by simp) fun T => ?_
  have cP := pc_oPut4 c he
  have cR := pc_rright c he0
  simp only [Cm.cells] at cP cR
  have main : ∀ s : List UInt8, s.length ≤ 40 → PCalls prog f_order_Get [.s s] (.tup [.agg (cmA s).cells, .i .i64 (gCode s)]) ∧ PCalls prog f_sautoirref21_Get [.s s] (.tup [.agg (cmA s).cells, .b (cmOk s)]) := fun s h => ⟨pc_oGet s (by omega), pc_rGet s (by omega)⟩
  simp only [Cm.cells] at main
  unfold s_sautoirlaw21_OrderCmd
  by_cases h40 : 40 < val.length
  · have d : decide ((40 : Int) < val.length) = true := decide_eq_true (by omega)
    have h40' : 40 ≤ val.length := by omega
    have hql : (val.take 40).length ≤ 40 := by rw [List.length_take]; omega
    simp -implicitDefEqProofs -dsimp only [go_sem, Nat.reduceEqDiff, Nat.reduceAdd, Nat.reduceMul, Nat.reduceSub, Nat.reduceLT, Nat.reduceLeDiff, Nat.reduceBEq, reduceIte, reduceCtorEq, Int.reduceLT, Int.reduceLE, Int.reduceEq, Int.reduceNeg, Int.reduceToNat, Int.reduceAdd, Int.reduceSub, Cm.cells, d, h40']
    generalize val.take 40 = q at hql ⊢
    obtain ⟨m1, m2⟩ := main q hql
    simp -implicitDefEqProofs -dsimp only [go_sem, Nat.reduceEqDiff, Nat.reduceAdd, Nat.reduceMul, Nat.reduceSub, Nat.reduceLT, Nat.reduceLeDiff, Nat.reduceBEq, reduceIte, reduceCtorEq, Int.reduceLT, Int.reduceLE, Int.reduceEq, Int.reduceNeg, Int.reduceToNat, Int.reduceAdd, Int.reduceSub, Cm.cells, ↓g_call _ _ c_order_Put]
    rcases hok : c.ok with _ | _
    · have eP : cPut c = .tup [.s [], .i .i64 1] := by unfold cPut; rw [hok]; rfl
      rw [eP] at cP
      refine CallK.pure cP (aft_nil ?_)
      simp -implicitDefEqProofs -dsimp only [go_sem, Nat.reduceEqDiff, Nat.reduceAdd, Nat.reduceMul, Nat.reduceSub, Nat.reduceLT, Nat.reduceLeDiff, Nat.reduceBEq, reduceIte, reduceCtorEq, Int.reduceLT, Int.reduceLE, Int.reduceEq, Int.reduceNeg, Int.reduceToNat, Int.reduceAdd, Int.reduceSub, ↓g_call _ _ c_order_Get]
      refine CallK.pure m1 (aft_nil ?_)
      simp -implicitDefEqProofs -dsimp only [go_sem, Nat.reduceEqDiff, Nat.reduceAdd, Nat.reduceMul, Nat.reduceSub, Nat.reduceLT, Nat.reduceLeDiff, Nat.reduceBEq, reduceIte, reduceCtorEq, Int.reduceLT, Int.reduceLE, Int.reduceEq, Int.reduceNeg, Int.reduceToNat, Int.reduceAdd, Int.reduceSub, ↓g_call _ _ c_sautoirref21_Get]
      refine CallK.pure m2 (aft_nil ?_)
      rcases hk : cmOk q with _ | _
      · have eg : gCode q = 3 := by unfold gCode; rw [hk]; rfl
        rw [eg]
        simp -implicitDefEqProofs -dsimp only [go_sem, Nat.reduceEqDiff, Nat.reduceAdd, Nat.reduceMul, Nat.reduceSub, Nat.reduceLT, Nat.reduceLeDiff, Nat.reduceBEq, reduceIte, reduceCtorEq, Int.reduceLT, Int.reduceLE, Int.reduceEq, Int.reduceNeg, Int.reduceToNat, Int.reduceAdd, Int.reduceSub, hk, eqAv, aggEq, scalarEq, eq_self, Bool.and_self, Bool.not_true, Bool.not_false, decide_true, decide_false, ↓g_gdc, rcOk, true_and, ↓g_call _ _ c_sautoirref21_Right]
        refine CallK.pure cR (aft_nil ?_)
        simp -implicitDefEqProofs -dsimp only [go_sem, Nat.reduceEqDiff, Nat.reduceAdd, Nat.reduceMul, Nat.reduceSub, Nat.reduceLT, Nat.reduceLeDiff, Nat.reduceBEq, reduceIte, reduceCtorEq, Int.reduceLT, Int.reduceLE, Int.reduceEq, Int.reduceNeg, Int.reduceToNat, Int.reduceAdd, Int.reduceSub, hok, Bool.not_false, decide_true, ↓g_gdc, rcOk, true_and, ↓g_call _ _ c_sautoirlaw21_awake]
        refine CallK.pure pc_awake21 (aft_nil ?_)
        simp -implicitDefEqProofs -dsimp only [go_sem, Nat.reduceEqDiff, Nat.reduceAdd, Nat.reduceMul, Nat.reduceSub, Nat.reduceLT, Nat.reduceLeDiff, Nat.reduceBEq, reduceIte, reduceCtorEq, Int.reduceLT, Int.reduceLE, Int.reduceEq, Int.reduceNeg, Int.reduceToNat, Int.reduceAdd, Int.reduceSub]
        exact finL_pure rfl
      · have eg : gCode q = 0 := by unfold gCode; rw [hk]; rfl
        rw [eg]
        simp -implicitDefEqProofs -dsimp only [go_sem, Nat.reduceEqDiff, Nat.reduceAdd, Nat.reduceMul, Nat.reduceSub, Nat.reduceLT, Nat.reduceLeDiff, Nat.reduceBEq, reduceIte, reduceCtorEq, Int.reduceLT, Int.reduceLE, Int.reduceEq, Int.reduceNeg, Int.reduceToNat, Int.reduceAdd, Int.reduceSub, hk, eqAv, aggEq, scalarEq, eq_self, Bool.and_self, Bool.not_true, Bool.not_false, decide_true, decide_false, ↓g_gdc, rcOk, true_and, ↓g_call _ _ c_sautoirref21_Right]
        refine CallK.pure cR (aft_nil ?_)
        simp -implicitDefEqProofs -dsimp only [go_sem, Nat.reduceEqDiff, Nat.reduceAdd, Nat.reduceMul, Nat.reduceSub, Nat.reduceLT, Nat.reduceLeDiff, Nat.reduceBEq, reduceIte, reduceCtorEq, Int.reduceLT, Int.reduceLE, Int.reduceEq, Int.reduceNeg, Int.reduceToNat, Int.reduceAdd, Int.reduceSub, hok, Bool.not_false, decide_true, ↓g_gdc, rcOk, true_and, ↓g_call _ _ c_sautoirlaw21_awake]
        refine CallK.pure pc_awake21 (aft_nil ?_)
        simp -implicitDefEqProofs -dsimp only [go_sem, Nat.reduceEqDiff, Nat.reduceAdd, Nat.reduceMul, Nat.reduceSub, Nat.reduceLT, Nat.reduceLeDiff, Nat.reduceBEq, reduceIte, reduceCtorEq, Int.reduceLT, Int.reduceLE, Int.reduceEq, Int.reduceNeg, Int.reduceToNat, Int.reduceAdd, Int.reduceSub]
        exact finL_pure rfl
    · have eP : cPut c = .tup [.s (wr4 c), .i .i64 0] := by unfold cPut; rw [hok]; rfl
      rw [eP] at cP
      obtain ⟨r1, r2⟩ := cm_put hok he
      obtain ⟨n1, _⟩ := main (wr4 c) (wr4_len hok he)
      have r3 : cmA (wr4 c) = c := by unfold cmA; rw [r2, if_pos rfl, r1]
      have r4 : gCode (wr4 c) = 0 := by unfold gCode; rw [r2]; rfl
      rw [r3, r4] at n1
      have cQ := pc_rPut4 c hok he
      simp only [Cm.cells] at cQ
      refine CallK.pure cP (aft_nil ?_)
      simp -implicitDefEqProofs -dsimp only [go_sem, Nat.reduceEqDiff, Nat.reduceAdd, Nat.reduceMul, Nat.reduceSub, Nat.reduceLT, Nat.reduceLeDiff, Nat.reduceBEq, reduceIte, reduceCtorEq, Int.reduceLT, Int.reduceLE, Int.reduceEq, Int.reduceNeg, Int.reduceToNat, Int.reduceAdd, Int.reduceSub, ↓g_call _ _ c_order_Get]
      refine CallK.pure m1 (aft_nil ?_)
      simp -implicitDefEqProofs -dsimp only [go_sem, Nat.reduceEqDiff, Nat.reduceAdd, Nat.reduceMul, Nat.reduceSub, Nat.reduceLT, Nat.reduceLeDiff, Nat.reduceBEq, reduceIte, reduceCtorEq, Int.reduceLT, Int.reduceLE, Int.reduceEq, Int.reduceNeg, Int.reduceToNat, Int.reduceAdd, Int.reduceSub, ↓g_call _ _ c_sautoirref21_Get]
      refine CallK.pure m2 (aft_nil ?_)
      rcases hk : cmOk q with _ | _
      · have eg : gCode q = 3 := by unfold gCode; rw [hk]; rfl
        rw [eg]
        simp -implicitDefEqProofs -dsimp only [go_sem, Nat.reduceEqDiff, Nat.reduceAdd, Nat.reduceMul, Nat.reduceSub, Nat.reduceLT, Nat.reduceLeDiff, Nat.reduceBEq, reduceIte, reduceCtorEq, Int.reduceLT, Int.reduceLE, Int.reduceEq, Int.reduceNeg, Int.reduceToNat, Int.reduceAdd, Int.reduceSub, hk, eqAv, aggEq, scalarEq, eq_self, Bool.and_self, Bool.not_true, Bool.not_false, decide_true, decide_false, ↓g_gdc, rcOk, true_and, ↓g_call _ _ c_sautoirref21_Right]
        refine CallK.pure cR (aft_nil ?_)
        simp -implicitDefEqProofs -dsimp only [go_sem, Nat.reduceEqDiff, Nat.reduceAdd, Nat.reduceMul, Nat.reduceSub, Nat.reduceLT, Nat.reduceLeDiff, Nat.reduceBEq, reduceIte, reduceCtorEq, Int.reduceLT, Int.reduceLE, Int.reduceEq, Int.reduceNeg, Int.reduceToNat, Int.reduceAdd, Int.reduceSub, hok, Bool.not_true, ↓g_call _ _ c_order_Get]
        refine CallK.pure n1 (aft_nil ?_)
        simp -implicitDefEqProofs -dsimp only [go_sem, Nat.reduceEqDiff, Nat.reduceAdd, Nat.reduceMul, Nat.reduceSub, Nat.reduceLT, Nat.reduceLeDiff, Nat.reduceBEq, reduceIte, reduceCtorEq, Int.reduceLT, Int.reduceLE, Int.reduceEq, Int.reduceNeg, Int.reduceToNat, Int.reduceAdd, Int.reduceSub, decide_true, ↓g_gdc, rcOk, true_and, ↓g_call _ _ c_sautoirref21_Put]
        refine CallK.pure cQ (aft_nil ?_)
        simp -implicitDefEqProofs -dsimp only [go_sem, Nat.reduceEqDiff, Nat.reduceAdd, Nat.reduceMul, Nat.reduceSub, Nat.reduceLT, Nat.reduceLeDiff, Nat.reduceBEq, reduceIte, reduceCtorEq, Int.reduceLT, Int.reduceLE, Int.reduceEq, Int.reduceNeg, Int.reduceToNat, Int.reduceAdd, Int.reduceSub, eqAv, aggEq, scalarEq, eq_self, Bool.and_self, decide_true, ↓g_gdc, rcOk, true_and, ↓g_call _ _ c_sautoirlaw21_awake]
        refine CallK.pure pc_awake21 (aft_nil ?_)
        simp -implicitDefEqProofs -dsimp only [go_sem, Nat.reduceEqDiff, Nat.reduceAdd, Nat.reduceMul, Nat.reduceSub, Nat.reduceLT, Nat.reduceLeDiff, Nat.reduceBEq, reduceIte, reduceCtorEq, Int.reduceLT, Int.reduceLE, Int.reduceEq, Int.reduceNeg, Int.reduceToNat, Int.reduceAdd, Int.reduceSub]
        exact finL_pure rfl
      · have eg : gCode q = 0 := by unfold gCode; rw [hk]; rfl
        rw [eg]
        simp -implicitDefEqProofs -dsimp only [go_sem, Nat.reduceEqDiff, Nat.reduceAdd, Nat.reduceMul, Nat.reduceSub, Nat.reduceLT, Nat.reduceLeDiff, Nat.reduceBEq, reduceIte, reduceCtorEq, Int.reduceLT, Int.reduceLE, Int.reduceEq, Int.reduceNeg, Int.reduceToNat, Int.reduceAdd, Int.reduceSub, hk, eqAv, aggEq, scalarEq, eq_self, Bool.and_self, Bool.not_true, Bool.not_false, decide_true, decide_false, ↓g_gdc, rcOk, true_and, ↓g_call _ _ c_sautoirref21_Right]
        refine CallK.pure cR (aft_nil ?_)
        simp -implicitDefEqProofs -dsimp only [go_sem, Nat.reduceEqDiff, Nat.reduceAdd, Nat.reduceMul, Nat.reduceSub, Nat.reduceLT, Nat.reduceLeDiff, Nat.reduceBEq, reduceIte, reduceCtorEq, Int.reduceLT, Int.reduceLE, Int.reduceEq, Int.reduceNeg, Int.reduceToNat, Int.reduceAdd, Int.reduceSub, hok, Bool.not_true, ↓g_call _ _ c_order_Get]
        refine CallK.pure n1 (aft_nil ?_)
        simp -implicitDefEqProofs -dsimp only [go_sem, Nat.reduceEqDiff, Nat.reduceAdd, Nat.reduceMul, Nat.reduceSub, Nat.reduceLT, Nat.reduceLeDiff, Nat.reduceBEq, reduceIte, reduceCtorEq, Int.reduceLT, Int.reduceLE, Int.reduceEq, Int.reduceNeg, Int.reduceToNat, Int.reduceAdd, Int.reduceSub, decide_true, ↓g_gdc, rcOk, true_and, ↓g_call _ _ c_sautoirref21_Put]
        refine CallK.pure cQ (aft_nil ?_)
        simp -implicitDefEqProofs -dsimp only [go_sem, Nat.reduceEqDiff, Nat.reduceAdd, Nat.reduceMul, Nat.reduceSub, Nat.reduceLT, Nat.reduceLeDiff, Nat.reduceBEq, reduceIte, reduceCtorEq, Int.reduceLT, Int.reduceLE, Int.reduceEq, Int.reduceNeg, Int.reduceToNat, Int.reduceAdd, Int.reduceSub, eqAv, aggEq, scalarEq, eq_self, Bool.and_self, decide_true, ↓g_gdc, rcOk, true_and, ↓g_call _ _ c_sautoirlaw21_awake]
        refine CallK.pure pc_awake21 (aft_nil ?_)
        simp -implicitDefEqProofs -dsimp only [go_sem, Nat.reduceEqDiff, Nat.reduceAdd, Nat.reduceMul, Nat.reduceSub, Nat.reduceLT, Nat.reduceLeDiff, Nat.reduceBEq, reduceIte, reduceCtorEq, Int.reduceLT, Int.reduceLE, Int.reduceEq, Int.reduceNeg, Int.reduceToNat, Int.reduceAdd, Int.reduceSub]
        exact finL_pure rfl

  · have d : decide ((40 : Int) < val.length) = false := decide_eq_false (by omega)
    have hql : val.length ≤ 40 := by omega
    simp -implicitDefEqProofs -dsimp only [go_sem, Nat.reduceEqDiff, Nat.reduceAdd, Nat.reduceMul, Nat.reduceSub, Nat.reduceLT, Nat.reduceLeDiff, Nat.reduceBEq, reduceIte, reduceCtorEq, Int.reduceLT, Int.reduceLE, Int.reduceEq, Int.reduceNeg, Int.reduceToNat, Int.reduceAdd, Int.reduceSub, Cm.cells, d]
    clear h40 d
    generalize val = q at hql ⊢
    obtain ⟨m1, m2⟩ := main q hql
    simp -implicitDefEqProofs -dsimp only [go_sem, Nat.reduceEqDiff, Nat.reduceAdd, Nat.reduceMul, Nat.reduceSub, Nat.reduceLT, Nat.reduceLeDiff, Nat.reduceBEq, reduceIte, reduceCtorEq, Int.reduceLT, Int.reduceLE, Int.reduceEq, Int.reduceNeg, Int.reduceToNat, Int.reduceAdd, Int.reduceSub, Cm.cells, ↓g_call _ _ c_order_Put]
    rcases hok : c.ok with _ | _
    · have eP : cPut c = .tup [.s [], .i .i64 1] := by unfold cPut; rw [hok]; rfl
      rw [eP] at cP
      refine CallK.pure cP (aft_nil ?_)
      simp -implicitDefEqProofs -dsimp only [go_sem, Nat.reduceEqDiff, Nat.reduceAdd, Nat.reduceMul, Nat.reduceSub, Nat.reduceLT, Nat.reduceLeDiff, Nat.reduceBEq, reduceIte, reduceCtorEq, Int.reduceLT, Int.reduceLE, Int.reduceEq, Int.reduceNeg, Int.reduceToNat, Int.reduceAdd, Int.reduceSub, ↓g_call _ _ c_order_Get]
      refine CallK.pure m1 (aft_nil ?_)
      simp -implicitDefEqProofs -dsimp only [go_sem, Nat.reduceEqDiff, Nat.reduceAdd, Nat.reduceMul, Nat.reduceSub, Nat.reduceLT, Nat.reduceLeDiff, Nat.reduceBEq, reduceIte, reduceCtorEq, Int.reduceLT, Int.reduceLE, Int.reduceEq, Int.reduceNeg, Int.reduceToNat, Int.reduceAdd, Int.reduceSub, ↓g_call _ _ c_sautoirref21_Get]
      refine CallK.pure m2 (aft_nil ?_)
      rcases hk : cmOk q with _ | _
      · have eg : gCode q = 3 := by unfold gCode; rw [hk]; rfl
        rw [eg]
        simp -implicitDefEqProofs -dsimp only [go_sem, Nat.reduceEqDiff, Nat.reduceAdd, Nat.reduceMul, Nat.reduceSub, Nat.reduceLT, Nat.reduceLeDiff, Nat.reduceBEq, reduceIte, reduceCtorEq, Int.reduceLT, Int.reduceLE, Int.reduceEq, Int.reduceNeg, Int.reduceToNat, Int.reduceAdd, Int.reduceSub, hk, eqAv, aggEq, scalarEq, eq_self, Bool.and_self, Bool.not_true, Bool.not_false, decide_true, decide_false, ↓g_gdc, rcOk, true_and, ↓g_call _ _ c_sautoirref21_Right]
        refine CallK.pure cR (aft_nil ?_)
        simp -implicitDefEqProofs -dsimp only [go_sem, Nat.reduceEqDiff, Nat.reduceAdd, Nat.reduceMul, Nat.reduceSub, Nat.reduceLT, Nat.reduceLeDiff, Nat.reduceBEq, reduceIte, reduceCtorEq, Int.reduceLT, Int.reduceLE, Int.reduceEq, Int.reduceNeg, Int.reduceToNat, Int.reduceAdd, Int.reduceSub, hok, Bool.not_false, decide_true, ↓g_gdc, rcOk, true_and, ↓g_call _ _ c_sautoirlaw21_awake]
        refine CallK.pure pc_awake21 (aft_nil ?_)
        simp -implicitDefEqProofs -dsimp only [go_sem, Nat.reduceEqDiff, Nat.reduceAdd, Nat.reduceMul, Nat.reduceSub, Nat.reduceLT, Nat.reduceLeDiff, Nat.reduceBEq, reduceIte, reduceCtorEq, Int.reduceLT, Int.reduceLE, Int.reduceEq, Int.reduceNeg, Int.reduceToNat, Int.reduceAdd, Int.reduceSub]
        exact finL_pure rfl
      · have eg : gCode q = 0 := by unfold gCode; rw [hk]; rfl
        rw [eg]
        simp -implicitDefEqProofs -dsimp only [go_sem, Nat.reduceEqDiff, Nat.reduceAdd, Nat.reduceMul, Nat.reduceSub, Nat.reduceLT, Nat.reduceLeDiff, Nat.reduceBEq, reduceIte, reduceCtorEq, Int.reduceLT, Int.reduceLE, Int.reduceEq, Int.reduceNeg, Int.reduceToNat, Int.reduceAdd, Int.reduceSub, hk, eqAv, aggEq, scalarEq, eq_self, Bool.and_self, Bool.not_true, Bool.not_false, decide_true, decide_false, ↓g_gdc, rcOk, true_and, ↓g_call _ _ c_sautoirref21_Right]
        refine CallK.pure cR (aft_nil ?_)
        simp -implicitDefEqProofs -dsimp only [go_sem, Nat.reduceEqDiff, Nat.reduceAdd, Nat.reduceMul, Nat.reduceSub, Nat.reduceLT, Nat.reduceLeDiff, Nat.reduceBEq, reduceIte, reduceCtorEq, Int.reduceLT, Int.reduceLE, Int.reduceEq, Int.reduceNeg, Int.reduceToNat, Int.reduceAdd, Int.reduceSub, hok, Bool.not_false, decide_true, ↓g_gdc, rcOk, true_and, ↓g_call _ _ c_sautoirlaw21_awake]
        refine CallK.pure pc_awake21 (aft_nil ?_)
        simp -implicitDefEqProofs -dsimp only [go_sem, Nat.reduceEqDiff, Nat.reduceAdd, Nat.reduceMul, Nat.reduceSub, Nat.reduceLT, Nat.reduceLeDiff, Nat.reduceBEq, reduceIte, reduceCtorEq, Int.reduceLT, Int.reduceLE, Int.reduceEq, Int.reduceNeg, Int.reduceToNat, Int.reduceAdd, Int.reduceSub]
        exact finL_pure rfl
    · have eP : cPut c = .tup [.s (wr4 c), .i .i64 0] := by unfold cPut; rw [hok]; rfl
      rw [eP] at cP
      obtain ⟨r1, r2⟩ := cm_put hok he
      obtain ⟨n1, _⟩ := main (wr4 c) (wr4_len hok he)
      have r3 : cmA (wr4 c) = c := by unfold cmA; rw [r2, if_pos rfl, r1]
      have r4 : gCode (wr4 c) = 0 := by unfold gCode; rw [r2]; rfl
      rw [r3, r4] at n1
      have cQ := pc_rPut4 c hok he
      simp only [Cm.cells] at cQ
      refine CallK.pure cP (aft_nil ?_)
      simp -implicitDefEqProofs -dsimp only [go_sem, Nat.reduceEqDiff, Nat.reduceAdd, Nat.reduceMul, Nat.reduceSub, Nat.reduceLT, Nat.reduceLeDiff, Nat.reduceBEq, reduceIte, reduceCtorEq, Int.reduceLT, Int.reduceLE, Int.reduceEq, Int.reduceNeg, Int.reduceToNat, Int.reduceAdd, Int.reduceSub, ↓g_call _ _ c_order_Get]
      refine CallK.pure m1 (aft_nil ?_)
      simp -implicitDefEqProofs -dsimp only [go_sem, Nat.reduceEqDiff, Nat.reduceAdd, Nat.reduceMul, Nat.reduceSub, Nat.reduceLT, Nat.reduceLeDiff, Nat.reduceBEq, reduceIte, reduceCtorEq, Int.reduceLT, Int.reduceLE, Int.reduceEq, Int.reduceNeg, Int.reduceToNat, Int.reduceAdd, Int.reduceSub, ↓g_call _ _ c_sautoirref21_Get]
      refine CallK.pure m2 (aft_nil ?_)
      rcases hk : cmOk q with _ | _
      · have eg : gCode q = 3 := by unfold gCode; rw [hk]; rfl
        rw [eg]
        simp -implicitDefEqProofs -dsimp only [go_sem, Nat.reduceEqDiff, Nat.reduceAdd, Nat.reduceMul, Nat.reduceSub, Nat.reduceLT, Nat.reduceLeDiff, Nat.reduceBEq, reduceIte, reduceCtorEq, Int.reduceLT, Int.reduceLE, Int.reduceEq, Int.reduceNeg, Int.reduceToNat, Int.reduceAdd, Int.reduceSub, hk, eqAv, aggEq, scalarEq, eq_self, Bool.and_self, Bool.not_true, Bool.not_false, decide_true, decide_false, ↓g_gdc, rcOk, true_and, ↓g_call _ _ c_sautoirref21_Right]
        refine CallK.pure cR (aft_nil ?_)
        simp -implicitDefEqProofs -dsimp only [go_sem, Nat.reduceEqDiff, Nat.reduceAdd, Nat.reduceMul, Nat.reduceSub, Nat.reduceLT, Nat.reduceLeDiff, Nat.reduceBEq, reduceIte, reduceCtorEq, Int.reduceLT, Int.reduceLE, Int.reduceEq, Int.reduceNeg, Int.reduceToNat, Int.reduceAdd, Int.reduceSub, hok, Bool.not_true, ↓g_call _ _ c_order_Get]
        refine CallK.pure n1 (aft_nil ?_)
        simp -implicitDefEqProofs -dsimp only [go_sem, Nat.reduceEqDiff, Nat.reduceAdd, Nat.reduceMul, Nat.reduceSub, Nat.reduceLT, Nat.reduceLeDiff, Nat.reduceBEq, reduceIte, reduceCtorEq, Int.reduceLT, Int.reduceLE, Int.reduceEq, Int.reduceNeg, Int.reduceToNat, Int.reduceAdd, Int.reduceSub, decide_true, ↓g_gdc, rcOk, true_and, ↓g_call _ _ c_sautoirref21_Put]
        refine CallK.pure cQ (aft_nil ?_)
        simp -implicitDefEqProofs -dsimp only [go_sem, Nat.reduceEqDiff, Nat.reduceAdd, Nat.reduceMul, Nat.reduceSub, Nat.reduceLT, Nat.reduceLeDiff, Nat.reduceBEq, reduceIte, reduceCtorEq, Int.reduceLT, Int.reduceLE, Int.reduceEq, Int.reduceNeg, Int.reduceToNat, Int.reduceAdd, Int.reduceSub, eqAv, aggEq, scalarEq, eq_self, Bool.and_self, decide_true, ↓g_gdc, rcOk, true_and, ↓g_call _ _ c_sautoirlaw21_awake]
        refine CallK.pure pc_awake21 (aft_nil ?_)
        simp -implicitDefEqProofs -dsimp only [go_sem, Nat.reduceEqDiff, Nat.reduceAdd, Nat.reduceMul, Nat.reduceSub, Nat.reduceLT, Nat.reduceLeDiff, Nat.reduceBEq, reduceIte, reduceCtorEq, Int.reduceLT, Int.reduceLE, Int.reduceEq, Int.reduceNeg, Int.reduceToNat, Int.reduceAdd, Int.reduceSub]
        exact finL_pure rfl
      · have eg : gCode q = 0 := by unfold gCode; rw [hk]; rfl
        rw [eg]
        simp -implicitDefEqProofs -dsimp only [go_sem, Nat.reduceEqDiff, Nat.reduceAdd, Nat.reduceMul, Nat.reduceSub, Nat.reduceLT, Nat.reduceLeDiff, Nat.reduceBEq, reduceIte, reduceCtorEq, Int.reduceLT, Int.reduceLE, Int.reduceEq, Int.reduceNeg, Int.reduceToNat, Int.reduceAdd, Int.reduceSub, hk, eqAv, aggEq, scalarEq, eq_self, Bool.and_self, Bool.not_true, Bool.not_false, decide_true, decide_false, ↓g_gdc, rcOk, true_and, ↓g_call _ _ c_sautoirref21_Right]
        refine CallK.pure cR (aft_nil ?_)
        simp -implicitDefEqProofs -dsimp only [go_sem, Nat.reduceEqDiff, Nat.reduceAdd, Nat.reduceMul, Nat.reduceSub, Nat.reduceLT, Nat.reduceLeDiff, Nat.reduceBEq, reduceIte, reduceCtorEq, Int.reduceLT, Int.reduceLE, Int.reduceEq, Int.reduceNeg, Int.reduceToNat, Int.reduceAdd, Int.reduceSub, hok, Bool.not_true, ↓g_call _ _ c_order_Get]
        refine CallK.pure n1 (aft_nil ?_)
        simp -implicitDefEqProofs -dsimp only [go_sem, Nat.reduceEqDiff, Nat.reduceAdd, Nat.reduceMul, Nat.reduceSub, Nat.reduceLT, Nat.reduceLeDiff, Nat.reduceBEq, reduceIte, reduceCtorEq, Int.reduceLT, Int.reduceLE, Int.reduceEq, Int.reduceNeg, Int.reduceToNat, Int.reduceAdd, Int.reduceSub, decide_true, ↓g_gdc, rcOk, true_and, ↓g_call _ _ c_sautoirref21_Put]
        refine CallK.pure cQ (aft_nil ?_)
        simp -implicitDefEqProofs -dsimp only [go_sem, Nat.reduceEqDiff, Nat.reduceAdd, Nat.reduceMul, Nat.reduceSub, Nat.reduceLT, Nat.reduceLeDiff, Nat.reduceBEq, reduceIte, reduceCtorEq, Int.reduceLT, Int.reduceLE, Int.reduceEq, Int.reduceNeg, Int.reduceToNat, Int.reduceAdd, Int.reduceSub, eqAv, aggEq, scalarEq, eq_self, Bool.and_self, decide_true, ↓g_gdc, rcOk, true_and, ↓g_call _ _ c_sautoirlaw21_awake]
        refine CallK.pure pc_awake21 (aft_nil ?_)
        simp -implicitDefEqProofs -dsimp only [go_sem, Nat.reduceEqDiff, Nat.reduceAdd, Nat.reduceMul, Nat.reduceSub, Nat.reduceLT, Nat.reduceLeDiff, Nat.reduceBEq, reduceIte, reduceCtorEq, Int.reduceLT, Int.reduceLE, Int.reduceEq, Int.reduceNeg, Int.reduceToNat, Int.reduceAdd, Int.reduceSub]
        exact finL_pure rfl
end Go.Aw
