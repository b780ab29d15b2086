import Derived.Test.YtmkbdoamlmpaeaaDoorE12K
namespace Go.Aw
open Go
open Go.Proofs.Tryd (prog)
set_option linter.all false
set_option maxHeartbeats 4000000

theorem encEn_pos {e : En} : 0 < (encEn e).length := by have := List.length_pos_iff.2 (enc_ne e.ep.toNat); simp only [encEn, List.length_append]; omega
theorem encEn_len {e : En} (h : e.Good) : (encEn e).length ≤ 3000 := by
  obtain ⟨hep, hkd⟩ := h
  have l1 := enc_len10 (m := e.ep.toNat) (by omega)
  have l2 := enc_len10 (m := e.kd.toNat) (by omega)
  rcases hkd with ⟨h3, h4, h5, h6, h7, h8⟩ | ⟨h3, h4, h5, h6, h7⟩
  · have := encTx_len h4
    simp only [encEn, h3, if_true, List.length_append]
    rw [h3] at l2; omega
  · have l3 := enc_len10 (m := e.cl.toNat) (by omega)
    have l4 := enc_len10 (m := e.sq.toNat) (by omega)
    have l5 := enc_len10 (m := e.co.toNat) (by omega)
    simp only [encEn, h3, if_neg (show ¬ ((2 : Int) = 1) by decide), List.length_append]
    rw [h3] at l2; omega

theorem pc_EntryPut (e : En) (k1 k2 : Option Nat) (hf : e.t.Wide) (h01 : 0 ≤ e.t.sq) (h02 : 0 ≤ e.sq) (hr : e.our.Rng) : PCalls prog f_sautoirlaw12_EntryPut [.agg (e.cells k1 k2)] (.b true) := by
  refine pcalls_of mixed t_sautoirlaw12_EntryPut (by simp) fun T => ?_
  have c1 := pc_Ours12 e k1 k2 hf
  have c2 := pc_Plain12 e.our none none hf.our
  have c6 := pc_rEnRight e.our none none hf.our h01 h02
  have cP := pc_ePut e.our none none hf.our hr
  simp only [Tx.cells, En.cells] at c1 c2 c6 cP
  unfold s_sautoirlaw12_EntryPut
  simp -implicitDefEqProofs -dsimp only [go_sem, Nat.reduceEqDiff, Nat.reduceAdd, Nat.reduceMul, Nat.reduceSub, Nat.reduceLT, Nat.reduceLeDiff, Nat.reduceBEq, reduceIte, reduceCtorEq, Int.reduceLT, Int.reduceLE, Int.reduceEq, Int.reduceNeg, Int.reduceToNat, Int.reduceAdd, Int.reduceSub, En.cells, ↓g_call _ _ c_sautoirlaw12_Ours]
  refine CallK.pure c1 (aft_nil ?_)
  simp -implicitDefEqProofs -dsimp only [go_sem, Nat.reduceEqDiff, Nat.reduceAdd, Nat.reduceMul, Nat.reduceSub, Nat.reduceLT, Nat.reduceLeDiff, Nat.reduceBEq, reduceIte, reduceCtorEq, Int.reduceLT, Int.reduceLE, Int.reduceEq, Int.reduceNeg, Int.reduceToNat, Int.reduceAdd, Int.reduceSub, ↓g_call _ _ c_sautoirlaw12_Plain]
  refine CallK.pure c2 (aft_nil ?_)
  simp -implicitDefEqProofs -dsimp only [go_sem, Nat.reduceEqDiff, Nat.reduceAdd, Nat.reduceMul, Nat.reduceSub, Nat.reduceLT, Nat.reduceLeDiff, Nat.reduceBEq, reduceIte, reduceCtorEq, Int.reduceLT, Int.reduceLE, Int.reduceEq, Int.reduceNeg, Int.reduceToNat, Int.reduceAdd, Int.reduceSub, ↓g_call _ _ c_entry_Put]
  refine CallK.pure cP (aft_nil ?_)
  rcases hok : enOk e.our with _ | _
  · simp -implicitDefEqProofs -dsimp only [go_sem, Nat.reduceEqDiff, Nat.reduceAdd, Nat.reduceMul, Nat.reduceSub, Nat.reduceLT, Nat.reduceLeDiff, Nat.reduceBEq, reduceIte, reduceCtorEq, Int.reduceLT, Int.reduceLE, Int.reduceEq, Int.reduceNeg, Int.reduceToNat, Int.reduceAdd, Int.reduceSub, hok, ↓g_call _ _ c_sautoirref12_Right]
    refine CallK.pure c6 (aft_nil ?_)
    simp -implicitDefEqProofs -dsimp only [go_sem, Nat.reduceEqDiff, Nat.reduceAdd, Nat.reduceMul, Nat.reduceSub, Nat.reduceLT, Nat.reduceLeDiff, Nat.reduceBEq, reduceIte, reduceCtorEq, Int.reduceLT, Int.reduceLE, Int.reduceEq, Int.reduceNeg, Int.reduceToNat, Int.reduceAdd, Int.reduceSub, hok, decide_true, show ((0 : Nat) : Int) = 0 from rfl, ↓g_gdc, rcOk, true_and, ↓g_call _ _ c_sautoirlaw12_awake]
    refine CallK.pure pc_awake12 (aft_nil ?_)
    simp -implicitDefEqProofs -dsimp only [go_sem, Nat.reduceEqDiff, Nat.reduceAdd, Nat.reduceMul, Nat.reduceSub, Nat.reduceLT, Nat.reduceLeDiff, Nat.reduceBEq, reduceIte, reduceCtorEq, Int.reduceLT, Int.reduceLE, Int.reduceEq, Int.reduceNeg, Int.reduceToNat, Int.reduceAdd, Int.reduceSub]
    exact finL_pure rfl
  have hg := En.good_of hok hr
  have hl := encEn_len hg
  obtain ⟨r1, r2⟩ := rEnOk_put hg
  have r3 : rEnErr (encEn e.our, false) = none := by simp [rEnErr, r1]
  have cG := pc_Get (encEn e.our) none (by omega)
  rw [r2, r3] at cG
  have cR := ac_rePut e.our none none hg T
  have cS := pc_eSame_refl e.our none none none none hf.our
  have cS2 := pc_rSame_refl e.our none none none none hf.our
  simp only [En.cells, erCode] at cG cR cS cS2
  simp -implicitDefEqProofs -dsimp only [go_sem, Nat.reduceEqDiff, Nat.reduceAdd, Nat.reduceMul, Nat.reduceSub, Nat.reduceLT, Nat.reduceLeDiff, Nat.reduceBEq, reduceIte, reduceCtorEq, Int.reduceLT, Int.reduceLE, Int.reduceEq, Int.reduceNeg, Int.reduceToNat, Int.reduceAdd, Int.reduceSub, hok, bts, ↓g_call _ _ c_sautoirref12_Right]
  refine CallK.pure c6 (aft_nil ?_)
  simp -implicitDefEqProofs -dsimp only [go_sem, Nat.reduceEqDiff, Nat.reduceAdd, Nat.reduceMul, Nat.reduceSub, Nat.reduceLT, Nat.reduceLeDiff, Nat.reduceBEq, reduceIte, reduceCtorEq, Int.reduceLT, Int.reduceLE, Int.reduceEq, Int.reduceNeg, Int.reduceToNat, Int.reduceAdd, Int.reduceSub, hok, ↓g_call _ _ c_entry_Get]
  refine CallK.pure cG (aft_nil ?_)
  simp -implicitDefEqProofs -dsimp only [go_sem, Nat.reduceEqDiff, Nat.reduceAdd, Nat.reduceMul, Nat.reduceSub, Nat.reduceLT, Nat.reduceLeDiff, Nat.reduceBEq, reduceIte, reduceCtorEq, Int.reduceLT, Int.reduceLE, Int.reduceEq, Int.reduceNeg, Int.reduceToNat, Int.reduceAdd, Int.reduceSub, bytesAv_cells, byteCells_length, decide_true, ↓g_gdc, rcOk, gvev, gdd, true_and, ↓g_call _ _ c_sautoirref12_Put]
  refine CallK.as cR (aft_rc (fun _ => ?_) ?_)
  · simp -implicitDefEqProofs -dsimp only [go_sem, Nat.reduceEqDiff, Nat.reduceAdd, Nat.reduceMul, Nat.reduceSub, Nat.reduceLT, Nat.reduceLeDiff, Nat.reduceBEq, reduceIte, reduceCtorEq, Int.reduceLT, Int.reduceLE, Int.reduceEq, Int.reduceNeg, Int.reduceToNat, Int.reduceAdd, Int.reduceSub, rcOk, gvev, gdd, bytesAv_cells, byteCells_length]
  simp -implicitDefEqProofs -dsimp only [go_sem, Nat.reduceEqDiff, Nat.reduceAdd, Nat.reduceMul, Nat.reduceSub, Nat.reduceLT, Nat.reduceLeDiff, Nat.reduceBEq, reduceIte, reduceCtorEq, Int.reduceLT, Int.reduceLE, Int.reduceEq, Int.reduceNeg, Int.reduceToNat, Int.reduceAdd, Int.reduceSub, bts, bytesAv_cells, byteCells_length, decide_true, ↓g_gdc, rcOk, gvev, gdd, true_and, ↓g_call _ _ c_entry_Same]
  refine CallK.pure cS (aft_nil ?_)
  simp -implicitDefEqProofs -dsimp only [go_sem, Nat.reduceEqDiff, Nat.reduceAdd, Nat.reduceMul, Nat.reduceSub, Nat.reduceLT, Nat.reduceLeDiff, Nat.reduceBEq, reduceIte, reduceCtorEq, Int.reduceLT, Int.reduceLE, Int.reduceEq, Int.reduceNeg, Int.reduceToNat, Int.reduceAdd, Int.reduceSub, ↓g_gdc, rcOk, true_and, ↓g_call _ _ c_sautoirlaw12_Plain]
  refine CallK.pure c2 (aft_nil ?_)
  simp -implicitDefEqProofs -dsimp only [go_sem, Nat.reduceEqDiff, Nat.reduceAdd, Nat.reduceMul, Nat.reduceSub, Nat.reduceLT, Nat.reduceLeDiff, Nat.reduceBEq, reduceIte, reduceCtorEq, Int.reduceLT, Int.reduceLE, Int.reduceEq, Int.reduceNeg, Int.reduceToNat, Int.reduceAdd, Int.reduceSub, ↓g_gdc, rcOk, true_and, ↓g_call _ _ c_sautoirref12_Same]
  refine CallK.pure cS2 (aft_nil ?_)
  simp -implicitDefEqProofs -dsimp only [go_sem, Nat.reduceEqDiff, Nat.reduceAdd, Nat.reduceMul, Nat.reduceSub, Nat.reduceLT, Nat.reduceLeDiff, Nat.reduceBEq, reduceIte, reduceCtorEq, Int.reduceLT, Int.reduceLE, Int.reduceEq, Int.reduceNeg, Int.reduceToNat, Int.reduceAdd, Int.reduceSub, ↓g_gdc, rcOk, true_and, ↓g_call _ _ c_sautoirlaw12_awake]
  refine CallK.pure pc_awake12 (aft_nil ?_)
  simp -implicitDefEqProofs -dsimp only [go_sem, Nat.reduceEqDiff, Nat.reduceAdd, Nat.reduceMul, Nat.reduceSub, Nat.reduceLT, Nat.reduceLeDiff, Nat.reduceBEq, reduceIte, reduceCtorEq, Int.reduceLT, Int.reduceLE, Int.reduceEq, Int.reduceNeg, Int.reduceToNat, Int.reduceAdd, Int.reduceSub]
  exact finL_pure rfl

theorem rEn_sq (s : RS) : 0 ≤ (rEn s).1.t.sq ∧ 0 ≤ (rEn s).1.sq := by
  unfold rEn
  simp only
  split
  · refine ⟨?_, by simp⟩
    simp only [rTxAns]
    split
    · show (0 : Int) ≤ ((rID _).1.2 : Nat); omega
    · show (0 : Int) ≤ 0; decide
  · split
    · exact ⟨by show (0 : Int) ≤ 0; decide, by simp⟩
    · exact ⟨by show (0 : Int) ≤ 0; decide, by simp⟩

theorem pc_EntryGet (b : List UInt8) (cb : Option Nat) (hb : Len b.length) : PCalls prog f_sautoirlaw12_EntryGet [bts b cb] (.b true) := by
  refine pcalls_of mixed t_sautoirlaw12_EntryGet (by simp) fun T => ?_
  unfold s_sautoirlaw12_EntryGet
  rcases hlen : decide ((400 : Int) < (b.length : Int)) with _ | _
  case' false =>
    have hd : b.length ≤ 400 := by have := of_decide_eq_false hlen; omega
    simp -implicitDefEqProofs -dsimp only [go_sem, Nat.reduceEqDiff, Nat.reduceAdd, Nat.reduceMul, Nat.reduceSub, Nat.reduceLT, Nat.reduceLeDiff, Nat.reduceBEq, reduceIte, reduceCtorEq, Int.reduceLT, Int.reduceLE, Int.reduceEq, Int.reduceNeg, Int.reduceToNat, Int.reduceAdd, Int.reduceSub, bts, hlen, ↓g_call _ _ c_entry_Get]
    rw [show AV.fz b.length (byteCells b) cb = bts b cb from rfl]
    clear hb hlen
    generalize cb = q
    generalize b = d at hd
  case' true =>
    have hd0 : 400 ≤ b.length := by have := of_decide_eq_true hlen; omega
    have hd1 : (b.take 400).length = 400 := by rw [List.length_take]; omega
    have hd : (b.take 400).length ≤ 400 := by omega
    simp -implicitDefEqProofs -dsimp only [go_sem, Nat.reduceEqDiff, Nat.reduceAdd, Nat.reduceMul, Nat.reduceSub, Nat.reduceLT, Nat.reduceLeDiff, Nat.reduceBEq, reduceIte, reduceCtorEq, Int.reduceLT, Int.reduceLE, Int.reduceEq, Int.reduceNeg, Int.reduceToNat, Int.reduceAdd, Int.reduceSub, bts, hlen, show (400 : Int).toNat = 400 from rfl, hd0, Nat.zero_le, ↓g_call _ _ c_entry_Get]
    rw [byteCells_take, fz_bts hd1]
    clear hb hlen hd0 hd1
    generalize b.take 400 = d at hd
  all_goals
    have cG := pc_Get d
    simp only [En.cells] at cG
    refine CallK.pure (cG _ (by omega)) (aft_nil ?_)
    rcases hk : rEnOk (d, false) with _ | _
    · have e1 : rEnAns (d, false) = zeroEn := by simp [rEnAns, hk]
      have e2 : erCode (rEnErr (d, false)) = 3 := by
        unfold rEnErr; rw [hk]
        cases rEnTx (d, false) <;> rfl
      have cS := pc_eSame_refl zeroEn none none (some 0) (some 0) ⟨by decide, by decide, fun r hr => (by cases hr), fun r hr => (by cases hr), fun r hr => (by cases hr)⟩
      simp only [En.cells, zeroEn, zeroTx, List.length_nil, List.flatMap_nil] at cS
      simp -implicitDefEqProofs -dsimp only [go_sem, Nat.reduceEqDiff, Nat.reduceAdd, Nat.reduceMul, Nat.reduceSub, Nat.reduceLT, Nat.reduceLeDiff, Nat.reduceBEq, reduceIte, reduceCtorEq, Int.reduceLT, Int.reduceLE, Int.reduceEq, Int.reduceNeg, Int.reduceToNat, Int.reduceAdd, Int.reduceSub, e1, e2, zeroEn, zeroTx, decide_true, decide_false, ↓g_gdc, rcOk, gvev, gdd, true_and, ↓g_call _ _ c_entry_Same]
      refine CallK.pure cS (aft_nil ?_)
      simp -implicitDefEqProofs -dsimp only [go_sem, Nat.reduceEqDiff, Nat.reduceAdd, Nat.reduceMul, Nat.reduceSub, Nat.reduceLT, Nat.reduceLeDiff, Nat.reduceBEq, reduceIte, reduceCtorEq, Int.reduceLT, Int.reduceLE, Int.reduceEq, Int.reduceNeg, Int.reduceToNat, Int.reduceAdd, Int.reduceSub, ↓g_gdc, rcOk, true_and, ↓g_call _ _ c_sautoirlaw12_awake]
      refine CallK.pure pc_awake12 (aft_nil ?_)
      simp -implicitDefEqProofs -dsimp only [go_sem, Nat.reduceEqDiff, Nat.reduceAdd, Nat.reduceMul, Nat.reduceSub, Nat.reduceLT, Nat.reduceLeDiff, Nat.reduceBEq, reduceIte, reduceCtorEq, Int.reduceLT, Int.reduceLE, Int.reduceEq, Int.reduceNeg, Int.reduceToNat, Int.reduceAdd, Int.reduceSub]
      exact finL_pure rfl
    · have e1 : rEnAns (d, false) = (rEn (d, false)).1 := by simp [rEnAns, hk]
      have e2 : erCode (rEnErr (d, false)) = 0 := by simp [rEnErr, hk, erCode]
      obtain ⟨hg, hinv⟩ := rEn_inv hk
      have hfi := rEn_fine (d, false)
      have hsq := rEn_sq (d, false)
      generalize (rEn (d, false)).1 = x at *
      have c2 := pc_Plain12 x none none hfi
      have c6 := pc_rEnRight x none none hfi hsq.1 hsq.2
      rw [hg.ok] at c6
      have cR := ac_rePut x none none hg T
      simp only [En.cells] at c2 c6 cR
      simp -implicitDefEqProofs -dsimp only [go_sem, Nat.reduceEqDiff, Nat.reduceAdd, Nat.reduceMul, Nat.reduceSub, Nat.reduceLT, Nat.reduceLeDiff, Nat.reduceBEq, reduceIte, reduceCtorEq, Int.reduceLT, Int.reduceLE, Int.reduceEq, Int.reduceNeg, Int.reduceToNat, Int.reduceAdd, Int.reduceSub, e1, e2, decide_true, decide_false, ↓g_gdc, rcOk, gvev, gdd, true_and, ↓g_call _ _ c_sautoirlaw12_Plain]
      refine CallK.pure c2 (aft_nil ?_)
      simp -implicitDefEqProofs -dsimp only [go_sem, Nat.reduceEqDiff, Nat.reduceAdd, Nat.reduceMul, Nat.reduceSub, Nat.reduceLT, Nat.reduceLeDiff, Nat.reduceBEq, reduceIte, reduceCtorEq, Int.reduceLT, Int.reduceLE, Int.reduceEq, Int.reduceNeg, Int.reduceToNat, Int.reduceAdd, Int.reduceSub, ↓g_gdc, rcOk, true_and, ↓g_call _ _ c_sautoirref12_Right]
      refine CallK.pure c6 (aft_nil ?_)
      simp -implicitDefEqProofs -dsimp only [go_sem, Nat.reduceEqDiff, Nat.reduceAdd, Nat.reduceMul, Nat.reduceSub, Nat.reduceLT, Nat.reduceLeDiff, Nat.reduceBEq, reduceIte, reduceCtorEq, Int.reduceLT, Int.reduceLE, Int.reduceEq, Int.reduceNeg, Int.reduceToNat, Int.reduceAdd, Int.reduceSub, bts, bytesAv_cells, byteCells_length, decide_true, ↓g_gdc, rcOk, gvev, gdd, true_and, ↓g_call _ _ c_sautoirlaw12_Plain]
      refine CallK.pure c2 (aft_rc (fun _ => ?_) ?_)
      · simp -implicitDefEqProofs -dsimp only [go_sem, Nat.reduceEqDiff, Nat.reduceAdd, Nat.reduceMul, Nat.reduceSub, Nat.reduceLT, Nat.reduceLeDiff, Nat.reduceBEq, reduceIte, reduceCtorEq, Int.reduceLT, Int.reduceLE, Int.reduceEq, Int.reduceNeg, Int.reduceToNat, Int.reduceAdd, Int.reduceSub, rcOk, gvev, gdd, bytesAv_cells, byteCells_length]
      simp -implicitDefEqProofs -dsimp only [go_sem, Nat.reduceEqDiff, Nat.reduceAdd, Nat.reduceMul, Nat.reduceSub, Nat.reduceLT, Nat.reduceLeDiff, Nat.reduceBEq, reduceIte, reduceCtorEq, Int.reduceLT, Int.reduceLE, Int.reduceEq, Int.reduceNeg, Int.reduceToNat, Int.reduceAdd, Int.reduceSub, bytesAv_cells, byteCells_length, decide_true, ↓g_gdc, rcOk, gvev, gdd, true_and, ↓g_call _ _ c_sautoirref12_Put]
      refine CallK.as cR (aft_rc (fun _ => ?_) ?_)
      · simp -implicitDefEqProofs -dsimp only [go_sem, Nat.reduceEqDiff, Nat.reduceAdd, Nat.reduceMul, Nat.reduceSub, Nat.reduceLT, Nat.reduceLeDiff, Nat.reduceBEq, reduceIte, reduceCtorEq, Int.reduceLT, Int.reduceLE, Int.reduceEq, Int.reduceNeg, Int.reduceToNat, Int.reduceAdd, Int.reduceSub, rcOk, gvev, gdd, bytesAv_cells, byteCells_length]
      simp -implicitDefEqProofs -dsimp only [go_sem, Nat.reduceEqDiff, Nat.reduceAdd, Nat.reduceMul, Nat.reduceSub, Nat.reduceLT, Nat.reduceLeDiff, Nat.reduceBEq, reduceIte, reduceCtorEq, Int.reduceLT, Int.reduceLE, Int.reduceEq, Int.reduceNeg, Int.reduceToNat, Int.reduceAdd, Int.reduceSub, bts, bytesAv_cells, byteCells_length, ← hinv, decide_true, ↓g_gdc, rcOk, gvev, gdd, true_and, ↓g_call _ _ c_sautoirlaw12_awake]
      refine CallK.pure pc_awake12 (aft_nil ?_)
      simp -implicitDefEqProofs -dsimp only [go_sem, Nat.reduceEqDiff, Nat.reduceAdd, Nat.reduceMul, Nat.reduceSub, Nat.reduceLT, Nat.reduceLeDiff, Nat.reduceBEq, reduceIte, reduceCtorEq, Int.reduceLT, Int.reduceLE, Int.reduceEq, Int.reduceNeg, Int.reduceToNat, Int.reduceAdd, Int.reduceSub]
      exact finL_pure rfl
end Go.Aw
