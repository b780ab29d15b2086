import Derived.Test.YtmkbdoamlmpaeaaDoorE12G
import Derived.Test.YtmkbdoamlmpaeaaDoorE12I
namespace Go.Aw
open Go
open Go.Proofs.Tryd (prog)
set_option linter.all false
set_option maxHeartbeats 4000000

theorem encTx_len' {t : Tx} (h : t.Good) : (encTx t).length ≤ 2000 := encTx_len h
theorem pc_ePut (e : En) (k1 k2 : Option Nat) (hf : e.t.Fine) (hr : e.Rng) : PCalls prog f_entry_Put [.agg (e.cells k1 k2)] (if enOk e = true then .tup [bts (encEn e) none, .i .i64 0] else .tup [.fz 0 [] (some 0), .i .i64 1]) := by
  refine pcalls_of mixed t_entry_Put (by simp) fun T => ?_
  have h := pc_enRight e k1 k2 hf
  simp only [En.cells] at h
  unfold s_entry_Put
  simp -implicitDefEqProofs -dsimp only [go_sem, Nat.reduceEqDiff, Nat.reduceAdd, Nat.reduceMul, Nat.reduceSub, Nat.reduceLT, Nat.reduceLeDiff, Nat.reduceBEq, reduceIte, reduceCtorEq, Int.reduceLT, Int.reduceLE, Int.reduceEq, Int.reduceNeg, Int.reduceToNat, Int.reduceAdd, Int.reduceSub, En.cells, ↓g_call _ _ c_entry_Right]
  refine CallK.pure h (aft_nil ?_)
  rcases hok : enOk e with _ | _
  · simp -implicitDefEqProofs -dsimp only [go_sem, Nat.reduceEqDiff, Nat.reduceAdd, Nat.reduceMul, Nat.reduceSub, Nat.reduceLT, Nat.reduceLeDiff, Nat.reduceBEq, reduceIte, reduceCtorEq, Int.reduceLT, Int.reduceLE, Int.reduceEq, Int.reduceNeg, Int.reduceToNat, Int.reduceAdd, Int.reduceSub, hok]
    exact finL_pure rfl
  obtain ⟨hep, hkd⟩ := En.good_of hok hr
  obtain ⟨ep, hepm⟩ := Int.eq_ofNat_of_zero_le (show 0 ≤ e.ep by omega)
  have l1 := enc_len10 (m := ep) (by omega)
  rcases hkd with ⟨h3, h4, h5, h6, h7, h8⟩ | ⟨h3, h4, h5, h6, h7⟩
  · have u1 : IntKind.u64.wrap 1 = ((1 : Nat) : Int) := by decide +kernel
    have l2 := enc_len10 (m := 1) (by omega)
    have c := pc_tBytes e.t k1 k2 ([] ++ enc ep ++ enc 1) none h4 (by simp; omega)
    simp only [Tx.cells] at c
    simp -implicitDefEqProofs -dsimp only [go_sem, Nat.reduceEqDiff, Nat.reduceAdd, Nat.reduceMul, Nat.reduceSub, Nat.reduceLT, Nat.reduceLeDiff, Nat.reduceBEq, reduceIte, reduceCtorEq, Int.reduceLT, Int.reduceLE, Int.reduceEq, Int.reduceNeg, Int.reduceToNat, Int.reduceAdd, Int.reduceSub, hok, hepm, h3, u1, ↓g_call _ _ c_octet_Put]
    refine CallK.pure (pc_oPut [] (some 0) ep (by decide) (by omega)) (aft_nil ?_)
    simp -implicitDefEqProofs -dsimp only [go_sem, Nat.reduceEqDiff, Nat.reduceAdd, Nat.reduceMul, Nat.reduceSub, Nat.reduceLT, Nat.reduceLeDiff, Nat.reduceBEq, reduceIte, reduceCtorEq, Int.reduceLT, Int.reduceLE, Int.reduceEq, Int.reduceNeg, Int.reduceToNat, Int.reduceAdd, Int.reduceSub, ↓g_call _ _ c_octet_Put]
    refine CallK.pure (pc_oPut ([] ++ enc ep) none 1 (by simp; omega) (by omega)) (aft_nil ?_)
    simp -implicitDefEqProofs -dsimp only [go_sem, Nat.reduceEqDiff, Nat.reduceAdd, Nat.reduceMul, Nat.reduceSub, Nat.reduceLT, Nat.reduceLeDiff, Nat.reduceBEq, reduceIte, reduceCtorEq, Int.reduceLT, Int.reduceLE, Int.reduceEq, Int.reduceNeg, Int.reduceToNat, Int.reduceAdd, Int.reduceSub, decide_true, ↓g_call _ _ c_entry_Txn_Bytes]
    refine CallK.pure c (aft_nil ?_)
    simp -implicitDefEqProofs -dsimp only [go_sem, Nat.reduceEqDiff, Nat.reduceAdd, Nat.reduceMul, Nat.reduceSub, Nat.reduceLT, Nat.reduceLeDiff, Nat.reduceBEq, reduceIte, reduceCtorEq, Int.reduceLT, Int.reduceLE, Int.reduceEq, Int.reduceNeg, Int.reduceToNat, Int.reduceAdd, Int.reduceSub]
    have e1 : [] ++ enc ep ++ enc 1 ++ encTx e.t = encEn e := by simp [encEn, h3, hepm]
    refine finL_pure ?_
    rw [← e1]; simp
  · have u1 : IntKind.u64.wrap 2 = ((2 : Nat) : Int) := by decide +kernel
    obtain ⟨cl, hcl⟩ := Int.eq_ofNat_of_zero_le h5.1
    obtain ⟨sq, hsq⟩ := Int.eq_ofNat_of_zero_le (show 0 ≤ e.sq by omega)
    obtain ⟨co, hco⟩ := Int.eq_ofNat_of_zero_le (show 0 ≤ e.co by omega)
    have l2 := enc_len10 (m := 2) (by omega)
    have l3 := enc_len10 (m := cl) (by omega)
    have l4 := enc_len10 (m := sq) (by omega)
    simp -implicitDefEqProofs -dsimp only [go_sem, Nat.reduceEqDiff, Nat.reduceAdd, Nat.reduceMul, Nat.reduceSub, Nat.reduceLT, Nat.reduceLeDiff, Nat.reduceBEq, reduceIte, reduceCtorEq, Int.reduceLT, Int.reduceLE, Int.reduceEq, Int.reduceNeg, Int.reduceToNat, Int.reduceAdd, Int.reduceSub, hok, hepm, h3, u1, ↓g_call _ _ c_octet_Put]
    refine CallK.pure (pc_oPut [] (some 0) ep (by decide) (by omega)) (aft_nil ?_)
    simp -implicitDefEqProofs -dsimp only [go_sem, Nat.reduceEqDiff, Nat.reduceAdd, Nat.reduceMul, Nat.reduceSub, Nat.reduceLT, Nat.reduceLeDiff, Nat.reduceBEq, reduceIte, reduceCtorEq, Int.reduceLT, Int.reduceLE, Int.reduceEq, Int.reduceNeg, Int.reduceToNat, Int.reduceAdd, Int.reduceSub, ↓g_call _ _ c_octet_Put]
    refine CallK.pure (pc_oPut ([] ++ enc ep) none 2 (by simp; omega) (by omega)) (aft_nil ?_)
    simp -implicitDefEqProofs -dsimp only [go_sem, Nat.reduceEqDiff, Nat.reduceAdd, Nat.reduceMul, Nat.reduceSub, Nat.reduceLT, Nat.reduceLeDiff, Nat.reduceBEq, reduceIte, reduceCtorEq, Int.reduceLT, Int.reduceLE, Int.reduceEq, Int.reduceNeg, Int.reduceToNat, Int.reduceAdd, Int.reduceSub, decide_false, hcl, hsq, hco, wrap_u64n (n := co) (by omega), ↓g_call _ _ c_entry_putID]
    refine CallK.pure (pc_putID ([] ++ enc ep ++ enc 2) none cl sq (by simp; omega) (by omega) (by omega)) (aft_nil ?_)
    simp -implicitDefEqProofs -dsimp only [go_sem, Nat.reduceEqDiff, Nat.reduceAdd, Nat.reduceMul, Nat.reduceSub, Nat.reduceLT, Nat.reduceLeDiff, Nat.reduceBEq, reduceIte, reduceCtorEq, Int.reduceLT, Int.reduceLE, Int.reduceEq, Int.reduceNeg, Int.reduceToNat, Int.reduceAdd, Int.reduceSub, ↓g_call _ _ c_octet_Put]
    refine CallK.pure (pc_oPut _ none co (by simp; omega) (by omega)) (aft_nil ?_)
    simp -implicitDefEqProofs -dsimp only [go_sem, Nat.reduceEqDiff, Nat.reduceAdd, Nat.reduceMul, Nat.reduceSub, Nat.reduceLT, Nat.reduceLeDiff, Nat.reduceBEq, reduceIte, reduceCtorEq, Int.reduceLT, Int.reduceLE, Int.reduceEq, Int.reduceNeg, Int.reduceToNat, Int.reduceAdd, Int.reduceSub]
    have e1 : [] ++ enc ep ++ enc 2 ++ enc cl ++ enc sq ++ enc co = encEn e := by simp [encEn, h3, hepm, hcl, hsq, hco]
    refine finL_pure ?_
    rw [← e1]; simp

theorem rEn_fine (s : RS) : (rEn s).1.t.Fine := by
  have hz : zeroTx.Fine := ⟨by decide, by decide, fun r hr => (by cases hr), fun r hr => (by cases hr), fun r hr => (by cases hr)⟩
  unfold rEn
  simp only
  split
  · simp only [rTxAns]
    split
    · exact rTx_fine _
    · exact hz
  · split <;> exact hz
theorem rEn_len (s : RS) : (rEn s).2.1.length ≤ s.1.length := by
  have h1 := rMost_len 18446744073709551615 s
  have h2 := rMost_len 2 (rMost 18446744073709551615 s).2
  unfold rEn
  simp only
  split
  · have : (rTx (rMost 2 (rMost 18446744073709551615 s).2).2).2.1.length ≤ (rMost 2 (rMost 18446744073709551615 s).2).2.1.length :=
      Nat.le_trans (rList_len rWt_len _ _) (Nat.le_trans (rMost_len _ _) (Nat.le_trans (rList_len rRd_len _ _) (Nat.le_trans (rMost_len _ _) (Nat.le_trans (rMost_len _ _) (rID_len _)))))
    simp only; omega
  · split
    · have h3 := rMost_len 99 (rID (rMost 2 (rMost 18446744073709551615 s).2).2).2
      have h4 := rID_len (rMost 2 (rMost 18446744073709551615 s).2).2
      simp only; omega
    · simp only; omega

theorem pc_get (b : List UInt8) (c : Option Nat) (hb : b.length ≤ 1000000000) : PCalls prog f_entry_get [bts b c] (.tup [.agg ((rEnAns (b, false)).cells none none), erAv (rEnErr (b, false))]) := by
  refine pcalls_of mixed t_entry_get (by simp) fun T => ?_
  have hl : Len b.length := by unfold Len; omega
  have l1 := len_le (rMost_len 18446744073709551615 (b, false)) hl
  have l2 := len_le (rMost_len 2 _) l1
  have b1 := rMost_le 2 (rMost 18446744073709551615 (b, false)).2
  unfold s_entry_get
  simp -implicitDefEqProofs -dsimp only [go_sem, Nat.reduceEqDiff, Nat.reduceAdd, Nat.reduceMul, Nat.reduceSub, Nat.reduceLT, Nat.reduceLeDiff, Nat.reduceBEq, reduceIte, reduceCtorEq, Int.reduceLT, Int.reduceLE, Int.reduceEq, Int.reduceNeg, Int.reduceToNat, Int.reduceAdd, Int.reduceSub, ↓g_call _ _ c_octet_New]
  refine CallK.of (ac_New b c hb) (fun v T1 h => aft_nil ?_)
  obtain ⟨id, rfl, hid, rfl⟩ := h
  have hT : ∀ s, TabLe T (rT T id s) := fun s => (TabLe.refl T).put hid
  simp -implicitDefEqProofs -dsimp only [go_sem, Nat.reduceEqDiff, Nat.reduceAdd, Nat.reduceMul, Nat.reduceSub, Nat.reduceLT, Nat.reduceLeDiff, Nat.reduceBEq, reduceIte, reduceCtorEq, Int.reduceLT, Int.reduceLE, Int.reduceEq, Int.reduceNeg, Int.reduceToNat, Int.reduceAdd, Int.reduceSub, ↓g_call _ _ c_octet_Reader_N]
  refine CallK.as (at_N rT_row hl) (aft_nil ?_)
  simp -implicitDefEqProofs -dsimp only [go_sem, Nat.reduceEqDiff, Nat.reduceAdd, Nat.reduceMul, Nat.reduceSub, Nat.reduceLT, Nat.reduceLeDiff, Nat.reduceBEq, reduceIte, reduceCtorEq, Int.reduceLT, Int.reduceLE, Int.reduceEq, Int.reduceNeg, Int.reduceToNat, Int.reduceAdd, Int.reduceSub, rT_rT, ↓g_call _ _ c_octet_Reader_Int]
  refine CallK.as (at_Int rT_row 2 (by decide) l1) (aft_nil ?_)
  have endOk : rEnOk (b, false) = true → ∀ s, finL (.tup [.agg ((rEn (b, false)).1.cells none none), .nilifc]) (fun v T' => v = .tup [.agg ((rEnAns (b, false)).cells none none), erAv (rEnErr (b, false))] ∧ T' = T) (rT T id s) := fun h s => by
    have e1 : rEnAns (b, false) = (rEn (b, false)).1 := by simp [rEnAns, h]
    have e2 : rEnErr (b, false) = none := by simp [rEnErr, h]
    rw [e1, e2]; exact (hT s).fin
  have endErr : rEnOk (b, false) = false → ∀ s, finL (.tup [.agg [.i .u64 0, .i .i64 0, .i .i64 0, .i .u64 0, .b false, .fz 0 [] (some 0), .fz 0 [] (some 0), .i .i64 0, .i .u64 0, .i .i64 0], erAv (rEnErr (b, false))]) (fun v T' => v = .tup [.agg ((rEnAns (b, false)).cells none none), erAv (rEnErr (b, false))] ∧ T' = T) (rT T id s) := fun h s => by
    have e1 : rEnAns (b, false) = zeroEn := by simp [rEnAns, h]
    rw [e1]
    refine ⟨[], T, _, by simp, by simp, hT s, ?_, rfl, rfl⟩
    rw [frzt_nil]
    exact Wk.tup ⟨Wk.agg ⟨.refl _, .refl _, .refl _, .refl _, .refl _, .fz, .fz, .refl _, .refl _, .refl _, trivial⟩, .refl _, trivial⟩
  have hrt := rEn_rng (b, false)
  have hfine := rEn_fine (b, false)
  have d1 : decide (((rMost 2 (rMost 18446744073709551615 (b, false)).2).1 : Int) = 1) = decide ((rMost 2 (rMost 18446744073709551615 (b, false)).2).1 = 1) := decide_eq_decide.2 (by omega)
  have d2 : decide (((rMost 2 (rMost 18446744073709551615 (b, false)).2).1 : Int) = 2) = decide ((rMost 2 (rMost 18446744073709551615 (b, false)).2).1 = 2) := decide_eq_decide.2 (by omega)
  have cN := pc_fNew [101, 110, 116, 114, 121] 3
  rw [if_neg (by decide)] at cN
  have hrT := fun (T : Tab) (id : Nat) (s s' : RS) => rT_rT (T := T) (id := id) (s := s) (s' := s')
  generalize hA : rMost 18446744073709551615 (b, false) = a at *
  generalize hK : rMost 2 a.2 = k at *
  -- behind the entry's parts
  have tail : ∀ (x : En) (st : RS) (k1 k2 : Option Nat), rEn (b, false) = (x, st) → rEnTx (b, false) = true → True := fun _ _ _ _ _ _ => trivial
  rcases h1 : decide (k.1 = 1) with _ | _
  case true =>
    have h1' := of_decide_eq_true h1
    have cR := ac_readTxn (rT_row (T := T) (id := id) (s := k.2)) l2
    simp only [Tx.cells] at cR
    simp -implicitDefEqProofs -dsimp only [go_sem, Nat.reduceEqDiff, Nat.reduceAdd, Nat.reduceMul, Nat.reduceSub, Nat.reduceLT, Nat.reduceLeDiff, Nat.reduceBEq, reduceIte, reduceCtorEq, Int.reduceLT, Int.reduceLE, Int.reduceEq, Int.reduceNeg, Int.reduceToNat, Int.reduceAdd, Int.reduceSub, d1, h1, rT_rT, ↓g_call _ _ c_entry_readTxn]
    refine CallK.as cR (aft_nil ?_)
    have hen : rEn (b, false) = (⟨a.1, k.1, (rTxAns k.2).1, 0, 0, 0⟩, (rTx k.2).2) := by unfold rEn; simp only [hA, hK]; rw [if_pos h1']
    rcases htx : rTxOk k.2 with _ | _
    · have e1 : (rTxAns k.2).2 = (Er.flt [116, 120, 110] (.num 3)).av := by simp [rTxAns, htx]; rfl
      have e2 : rEnTx (b, false) = false := by simp [rEnTx, hA, hK, h1', htx]
      have e3 : rEnOk (b, false) = false := by simp [rEnOk, e2]
      have e4 : rEnErr (b, false) = some (.flt [101, 110, 116, 114, 121] (.flt [116, 120, 110] (.num 3))) := by simp [rEnErr, e2, e3]
      have cI := pc_fIn [101, 110, 116, 114, 121] (.flt [116, 120, 110] (.num 3))
      rw [e1]
      simp only [Er.av, fault] at cI ⊢
      simp -implicitDefEqProofs -dsimp only [go_sem, Nat.reduceEqDiff, Nat.reduceAdd, Nat.reduceMul, Nat.reduceSub, Nat.reduceLT, Nat.reduceLeDiff, Nat.reduceBEq, reduceIte, reduceCtorEq, Int.reduceLT, Int.reduceLE, Int.reduceEq, Int.reduceNeg, Int.reduceToNat, Int.reduceAdd, Int.reduceSub, eqAv, ↓g_call _ _ c_fault_In]
      refine CallK.pure cI (aft_nil ?_)
      simp -implicitDefEqProofs -dsimp only [go_sem, Nat.reduceEqDiff, Nat.reduceAdd, Nat.reduceMul, Nat.reduceSub, Nat.reduceLT, Nat.reduceLeDiff, Nat.reduceBEq, reduceIte, reduceCtorEq, Int.reduceLT, Int.reduceLE, Int.reduceEq, Int.reduceNeg, Int.reduceToNat, Int.reduceAdd, Int.reduceSub]
      have := endErr e3 (rTx k.2).2
      rw [rT_rT]
      rw [e4] at this ⊢
      exact this
    · have e1 : (rTxAns k.2).2 = .nilifc := by simp [rTxAns, htx]
      have e2 : rEnTx (b, false) = true := by simp [rEnTx, hA, hK, h1', htx]
      have c6 := pc_enRight (rEn (b, false)).1 none none hfine
      have e5 : rEnOk (b, false) = ((!(rTx k.2).2.2 && decide ((rTx k.2).2.1 = [])) && enOk (rEn (b, false)).1) := by simp [rEnOk, e2, hen]
      rw [hen] at c6
      simp only [En.cells] at c6
      rw [e1]
      simp -implicitDefEqProofs -dsimp only [go_sem, Nat.reduceEqDiff, Nat.reduceAdd, Nat.reduceMul, Nat.reduceSub, Nat.reduceLT, Nat.reduceLeDiff, Nat.reduceBEq, reduceIte, reduceCtorEq, Int.reduceLT, Int.reduceLE, Int.reduceEq, Int.reduceNeg, Int.reduceToNat, Int.reduceAdd, Int.reduceSub, eqAv, rT_rT, ↓g_call _ _ c_octet_Reader_Done]
      refine CallK.as (ac_Done rT_row) (aft_nil ?_)
      rcases hdn : (!(rTx k.2).2.2 && decide ((rTx k.2).2.1 = [])) with _ | _
      · have e3 : rEnOk (b, false) = false := by rw [e5, hdn]; rfl
        have e4 : rEnErr (b, false) = some (.flt [101, 110, 116, 114, 121] (.num 3)) := by simp [rEnErr, e2, e3]
        simp -implicitDefEqProofs -dsimp only [go_sem, Nat.reduceEqDiff, Nat.reduceAdd, Nat.reduceMul, Nat.reduceSub, Nat.reduceLT, Nat.reduceLeDiff, Nat.reduceBEq, reduceIte, reduceCtorEq, Int.reduceLT, Int.reduceLE, Int.reduceEq, Int.reduceNeg, Int.reduceToNat, Int.reduceAdd, Int.reduceSub, hdn, ↓g_gdc, rcOk, true_and, ↓g_call _ _ c_fault_New]
        refine CallK.pure cN (aft_nil ?_)
        simp -implicitDefEqProofs -dsimp only [go_sem, Nat.reduceEqDiff, Nat.reduceAdd, Nat.reduceMul, Nat.reduceSub, Nat.reduceLT, Nat.reduceLeDiff, Nat.reduceBEq, reduceIte, reduceCtorEq, Int.reduceLT, Int.reduceLE, Int.reduceEq, Int.reduceNeg, Int.reduceToNat, Int.reduceAdd, Int.reduceSub, fault]
        have := endErr e3 (rTx k.2).2
        rw [e4] at this ⊢
        exact this
      · simp -implicitDefEqProofs -dsimp only [go_sem, Nat.reduceEqDiff, Nat.reduceAdd, Nat.reduceMul, Nat.reduceSub, Nat.reduceLT, Nat.reduceLeDiff, Nat.reduceBEq, reduceIte, reduceCtorEq, Int.reduceLT, Int.reduceLE, Int.reduceEq, Int.reduceNeg, Int.reduceToNat, Int.reduceAdd, Int.reduceSub, hdn, ↓g_gdc, rcOk, true_and, ↓g_call _ _ c_entry_Right]
        refine CallK.pure c6 (aft_nil ?_)
        rcases hok : enOk ⟨a.1, k.1, (rTxAns k.2).1, 0, 0, 0⟩ with _ | _
        · have e3 : rEnOk (b, false) = false := by rw [e5, hdn, hen, hok]; rfl
          have e4 : rEnErr (b, false) = some (.flt [101, 110, 116, 114, 121] (.num 3)) := by simp [rEnErr, e2, e3]
          simp -implicitDefEqProofs -dsimp only [go_sem, Nat.reduceEqDiff, Nat.reduceAdd, Nat.reduceMul, Nat.reduceSub, Nat.reduceLT, Nat.reduceLeDiff, Nat.reduceBEq, reduceIte, reduceCtorEq, Int.reduceLT, Int.reduceLE, Int.reduceEq, Int.reduceNeg, Int.reduceToNat, Int.reduceAdd, Int.reduceSub, hok, ↓g_gdc, rcOk, true_and, ↓g_call _ _ c_fault_New]
          refine CallK.pure cN (aft_nil ?_)
          simp -implicitDefEqProofs -dsimp only [go_sem, Nat.reduceEqDiff, Nat.reduceAdd, Nat.reduceMul, Nat.reduceSub, Nat.reduceLT, Nat.reduceLeDiff, Nat.reduceBEq, reduceIte, reduceCtorEq, Int.reduceLT, Int.reduceLE, Int.reduceEq, Int.reduceNeg, Int.reduceToNat, Int.reduceAdd, Int.reduceSub, fault]
          have := endErr e3 (rTx k.2).2
          rw [e4] at this ⊢
          exact this
        · have e3 : rEnOk (b, false) = true := by rw [e5, hdn, hen, hok]; rfl
          simp -implicitDefEqProofs -dsimp only [go_sem, Nat.reduceEqDiff, Nat.reduceAdd, Nat.reduceMul, Nat.reduceSub, Nat.reduceLT, Nat.reduceLeDiff, Nat.reduceBEq, reduceIte, reduceCtorEq, Int.reduceLT, Int.reduceLE, Int.reduceEq, Int.reduceNeg, Int.reduceToNat, Int.reduceAdd, Int.reduceSub, hok, ↓g_gdc, rcOk, true_and]
          have := endOk e3 (rTx k.2).2
          rw [hen] at this
          exact this
  rcases h2 : decide (k.1 = 2) with _ | _
  case true =>
    have h2' := of_decide_eq_true h2
    have l3 := len_le (rID_len k.2) l2
    simp -implicitDefEqProofs -dsimp only [go_sem, Nat.reduceEqDiff, Nat.reduceAdd, Nat.reduceMul, Nat.reduceSub, Nat.reduceLT, Nat.reduceLeDiff, Nat.reduceBEq, reduceIte, reduceCtorEq, Int.reduceLT, Int.reduceLE, Int.reduceEq, Int.reduceNeg, Int.reduceToNat, Int.reduceAdd, Int.reduceSub, d1, d2, h1, h2, rT_rT, ↓g_call _ _ c_entry_readID]
    refine CallK.as (ac_readID rT_row l2) (aft_nil ?_)
    simp -implicitDefEqProofs -dsimp only [go_sem, Nat.reduceEqDiff, Nat.reduceAdd, Nat.reduceMul, Nat.reduceSub, Nat.reduceLT, Nat.reduceLeDiff, Nat.reduceBEq, reduceIte, reduceCtorEq, Int.reduceLT, Int.reduceLE, Int.reduceEq, Int.reduceNeg, Int.reduceToNat, Int.reduceAdd, Int.reduceSub, rT_rT, ↓g_call _ _ c_octet_Reader_Int]
    refine CallK.as (at_Int rT_row 99 (by decide) l3) (aft_nil ?_)
    have hen : rEn (b, false) = (⟨a.1, k.1, zeroTx, (rID k.2).1.1, (rID k.2).1.2, (rMost 99 (rID k.2).2).1⟩, (rMost 99 (rID k.2).2).2) := by unfold rEn; simp only [hA, hK]; rw [if_neg (of_decide_eq_false h1), if_pos h2']
    have e2 : rEnTx (b, false) = true := by simp [rEnTx, hA, hK, of_decide_eq_false h1]
    have e5 : rEnOk (b, false) = ((!((rMost 99 (rID k.2).2).2).2 && decide (((rMost 99 (rID k.2).2).2).1 = [])) && enOk (rEn (b, false)).1) := by simp [rEnOk, e2, hen]
    have c6 := pc_enRight (rEn (b, false)).1 (some 0) (some 0) hfine
    rw [hen] at c6
    simp only [En.cells, zeroTx, List.length_nil, List.flatMap_nil] at c6
    simp -implicitDefEqProofs -dsimp only [go_sem, Nat.reduceEqDiff, Nat.reduceAdd, Nat.reduceMul, Nat.reduceSub, Nat.reduceLT, Nat.reduceLeDiff, Nat.reduceBEq, reduceIte, reduceCtorEq, Int.reduceLT, Int.reduceLE, Int.reduceEq, Int.reduceNeg, Int.reduceToNat, Int.reduceAdd, Int.reduceSub, rT_rT, ↓g_call _ _ c_octet_Reader_Done]
    refine CallK.as (ac_Done rT_row) (aft_nil ?_)
    rcases hdn : (!((rMost 99 (rID k.2).2).2).2 && decide (((rMost 99 (rID k.2).2).2).1 = [])) with _ | _
    · have e3 : rEnOk (b, false) = false := by rw [e5, hdn]; rfl
      have e4 : rEnErr (b, false) = some (.flt [101, 110, 116, 114, 121] (.num 3)) := by simp [rEnErr, e2, e3]
      simp -implicitDefEqProofs -dsimp only [go_sem, Nat.reduceEqDiff, Nat.reduceAdd, Nat.reduceMul, Nat.reduceSub, Nat.reduceLT, Nat.reduceLeDiff, Nat.reduceBEq, reduceIte, reduceCtorEq, Int.reduceLT, Int.reduceLE, Int.reduceEq, Int.reduceNeg, Int.reduceToNat, Int.reduceAdd, Int.reduceSub, hdn, ↓g_gdc, rcOk, true_and, ↓g_call _ _ c_fault_New]
      refine CallK.pure cN (aft_nil ?_)
      simp -implicitDefEqProofs -dsimp only [go_sem, Nat.reduceEqDiff, Nat.reduceAdd, Nat.reduceMul, Nat.reduceSub, Nat.reduceLT, Nat.reduceLeDiff, Nat.reduceBEq, reduceIte, reduceCtorEq, Int.reduceLT, Int.reduceLE, Int.reduceEq, Int.reduceNeg, Int.reduceToNat, Int.reduceAdd, Int.reduceSub, fault]
      have := endErr e3 ((rMost 99 (rID k.2).2).2)
      rw [e4] at this ⊢
      exact this
    · simp -implicitDefEqProofs -dsimp only [go_sem, Nat.reduceEqDiff, Nat.reduceAdd, Nat.reduceMul, Nat.reduceSub, Nat.reduceLT, Nat.reduceLeDiff, Nat.reduceBEq, reduceIte, reduceCtorEq, Int.reduceLT, Int.reduceLE, Int.reduceEq, Int.reduceNeg, Int.reduceToNat, Int.reduceAdd, Int.reduceSub, hdn, ↓g_gdc, rcOk, true_and, ↓g_call _ _ c_entry_Right]
      refine CallK.pure c6 (aft_nil ?_)
      rcases hok : enOk (⟨a.1, k.1, ⟨0, 0, false, [], []⟩, (rID k.2).1.1, (rID k.2).1.2, (rMost 99 (rID k.2).2).1⟩ : En) with _ | _
      · have e3 : rEnOk (b, false) = false := by rw [e5, hdn, hen]; simp only [zeroTx, hok]; rfl
        have e4 : rEnErr (b, false) = some (.flt [101, 110, 116, 114, 121] (.num 3)) := by simp [rEnErr, e2, e3]
        simp -implicitDefEqProofs -dsimp only [go_sem, Nat.reduceEqDiff, Nat.reduceAdd, Nat.reduceMul, Nat.reduceSub, Nat.reduceLT, Nat.reduceLeDiff, Nat.reduceBEq, reduceIte, reduceCtorEq, Int.reduceLT, Int.reduceLE, Int.reduceEq, Int.reduceNeg, Int.reduceToNat, Int.reduceAdd, Int.reduceSub, hok, ↓g_gdc, rcOk, true_and, ↓g_call _ _ c_fault_New]
        refine CallK.pure cN (aft_nil ?_)
        simp -implicitDefEqProofs -dsimp only [go_sem, Nat.reduceEqDiff, Nat.reduceAdd, Nat.reduceMul, Nat.reduceSub, Nat.reduceLT, Nat.reduceLeDiff, Nat.reduceBEq, reduceIte, reduceCtorEq, Int.reduceLT, Int.reduceLE, Int.reduceEq, Int.reduceNeg, Int.reduceToNat, Int.reduceAdd, Int.reduceSub, fault]
        have := endErr e3 ((rMost 99 (rID k.2).2).2)
        rw [e4] at this ⊢
        exact this
      · have e3 : rEnOk (b, false) = true := by rw [e5, hdn, hen]; simp only [zeroTx, hok]; rfl
        simp -implicitDefEqProofs -dsimp only [go_sem, Nat.reduceEqDiff, Nat.reduceAdd, Nat.reduceMul, Nat.reduceSub, Nat.reduceLT, Nat.reduceLeDiff, Nat.reduceBEq, reduceIte, reduceCtorEq, Int.reduceLT, Int.reduceLE, Int.reduceEq, Int.reduceNeg, Int.reduceToNat, Int.reduceAdd, Int.reduceSub, hok, ↓g_gdc, rcOk, true_and]
        have e1 : rEnAns (b, false) = (⟨a.1, k.1, ⟨0, 0, false, [], []⟩, (rID k.2).1.1, (rID k.2).1.2, (rMost 99 (rID k.2).2).1⟩ : En) := by simp only [rEnAns, e3, if_true, hen, zeroTx]
        have e4 : rEnErr (b, false) = none := by simp [rEnErr, e3]
        rw [e1, e4]
        refine ⟨[], T, _, by simp, by simp, hT _, ?_, rfl, rfl⟩
        rw [frzt_nil]
        exact Wk.tup ⟨Wk.agg ⟨.refl _, .refl _, .refl _, .refl _, .refl _, .fz, .fz, .refl _, .refl _, .refl _, trivial⟩, .refl _, trivial⟩
  have hen : rEn (b, false) = (⟨a.1, k.1, zeroTx, 0, 0, 0⟩, k.2) := by unfold rEn; simp only [hA, hK]; rw [if_neg (of_decide_eq_false h1), if_neg (of_decide_eq_false h2)]
  have e2 : rEnTx (b, false) = true := by simp [rEnTx, hA, hK, of_decide_eq_false h1]
  have e5 : rEnOk (b, false) = ((!(k.2).2 && decide ((k.2).1 = [])) && enOk (rEn (b, false)).1) := by simp [rEnOk, e2, hen]
  have c6 := pc_enRight (rEn (b, false)).1 (some 0) (some 0) hfine
  rw [hen] at c6
  simp only [En.cells, zeroTx, List.length_nil, List.flatMap_nil] at c6
  simp -implicitDefEqProofs -dsimp only [go_sem, Nat.reduceEqDiff, Nat.reduceAdd, Nat.reduceMul, Nat.reduceSub, Nat.reduceLT, Nat.reduceLeDiff, Nat.reduceBEq, reduceIte, reduceCtorEq, Int.reduceLT, Int.reduceLE, Int.reduceEq, Int.reduceNeg, Int.reduceToNat, Int.reduceAdd, Int.reduceSub, d1, d2, h1, h2, rT_rT, ↓g_call _ _ c_octet_Reader_Done]
  refine CallK.as (ac_Done rT_row) (aft_nil ?_)
  rcases hdn : (!(k.2).2 && decide ((k.2).1 = [])) with _ | _
  · have e3 : rEnOk (b, false) = false := by rw [e5, hdn]; rfl
    have e4 : rEnErr (b, false) = some (.flt [101, 110, 116, 114, 121] (.num 3)) := by simp [rEnErr, e2, e3]
    simp -implicitDefEqProofs -dsimp only [go_sem, Nat.reduceEqDiff, Nat.reduceAdd, Nat.reduceMul, Nat.reduceSub, Nat.reduceLT, Nat.reduceLeDiff, Nat.reduceBEq, reduceIte, reduceCtorEq, Int.reduceLT, Int.reduceLE, Int.reduceEq, Int.reduceNeg, Int.reduceToNat, Int.reduceAdd, Int.reduceSub, hdn, ↓g_gdc, rcOk, true_and, ↓g_call _ _ c_fault_New]
    refine CallK.pure cN (aft_nil ?_)
    simp -implicitDefEqProofs -dsimp only [go_sem, Nat.reduceEqDiff, Nat.reduceAdd, Nat.reduceMul, Nat.reduceSub, Nat.reduceLT, Nat.reduceLeDiff, Nat.reduceBEq, reduceIte, reduceCtorEq, Int.reduceLT, Int.reduceLE, Int.reduceEq, Int.reduceNeg, Int.reduceToNat, Int.reduceAdd, Int.reduceSub, fault]
    have := endErr e3 (k.2)
    rw [e4] at this ⊢
    exact this
  · simp -implicitDefEqProofs -dsimp only [go_sem, Nat.reduceEqDiff, Nat.reduceAdd, Nat.reduceMul, Nat.reduceSub, Nat.reduceLT, Nat.reduceLeDiff, Nat.reduceBEq, reduceIte, reduceCtorEq, Int.reduceLT, Int.reduceLE, Int.reduceEq, Int.reduceNeg, Int.reduceToNat, Int.reduceAdd, Int.reduceSub, hdn, ↓g_gdc, rcOk, true_and, ↓g_call _ _ c_entry_Right]
    refine CallK.pure c6 (aft_nil ?_)
    rcases hok : enOk (⟨a.1, k.1, ⟨0, 0, false, [], []⟩, 0, 0, 0⟩ : En) with _ | _
    · have e3 : rEnOk (b, false) = false := by rw [e5, hdn, hen]; simp only [zeroTx, hok]; rfl
      have e4 : rEnErr (b, false) = some (.flt [101, 110, 116, 114, 121] (.num 3)) := by simp [rEnErr, e2, e3]
      simp -implicitDefEqProofs -dsimp only [go_sem, Nat.reduceEqDiff, Nat.reduceAdd, Nat.reduceMul, Nat.reduceSub, Nat.reduceLT, Nat.reduceLeDiff, Nat.reduceBEq, reduceIte, reduceCtorEq, Int.reduceLT, Int.reduceLE, Int.reduceEq, Int.reduceNeg, Int.reduceToNat, Int.reduceAdd, Int.reduceSub, hok, ↓g_gdc, rcOk, true_and, ↓g_call _ _ c_fault_New]
      refine CallK.pure cN (aft_nil ?_)
      simp -implicitDefEqProofs -dsimp only [go_sem, Nat.reduceEqDiff, Nat.reduceAdd, Nat.reduceMul, Nat.reduceSub, Nat.reduceLT, Nat.reduceLeDiff, Nat.reduceBEq, reduceIte, reduceCtorEq, Int.reduceLT, Int.reduceLE, Int.reduceEq, Int.reduceNeg, Int.reduceToNat, Int.reduceAdd, Int.reduceSub, fault]
      have := endErr e3 (k.2)
      rw [e4] at this ⊢
      exact this
    · have e3 : rEnOk (b, false) = true := by rw [e5, hdn, hen]; simp only [zeroTx, hok]; rfl
      simp -implicitDefEqProofs -dsimp only [go_sem, Nat.reduceEqDiff, Nat.reduceAdd, Nat.reduceMul, Nat.reduceSub, Nat.reduceLT, Nat.reduceLeDiff, Nat.reduceBEq, reduceIte, reduceCtorEq, Int.reduceLT, Int.reduceLE, Int.reduceEq, Int.reduceNeg, Int.reduceToNat, Int.reduceAdd, Int.reduceSub, hok, ↓g_gdc, rcOk, true_and]
      have e1 : rEnAns (b, false) = (⟨a.1, k.1, ⟨0, 0, false, [], []⟩, 0, 0, 0⟩ : En) := by simp only [rEnAns, e3, if_true, hen, zeroTx]
      have e4 : rEnErr (b, false) = none := by simp [rEnErr, e3]
      rw [e1, e4]
      refine ⟨[], T, _, by simp, by simp, hT _, ?_, rfl, rfl⟩
      rw [frzt_nil]
      exact Wk.tup ⟨Wk.agg ⟨.refl _, .refl _, .refl _, .refl _, .refl _, .fz, .fz, .refl _, .refl _, .refl _, trivial⟩, .refl _, trivial⟩

theorem pc_Get (b : List UInt8) (c : Option Nat) (hb : b.length ≤ 1000000000) : PCalls prog f_entry_Get [bts b c] (.tup [.agg ((rEnAns (b, false)).cells none none), .i .i64 (erCode (rEnErr (b, false)))]) := by
  refine pcalls_of mixed t_entry_Get (by simp) fun T => ?_
  have h1 := pc_get b c hb
  have h2 := pc_Code (rEnErr (b, false))
  have hp : (erAv (rEnErr (b, false))).plain = true ∧ ∀ k, (erAv (rEnErr (b, false))).offLp k = erAv (rEnErr (b, false)) := by
    cases rEnErr (b, false) with
    | none => exact ⟨rfl, fun _ => rfl⟩
    | some e => obtain ⟨t, v, he⟩ := e.ifc; simp only [erAv, he]; exact ⟨rfl, fun _ => rfl⟩
  simp only [En.cells] at h1
  generalize erAv (rEnErr (b, false)) = x at h1 h2 hp
  unfold s_entry_Get
  simp -implicitDefEqProofs -dsimp only [go_sem, Nat.reduceEqDiff, Nat.reduceAdd, Nat.reduceMul, Nat.reduceSub, Nat.reduceLT, Nat.reduceLeDiff, Nat.reduceBEq, reduceIte, reduceCtorEq, Int.reduceLT, Int.reduceLE, Int.reduceEq, Int.reduceNeg, Int.reduceToNat, Int.reduceAdd, Int.reduceSub, ↓g_call _ _ c_entry_get]
  refine CallK.pure h1 (aft_nil ?_)
  simp -implicitDefEqProofs -dsimp only [go_sem, Nat.reduceEqDiff, Nat.reduceAdd, Nat.reduceMul, Nat.reduceSub, Nat.reduceLT, Nat.reduceLeDiff, Nat.reduceBEq, reduceIte, reduceCtorEq, Int.reduceLT, Int.reduceLE, Int.reduceEq, Int.reduceNeg, Int.reduceToNat, Int.reduceAdd, Int.reduceSub, hp.1, hp.2, ↓g_call _ _ c_fault_Code]
  refine CallK.pure h2 (aft_nil ?_)
  simp -implicitDefEqProofs -dsimp only [go_sem, Nat.reduceEqDiff, Nat.reduceAdd, Nat.reduceMul, Nat.reduceSub, Nat.reduceLT, Nat.reduceLeDiff, Nat.reduceBEq, reduceIte, reduceCtorEq, Int.reduceLT, Int.reduceLE, Int.reduceEq, Int.reduceNeg, Int.reduceToNat, Int.reduceAdd, Int.reduceSub, hp.1, hp.2]
  exact finL_pure rfl
end Go.Aw
