import Derived.Test.YtfphinopblfacaaGreatDoorH21G21C
namespace Go.Aw
open Go
open Go.Proofs.Tryz (prog)
set_option linter.all false
set_option maxHeartbeats 4000000

/-! Commands read from texts. -/
def rd1 (s : List UInt8) := rMost 4 (s, false)
def rd2 (s : List UInt8) := rMost 3 (rd1 s).2
def rd3 (s : List UInt8) := rMost 18446744073709551615 (rd2 s).2
def rd4 (s : List UInt8) := rMost 7 (rd3 s).2
def cmOf (s : List UInt8) : Cm := ⟨(rd1 s).1, (rd2 s).1, (rd3 s).1, (rd4 s).1⟩
def cmOk (s : List UInt8) : Bool := (!(rd4 s).2.2 && decide ((rd4 s).2.1 = [])) && (cmOf s).ok
def cm0 : Cm := ⟨0, 0, 0, 0⟩
def cmA (s : List UInt8) : Cm := if cmOk s = true then cmOf s else cm0
theorem cmOf_ep (s : List UInt8) : 0 ≤ (cmOf s).ep ∧ (cmOf s).ep < 18446744073709551616 := by
  have := rMost_le 18446744073709551615 (rd2 s).2
  exact ⟨Int.natCast_nonneg _, by show ((rd3 s).1 : Int) < _; unfold rd3; omega⟩
def cmErr (s : List UInt8) : Option Er := if cmOk s = true then none else some (.flt [99, 111, 109, 109, 97, 110, 100] (.num 3))
theorem pc_oget (s : List UInt8) (hl : s.length ≤ 1000000000) : PCalls prog f_order_get [.s s] (.tup [.agg (cmA s).cells, erAv (cmErr s)]) := by
  refine pcalls_of mixed t_order_get (by simp) fun T => ?_
  have hL : Len s.length := by unfold Len; omega
  have l1 : (rd1 s).2.1.length ≤ s.length := rMost_len 4 (s, false)
  have l2 : (rd2 s).2.1.length ≤ s.length := Nat.le_trans (rMost_len 3 _) l1
  have l3 : (rd3 s).2.1.length ≤ s.length := Nat.le_trans (rMost_len _ _) l2
  have cN := pc_fNew [99, 111, 109, 109, 97, 110, 100] 3
  rw [if_neg (by decide)] at cN
  have cr := pc_oright (cmOf s)
  simp only [Cm.cells, cmOf] at cr
  unfold s_order_get
  simp -implicitDefEqProofs -dsimp only [go_sem, Nat.reduceEqDiff, Nat.reduceAdd, Nat.reduceMul, Nat.reduceSub, Nat.reduceLT, Nat.reduceLeDiff, Nat.reduceBEq, reduceIte, reduceCtorEq, Int.reduceLT, Int.reduceLE, Int.reduceEq, Int.reduceNeg, Int.reduceToNat, Int.reduceAdd, Int.reduceSub, ↓g_call _ _ c_octet_New]
  refine CallK.of (ac_New s none hl) (fun v T1 ⟨id, e1, hid, e2⟩ => aft_nil ?_)
  subst e1; subst e2
  simp -implicitDefEqProofs -dsimp only [go_sem, Nat.reduceEqDiff, Nat.reduceAdd, Nat.reduceMul, Nat.reduceSub, Nat.reduceLT, Nat.reduceLeDiff, Nat.reduceBEq, reduceIte, reduceCtorEq, Int.reduceLT, Int.reduceLE, Int.reduceEq, Int.reduceNeg, Int.reduceToNat, Int.reduceAdd, Int.reduceSub, ↓g_call _ _ c_octet_Reader_Int]
  refine CallK.as (at_Int rT_row 4 (by decide) hL) (aft_nil ?_)
  rw [show rMost 4 (s, false) = rd1 s from rfl]
  simp -implicitDefEqProofs -dsimp only [go_sem, Nat.reduceEqDiff, Nat.reduceAdd, Nat.reduceMul, Nat.reduceSub, Nat.reduceLT, Nat.reduceLeDiff, Nat.reduceBEq, reduceIte, reduceCtorEq, Int.reduceLT, Int.reduceLE, Int.reduceEq, Int.reduceNeg, Int.reduceToNat, Int.reduceAdd, Int.reduceSub, ↓g_call _ _ c_octet_Reader_Int]
  refine CallK.as (at_Int rT_row 3 (by decide) (len_le l1 hL)) (aft_nil ?_)
  rw [show rMost 3 (rd1 s).2 = rd2 s from rfl]
  simp -implicitDefEqProofs -dsimp only [go_sem, Nat.reduceEqDiff, Nat.reduceAdd, Nat.reduceMul, Nat.reduceSub, Nat.reduceLT, Nat.reduceLeDiff, Nat.reduceBEq, reduceIte, reduceCtorEq, Int.reduceLT, Int.reduceLE, Int.reduceEq, Int.reduceNeg, Int.reduceToNat, Int.reduceAdd, Int.reduceSub, ↓g_call _ _ c_octet_Reader_N]
  refine CallK.as (at_N rT_row (len_le l2 hL)) (aft_nil ?_)
  rw [show rMost 18446744073709551615 (rd2 s).2 = rd3 s from rfl]
  simp -implicitDefEqProofs -dsimp only [go_sem, Nat.reduceEqDiff, Nat.reduceAdd, Nat.reduceMul, Nat.reduceSub, Nat.reduceLT, Nat.reduceLeDiff, Nat.reduceBEq, reduceIte, reduceCtorEq, Int.reduceLT, Int.reduceLE, Int.reduceEq, Int.reduceNeg, Int.reduceToNat, Int.reduceAdd, Int.reduceSub, ↓g_call _ _ c_octet_Reader_Int]
  refine CallK.as (at_Int rT_row 7 (by decide) (len_le l3 hL)) (aft_nil ?_)
  rw [show rMost 7 (rd3 s).2 = rd4 s from rfl]
  simp -implicitDefEqProofs -dsimp only [go_sem, Nat.reduceEqDiff, Nat.reduceAdd, Nat.reduceMul, Nat.reduceSub, Nat.reduceLT, Nat.reduceLeDiff, Nat.reduceBEq, reduceIte, reduceCtorEq, Int.reduceLT, Int.reduceLE, Int.reduceEq, Int.reduceNeg, Int.reduceToNat, Int.reduceAdd, Int.reduceSub, ↓g_call _ _ c_octet_Reader_Done]
  refine CallK.as (ac_Done rT_row) (aft_nil ?_)
  have hT : TabLe T (rT (rT (rT (rT (rT T id (s, false)) id (rd1 s).2) id (rd2 s).2) id (rd3 s).2) id (rd4 s).2) := by
    simp only [rT, Tab.put_put]
    exact (TabLe.refl T).put hid
  have hbad : cmOk s = false → finL (.tup [.agg cm0.cells, fault [99, 111, 109, 109, 97, 110, 100] (errno 3)]) (fun v T' => v = .tup [.agg (cmA s).cells, erAv (cmErr s)] ∧ T' = T) (rT (rT (rT (rT (rT T id (s, false)) id (rd1 s).2) id (rd2 s).2) id (rd3 s).2) id (rd4 s).2) := fun h => by
    rw [cmA, cmErr, h]
    exact hT.fin
  rcases hd : (!(rd4 s).2.2 && decide ((rd4 s).2.1 = [])) with _ | _
  · have h : cmOk s = false := by rw [cmOk, hd]; rfl
    simp -implicitDefEqProofs -dsimp only [go_sem, Nat.reduceEqDiff, Nat.reduceAdd, Nat.reduceMul, Nat.reduceSub, Nat.reduceLT, Nat.reduceLeDiff, Nat.reduceBEq, reduceIte, reduceCtorEq, Int.reduceLT, Int.reduceLE, Int.reduceEq, Int.reduceNeg, Int.reduceToNat, Int.reduceAdd, Int.reduceSub, decide_true, Bool.not_false, ↓g_gdc, rcOk, true_and, ↓g_call _ _ c_fault_New]
    refine CallK.pure cN (aft_nil ?_)
    simp -implicitDefEqProofs -dsimp only [go_sem, Nat.reduceEqDiff, Nat.reduceAdd, Nat.reduceMul, Nat.reduceSub, Nat.reduceLT, Nat.reduceLeDiff, Nat.reduceBEq, reduceIte, reduceCtorEq, Int.reduceLT, Int.reduceLE, Int.reduceEq, Int.reduceNeg, Int.reduceToNat, Int.reduceAdd, Int.reduceSub, fault]
    exact hbad h
  · rcases hk : (cmOf s).ok with _ | _
    · have h : cmOk s = false := by rw [cmOk, hd, hk]; rfl
      simp only [cmOf] at hk
      simp -implicitDefEqProofs -dsimp only [go_sem, Nat.reduceEqDiff, Nat.reduceAdd, Nat.reduceMul, Nat.reduceSub, Nat.reduceLT, Nat.reduceLeDiff, Nat.reduceBEq, reduceIte, reduceCtorEq, Int.reduceLT, Int.reduceLE, Int.reduceEq, Int.reduceNeg, Int.reduceToNat, Int.reduceAdd, Int.reduceSub, decide_true, Bool.not_true, ↓g_gdc, rcOk, true_and, ↓g_call _ _ c_order_right]
      refine CallK.pure cr (aft_nil ?_)
      simp -implicitDefEqProofs -dsimp only [go_sem, Nat.reduceEqDiff, Nat.reduceAdd, Nat.reduceMul, Nat.reduceSub, Nat.reduceLT, Nat.reduceLeDiff, Nat.reduceBEq, reduceIte, reduceCtorEq, Int.reduceLT, Int.reduceLE, Int.reduceEq, Int.reduceNeg, Int.reduceToNat, Int.reduceAdd, Int.reduceSub, hk, Bool.not_false, ↓g_gdc, rcOk, true_and, ↓g_call _ _ c_fault_New]
      refine CallK.pure cN (aft_nil ?_)
      simp -implicitDefEqProofs -dsimp only [go_sem, Nat.reduceEqDiff, Nat.reduceAdd, Nat.reduceMul, Nat.reduceSub, Nat.reduceLT, Nat.reduceLeDiff, Nat.reduceBEq, reduceIte, reduceCtorEq, Int.reduceLT, Int.reduceLE, Int.reduceEq, Int.reduceNeg, Int.reduceToNat, Int.reduceAdd, Int.reduceSub, fault]
      exact hbad h
    · have h : cmOk s = true := by rw [cmOk, hd, hk]; rfl
      simp only [cmOf] at hk
      simp -implicitDefEqProofs -dsimp only [go_sem, Nat.reduceEqDiff, Nat.reduceAdd, Nat.reduceMul, Nat.reduceSub, Nat.reduceLT, Nat.reduceLeDiff, Nat.reduceBEq, reduceIte, reduceCtorEq, Int.reduceLT, Int.reduceLE, Int.reduceEq, Int.reduceNeg, Int.reduceToNat, Int.reduceAdd, Int.reduceSub, decide_true, Bool.not_true, ↓g_gdc, rcOk, true_and, ↓g_call _ _ c_order_right]
      refine CallK.pure cr (aft_nil ?_)
      simp -implicitDefEqProofs -dsimp only [go_sem, Nat.reduceEqDiff, Nat.reduceAdd, Nat.reduceMul, Nat.reduceSub, Nat.reduceLT, Nat.reduceLeDiff, Nat.reduceBEq, reduceIte, reduceCtorEq, Int.reduceLT, Int.reduceLE, Int.reduceEq, Int.reduceNeg, Int.reduceToNat, Int.reduceAdd, Int.reduceSub, hk, Bool.not_true, ↓g_gdc, rcOk, true_and]
      rw [cmA, cmErr, h]
      exact hT.fin
def gCode (s : List UInt8) : Int := if cmOk s = true then 0 else 3
theorem pc_oGet (s : List UInt8) (hl : s.length ≤ 1000000000) : PCalls prog f_order_Get [.s s] (.tup [.agg (cmA s).cells, .i .i64 (gCode s)]) := by
  refine pcalls_of mixed t_order_Get (by simp) fun T => ?_
  have h1 := pc_oget s hl
  have h2 := pc_Code (cmErr s)
  have e : erCode (cmErr s) = gCode s := by unfold cmErr gCode; split <;> rfl
  rw [e] at h2
  have hp : (erAv (cmErr s)).plain = true ∧ ∀ k, (erAv (cmErr s)).offLp k = erAv (cmErr s) := by
    cases cmErr s with
    | none => exact ⟨rfl, fun _ => rfl⟩
    | some e => obtain ⟨t, v, he⟩ := e.ifc; simp only [erAv, he]; exact ⟨rfl, fun _ => rfl⟩
  simp only [Cm.cells] at h1
  generalize erAv (cmErr s) = x at h1 h2 hp
  unfold s_order_Get
  simp -implicitDefEqProofs -dsimp only [go_sem, Nat.reduceEqDiff, Nat.reduceAdd, Nat.reduceMul, Nat.reduceSub, Nat.reduceLT, Nat.reduceLeDiff, Nat.reduceBEq, reduceIte, reduceCtorEq, Int.reduceLT, Int.reduceLE, Int.reduceEq, Int.reduceNeg, Int.reduceToNat, Int.reduceAdd, Int.reduceSub, ↓g_call _ _ c_order_get]
  refine CallK.pure h1 (aft_nil ?_)
  simp -implicitDefEqProofs -dsimp only [go_sem, Nat.reduceEqDiff, Nat.reduceAdd, Nat.reduceMul, Nat.reduceSub, Nat.reduceLT, Nat.reduceLeDiff, Nat.reduceBEq, reduceIte, reduceCtorEq, Int.reduceLT, Int.reduceLE, Int.reduceEq, Int.reduceNeg, Int.reduceToNat, Int.reduceAdd, Int.reduceSub, hp.1, hp.2, ↓g_call _ _ c_fault_Code]
  refine CallK.pure h2 (aft_nil ?_)
  simp -implicitDefEqProofs -dsimp only [go_sem, Nat.reduceEqDiff, Nat.reduceAdd, Nat.reduceMul, Nat.reduceSub, Nat.reduceLT, Nat.reduceLeDiff, Nat.reduceBEq, reduceIte, reduceCtorEq, Int.reduceLT, Int.reduceLE, Int.reduceEq, Int.reduceNeg, Int.reduceToNat, Int.reduceAdd, Int.reduceSub, hp.1, hp.2]
  exact finL_pure rfl

theorem pc_rGet (s : List UInt8) (hl : s.length ≤ 1000000000) : PCalls prog f_sautoirref21_Get [.s s] (.tup [.agg (cmA s).cells, .b (cmOk s)]) := by
  refine pcalls_of mixed t_sautoirref21_Get (by simp) fun T => ?_
  have u0 : Suf s (s, false) := Suf.whole s false
  have u1 : Suf s (rd1 s).2 := u0.most 4
  have u2 : Suf s (rd2 s).2 := u1.most 3
  have u3 : Suf s (rd3 s).2 := u2.most _
  have u4 : Suf s (rd4 s).2 := u3.most 7
  have cr := pc_rright (cmOf s) (cmOf_ep s).1
  simp only [Cm.cells, cmOf] at cr
  unfold s_sautoirref21_Get
  simp -implicitDefEqProofs -dsimp only [go_sem, Nat.reduceEqDiff, Nat.reduceAdd, Nat.reduceMul, Nat.reduceSub, Nat.reduceLT, Nat.reduceLeDiff, Nat.reduceBEq, reduceIte, reduceCtorEq, Int.reduceLT, Int.reduceLE, Int.reduceEq, Int.reduceNeg, Int.reduceToNat, Int.reduceAdd, Int.reduceSub]
  intro id hid
  refine aft_nil ?_
  simp -implicitDefEqProofs -dsimp only [go_sem, Nat.reduceEqDiff, Nat.reduceAdd, Nat.reduceMul, Nat.reduceSub, Nat.reduceLT, Nat.reduceLeDiff, Nat.reduceBEq, reduceIte, reduceCtorEq, Int.reduceLT, Int.reduceLE, Int.reduceEq, Int.reduceNeg, Int.reduceToNat, Int.reduceAdd, Int.reduceSub, ↓g_call _ _ c_sautoirref01_Reader_Int]
  have e0 : T.put id (.row 3 [.fz s.length (byteCells s) none, .i .i64 0, .b false]) = nT T id s none (s, false) := by simp [nT, nRow, bts]
  rw [e0]
  refine CallK.as (at_rInt nT_at u0 4 (by decide) hl) (aft_nil ?_)
  rw [show rMost 4 (s, false) = rd1 s from rfl]
  simp -implicitDefEqProofs -dsimp only [go_sem, Nat.reduceEqDiff, Nat.reduceAdd, Nat.reduceMul, Nat.reduceSub, Nat.reduceLT, Nat.reduceLeDiff, Nat.reduceBEq, reduceIte, reduceCtorEq, Int.reduceLT, Int.reduceLE, Int.reduceEq, Int.reduceNeg, Int.reduceToNat, Int.reduceAdd, Int.reduceSub, ↓g_call _ _ c_sautoirref01_Reader_Int]
  refine CallK.as (at_rInt nT_at u1 3 (by decide) hl) (aft_nil ?_)
  rw [show rMost 3 (rd1 s).2 = rd2 s from rfl]
  simp -implicitDefEqProofs -dsimp only [go_sem, Nat.reduceEqDiff, Nat.reduceAdd, Nat.reduceMul, Nat.reduceSub, Nat.reduceLT, Nat.reduceLeDiff, Nat.reduceBEq, reduceIte, reduceCtorEq, Int.reduceLT, Int.reduceLE, Int.reduceEq, Int.reduceNeg, Int.reduceToNat, Int.reduceAdd, Int.reduceSub, ↓g_call _ _ c_sautoirref01_Reader_N]
  refine CallK.as (at_rN nT_at u2 hl) (aft_nil ?_)
  rw [show rMost 18446744073709551615 (rd2 s).2 = rd3 s from rfl]
  simp -implicitDefEqProofs -dsimp only [go_sem, Nat.reduceEqDiff, Nat.reduceAdd, Nat.reduceMul, Nat.reduceSub, Nat.reduceLT, Nat.reduceLeDiff, Nat.reduceBEq, reduceIte, reduceCtorEq, Int.reduceLT, Int.reduceLE, Int.reduceEq, Int.reduceNeg, Int.reduceToNat, Int.reduceAdd, Int.reduceSub, ↓g_call _ _ c_sautoirref01_Reader_Int]
  refine CallK.as (at_rInt nT_at u3 7 (by decide) hl) (aft_nil ?_)
  rw [show rMost 7 (rd3 s).2 = rd4 s from rfl]
  have hrow : (nT (nT (nT (nT (nT T id s none (s, false)) id s none (rd1 s).2) id s none (rd2 s).2) id s none (rd3 s).2) id s none (rd4 s).2) id = .row 3 [bts s none, .i .i64 (s.length - (rd4 s).2.1.length : Nat), .b (rd4 s).2.2] := nT_at
  have hT : TabLe T (nT (nT (nT (nT (nT T id s none (s, false)) id s none (rd1 s).2) id s none (rd2 s).2) id s none (rd3 s).2) id s none (rd4 s).2) := by
    simp only [nT, Tab.put_put]
    exact (TabLe.refl T).put hid
  have cL := at_rLeft (T := nT (nT (nT (nT (nT T id s none (s, false)) id s none (rd1 s).2) id s none (rd2 s).2) id s none (rd3 s).2) id s none (rd4 s).2) (id := id) nT_at u4 hl
  generalize nT (nT (nT (nT (nT T id s none (s, false)) id s none (rd1 s).2) id s none (rd2 s).2) id s none (rd3 s).2) id s none (rd4 s).2 = T4 at hrow hT cL
  simp -implicitDefEqProofs -dsimp only [go_sem, Nat.reduceEqDiff, Nat.reduceAdd, Nat.reduceMul, Nat.reduceSub, Nat.reduceLT, Nat.reduceLeDiff, Nat.reduceBEq, reduceIte, reduceCtorEq, Int.reduceLT, Int.reduceLE, Int.reduceEq, Int.reduceNeg, Int.reduceToNat, Int.reduceAdd, Int.reduceSub, hrow]
  have hbad : cmOk s = false → finL (.tup [.agg cm0.cells, .b false]) (fun v T' => v = .tup [.agg (cmA s).cells, .b (cmOk s)] ∧ T' = T) T4 := fun h => by
    rw [cmA, h]
    exact hT.fin
  rcases hb : (rd4 s).2.2 with _ | _
  · rw [hb] at cL
    simp only [Bool.false_eq_true, if_false] at cL
    by_cases hn : (rd4 s).2.1 = []
    · have d : decide ((0 : Int) < ((rd4 s).2.1.length : Nat)) = false := decide_eq_false (by rw [hn]; simp)
      simp -implicitDefEqProofs -dsimp only [go_sem, Nat.reduceEqDiff, Nat.reduceAdd, Nat.reduceMul, Nat.reduceSub, Nat.reduceLT, Nat.reduceLeDiff, Nat.reduceBEq, reduceIte, reduceCtorEq, Int.reduceLT, Int.reduceLE, Int.reduceEq, Int.reduceNeg, Int.reduceToNat, Int.reduceAdd, Int.reduceSub, hb, decide_true, ↓g_gdc, rcOk, true_and, ↓g_call _ _ c_sautoirref01_Reader_Left]
      refine CallK.as cL (aft_nil ?_)
      simp -implicitDefEqProofs -dsimp only [go_sem, Nat.reduceEqDiff, Nat.reduceAdd, Nat.reduceMul, Nat.reduceSub, Nat.reduceLT, Nat.reduceLeDiff, Nat.reduceBEq, reduceIte, reduceCtorEq, Int.reduceLT, Int.reduceLE, Int.reduceEq, Int.reduceNeg, Int.reduceToNat, Int.reduceAdd, Int.reduceSub, hb, d, decide_true, ↓g_gdc, rcOk, true_and, ↓g_call _ _ c_sautoirref21_Right]
      refine CallK.pure cr (aft_nil ?_)
      rcases hk : (cmOf s).ok with _ | _
      · have h : cmOk s = false := by rw [cmOk, hk, Bool.and_false]
        simp only [cmOf] at hk
        simp -implicitDefEqProofs -dsimp only [go_sem, Nat.reduceEqDiff, Nat.reduceAdd, Nat.reduceMul, Nat.reduceSub, Nat.reduceLT, Nat.reduceLeDiff, Nat.reduceBEq, reduceIte, reduceCtorEq, Int.reduceLT, Int.reduceLE, Int.reduceEq, Int.reduceNeg, Int.reduceToNat, Int.reduceAdd, Int.reduceSub, hk, Bool.not_false]
        exact hbad h
      · have h : cmOk s = true := by rw [cmOk, hb, hk, decide_eq_true hn]; rfl
        simp only [cmOf] at hk
        simp -implicitDefEqProofs -dsimp only [go_sem, Nat.reduceEqDiff, Nat.reduceAdd, Nat.reduceMul, Nat.reduceSub, Nat.reduceLT, Nat.reduceLeDiff, Nat.reduceBEq, reduceIte, reduceCtorEq, Int.reduceLT, Int.reduceLE, Int.reduceEq, Int.reduceNeg, Int.reduceToNat, Int.reduceAdd, Int.reduceSub, hk, Bool.not_true]
        rw [cmA, h]
        exact hT.fin
    · have hpos := List.length_pos_iff.2 hn
      have d : decide ((0 : Int) < ((rd4 s).2.1.length : Nat)) = true := decide_eq_true (by omega)
      have h : cmOk s = false := by rw [cmOk, decide_eq_false hn, Bool.and_false, Bool.false_and]
      simp -implicitDefEqProofs -dsimp only [go_sem, Nat.reduceEqDiff, Nat.reduceAdd, Nat.reduceMul, Nat.reduceSub, Nat.reduceLT, Nat.reduceLeDiff, Nat.reduceBEq, reduceIte, reduceCtorEq, Int.reduceLT, Int.reduceLE, Int.reduceEq, Int.reduceNeg, Int.reduceToNat, Int.reduceAdd, Int.reduceSub, hb, decide_true, ↓g_gdc, rcOk, true_and, ↓g_call _ _ c_sautoirref01_Reader_Left]
      refine CallK.as cL (aft_nil ?_)
      simp -implicitDefEqProofs -dsimp only [go_sem, Nat.reduceEqDiff, Nat.reduceAdd, Nat.reduceMul, Nat.reduceSub, Nat.reduceLT, Nat.reduceLeDiff, Nat.reduceBEq, reduceIte, reduceCtorEq, Int.reduceLT, Int.reduceLE, Int.reduceEq, Int.reduceNeg, Int.reduceToNat, Int.reduceAdd, Int.reduceSub, hb, d, decide_true, ↓g_gdc, rcOk, true_and, ↓g_call _ _ c_sautoirref21_Right]
      exact hbad h
  · have h : cmOk s = false := by rw [cmOk, hb]; rfl
    simp -implicitDefEqProofs -dsimp only [go_sem, Nat.reduceEqDiff, Nat.reduceAdd, Nat.reduceMul, Nat.reduceSub, Nat.reduceLT, Nat.reduceLeDiff, Nat.reduceBEq, reduceIte, reduceCtorEq, Int.reduceLT, Int.reduceLE, Int.reduceEq, Int.reduceNeg, Int.reduceToNat, Int.reduceAdd, Int.reduceSub, hb, decide_true, ↓g_gdc, rcOk, true_and]
    exact hbad h
end Go.Aw
