import Derived.Test.YtchkfbfbhaldfaaT16J
namespace Go.Aw
open Go
open Go.Proofs.Try (prog)
set_option linter.all false
set_option maxHeartbeats 4000000

theorem pc_awake : PCalls prog f_sautoirlaw16_awake [] (.b true) := by
  refine pcalls_of mixed t_sautoirlaw16_awake (by simp) fun T => ?_
  unfold s_sautoirlaw16_awake
  have e1 : (Cf.remove ⟨1, 0, [3, 1, 2], [true, true, false], -1⟩ 3 2) = (⟨2, 0, [1, 2], [true, false], -1⟩, 0) := by rfl
  have e2 : (Cf.remove ⟨2, 0, [1, 2], [true, false], -1⟩ 1 3) = (cf0, 10) := by rfl
  have e3 : (Cf.at ⟨2, 0, [1, 2], [true, false], -1⟩ 0) = 1 := by rfl
  have e4 : (Cf.at ⟨2, 0, [1, 2], [true, false], -1⟩ 1) = 2 := by rfl
  have c1 := pc_Remove ⟨1, 0, [3, 1, 2], [true, true, false], -1⟩ (some 3) (some 3) 3 2 (by unfold Len; simp)
  have c2 := pc_Remove ⟨2, 0, [1, 2], [true, false], -1⟩ none none 1 3 (by unfold Len; simp)
  have c3 := pc_Head ⟨2, 0, [1, 2], [true, false], -1⟩ none none (by unfold Len; simp)
  have c4 := pc_Tail ⟨2, 0, [1, 2], [true, false], -1⟩ none none (by unfold Len; simp)
  rw [e1] at c1
  rw [e2] at c2
  rw [e3] at c3
  have e5 : (((Cf.mk 2 0 [1, 2] [true, false] (-1)).ch.length : Int) - 1) = 1 := by rfl
  rw [e5, e4] at c4
  simp only [Cf.cells, Cf.ret, ints, bools, List.map, List.length_cons, List.length_nil, cf0, Nat.reduceAdd] at c1 c2 c3 c4
  simp -implicitDefEqProofs -dsimp only [go_sem, Nat.reduceEqDiff, Nat.reduceAdd, Nat.reduceMul, Nat.reduceSub, Nat.reduceLT, Nat.reduceLeDiff, Nat.reduceBEq, reduceIte, reduceCtorEq, Int.reduceLT, Int.reduceLE, Int.reduceEq, Int.reduceNeg, Int.reduceToNat, Int.reduceAdd, Int.reduceSub, ↓g_call _ _ c_conf_Remove]
  refine CallK.pure c1 (aft_nil ?_)
  simp -implicitDefEqProofs -dsimp only [go_sem, Nat.reduceEqDiff, Nat.reduceAdd, Nat.reduceMul, Nat.reduceSub, Nat.reduceLT, Nat.reduceLeDiff, Nat.reduceBEq, reduceIte, reduceCtorEq, Int.reduceLT, Int.reduceLE, Int.reduceEq, Int.reduceNeg, Int.reduceToNat, Int.reduceAdd, Int.reduceSub, ↓g_call _ _ c_conf_Remove]
  refine CallK.pure c2 (aft_nil ?_)
  simp -implicitDefEqProofs -dsimp only [go_sem, Nat.reduceEqDiff, Nat.reduceAdd, Nat.reduceMul, Nat.reduceSub, Nat.reduceLT, Nat.reduceLeDiff, Nat.reduceBEq, reduceIte, reduceCtorEq, Int.reduceLT, Int.reduceLE, Int.reduceEq, Int.reduceNeg, Int.reduceToNat, Int.reduceAdd, Int.reduceSub, ↓g_call _ _ c_conf_Conf_Head, decide_true, decide_false]
  refine CallK.pure c3 (aft_nil ?_)
  simp -implicitDefEqProofs -dsimp only [go_sem, Nat.reduceEqDiff, Nat.reduceAdd, Nat.reduceMul, Nat.reduceSub, Nat.reduceLT, Nat.reduceLeDiff, Nat.reduceBEq, reduceIte, reduceCtorEq, Int.reduceLT, Int.reduceLE, Int.reduceEq, Int.reduceNeg, Int.reduceToNat, Int.reduceAdd, Int.reduceSub, ↓g_call _ _ c_conf_Conf_Tail, decide_true, decide_false]
  refine CallK.pure c4 (aft_nil ?_)
  simp -implicitDefEqProofs -dsimp only [go_sem, Nat.reduceEqDiff, Nat.reduceAdd, Nat.reduceMul, Nat.reduceSub, Nat.reduceLT, Nat.reduceLeDiff, Nat.reduceBEq, reduceIte, reduceCtorEq, Int.reduceLT, Int.reduceLE, Int.reduceEq, Int.reduceNeg, Int.reduceToNat, Int.reduceAdd, Int.reduceSub, ↓g_call _ _ c_conf_Conf_Tail, decide_true, decide_false]
  exact finL_pure rfl

theorem pc_ConfRight (c : Rf) (k : Option Nat) (n : Int) (hl : Len c.l.length) : PCalls prog f_sautoirlaw16_ConfRight [.agg (c.cells k), .i .i64 n] (.b true) := by
  refine pcalls_of mixed t_sautoirlaw16_ConfRight (by simp) fun T => ?_
  unfold s_sautoirlaw16_ConfRight
  have ho : c.ours.ch.length ≤ 10 := by simp [Rf.ours, ourCh]; omega
  have hf : c.ours.fu.length = c.ours.ch.length := by simp [Rf.ours, ourCh, ourFu]
  simp -implicitDefEqProofs -dsimp only [go_sem, Nat.reduceEqDiff, Nat.reduceAdd, Nat.reduceMul, Nat.reduceSub, Nat.reduceLT, Nat.reduceLeDiff, Nat.reduceBEq, reduceIte, reduceCtorEq, Int.reduceLT, Int.reduceLE, Int.reduceEq, Int.reduceNeg, Int.reduceToNat, Int.reduceAdd, Int.reduceSub, Rf.cells, ↓g_call _ _ c_sautoirlaw16_Ours]
  refine CallK.pure (pc_Ours c k hl) (aft_nil ?_)
  generalize c.ours = o at ho hf
  have hlo : Len o.ch.length := by unfold Len; omega
  have hlw : Len o.plain.l.length := by rw [o.plain_len]; exact hlo
  simp -implicitDefEqProofs -dsimp only [go_sem, Nat.reduceEqDiff, Nat.reduceAdd, Nat.reduceMul, Nat.reduceSub, Nat.reduceLT, Nat.reduceLeDiff, Nat.reduceBEq, reduceIte, reduceCtorEq, Int.reduceLT, Int.reduceLE, Int.reduceEq, Int.reduceNeg, Int.reduceToNat, Int.reduceAdd, Int.reduceSub, Cf.cells, ↓g_call _ _ c_sautoirlaw16_Plain]
  refine CallK.pure (pc_Plain o none none (by omega)) (aft_nil ?_)
  have hR := o.plain_right hf
  have hE : o.plain.ln = o.ln := rfl
  have hfst := o.plain_fst
  have hlen := o.plain_len
  have cPl := pc_Place o none none n hlo
  have cRi := pc_conf_Right o none none hlo
  have cRR := pc_RRight o.plain none hlw
  have cHd := pc_Head o none none hlo
  have cTl := pc_Tail o none none hlo
  have cNx := pc_Next o none none n hlo
  have cPv := pc_Prev o none none n hlo
  have cHs := pc_Has o none none n hlo
  have cFi := pc_Find o.plain none n hlw
  rw [hR] at cRR
  rw [hfst] at cFi
  clear hR
  generalize o.plain = w at *
  simp -implicitDefEqProofs -dsimp only [go_sem, Nat.reduceEqDiff, Nat.reduceAdd, Nat.reduceMul, Nat.reduceSub, Nat.reduceLT, Nat.reduceLeDiff, Nat.reduceBEq, reduceIte, reduceCtorEq, Int.reduceLT, Int.reduceLE, Int.reduceEq, Int.reduceNeg, Int.reduceToNat, Int.reduceAdd, Int.reduceSub, Cf.cells, Rf.cells, ↓g_call _ _ c_conf_Conf_Place]
  refine CallK.pure cPl (aft_nil ?_)
  simp -implicitDefEqProofs -dsimp only [go_sem, Nat.reduceEqDiff, Nat.reduceAdd, Nat.reduceMul, Nat.reduceSub, Nat.reduceLT, Nat.reduceLeDiff, Nat.reduceBEq, reduceIte, reduceCtorEq, Int.reduceLT, Int.reduceLE, Int.reduceEq, Int.reduceNeg, Int.reduceToNat, Int.reduceAdd, Int.reduceSub, Cf.cells, Rf.cells, ↓g_call _ _ c_conf_Right]
  refine CallK.pure cRi (aft_nil ?_)
  simp -implicitDefEqProofs -dsimp only [go_sem, Nat.reduceEqDiff, Nat.reduceAdd, Nat.reduceMul, Nat.reduceSub, Nat.reduceLT, Nat.reduceLeDiff, Nat.reduceBEq, reduceIte, reduceCtorEq, Int.reduceLT, Int.reduceLE, Int.reduceEq, Int.reduceNeg, Int.reduceToNat, Int.reduceAdd, Int.reduceSub, Cf.cells, Rf.cells, ↓g_call _ _ c_sautoirref16_Right]
  refine CallK.pure cRR (aft_nil ?_)
  cases hr : o.right with
  | false =>
    have e1 : o.place n = -1 := by simp [Cf.place, hr]
    have e2 : ∀ j, o.at j = -1 := fun j => by simp [Cf.at, hr]
    have e3 : o.next n = -1 := by simp [Cf.next, e1]
    have e4 : o.has n = false := by simp [Cf.has, hr]
    rw [hr] at cRR
    rw [e2] at cHd cTl cPv
    rw [e3] at cNx
    rw [e4] at cHs
    simp -implicitDefEqProofs -dsimp only [go_sem, Nat.reduceEqDiff, Nat.reduceAdd, Nat.reduceMul, Nat.reduceSub, Nat.reduceLT, Nat.reduceLeDiff, Nat.reduceBEq, reduceIte, reduceCtorEq, Int.reduceLT, Int.reduceLE, Int.reduceEq, Int.reduceNeg, Int.reduceToNat, Int.reduceAdd, Int.reduceSub, Cf.cells, Rf.cells, ↓g_call _ _ c_sautoirref16_Right, e1, decide_true, decide_false]
    refine CallK.pure cRR (aft_nil ?_)
    simp -implicitDefEqProofs -dsimp only [go_sem, Nat.reduceEqDiff, Nat.reduceAdd, Nat.reduceMul, Nat.reduceSub, Nat.reduceLT, Nat.reduceLeDiff, Nat.reduceBEq, reduceIte, reduceCtorEq, Int.reduceLT, Int.reduceLE, Int.reduceEq, Int.reduceNeg, Int.reduceToNat, Int.reduceAdd, Int.reduceSub, Cf.cells, Rf.cells, ↓g_call _ _ c_conf_Conf_Head, e1, decide_true, decide_false]
    refine CallK.pure cHd (aft_nil ?_)
    simp -implicitDefEqProofs -dsimp only [go_sem, Nat.reduceEqDiff, Nat.reduceAdd, Nat.reduceMul, Nat.reduceSub, Nat.reduceLT, Nat.reduceLeDiff, Nat.reduceBEq, reduceIte, reduceCtorEq, Int.reduceLT, Int.reduceLE, Int.reduceEq, Int.reduceNeg, Int.reduceToNat, Int.reduceAdd, Int.reduceSub, Cf.cells, Rf.cells, ↓g_call _ _ c_conf_Conf_Tail, e1, decide_true, decide_false]
    refine CallK.pure cTl (aft_nil ?_)
    simp -implicitDefEqProofs -dsimp only [go_sem, Nat.reduceEqDiff, Nat.reduceAdd, Nat.reduceMul, Nat.reduceSub, Nat.reduceLT, Nat.reduceLeDiff, Nat.reduceBEq, reduceIte, reduceCtorEq, Int.reduceLT, Int.reduceLE, Int.reduceEq, Int.reduceNeg, Int.reduceToNat, Int.reduceAdd, Int.reduceSub, Cf.cells, Rf.cells, ↓g_call _ _ c_conf_Conf_Next, e1, decide_true, decide_false]
    refine CallK.pure cNx (aft_nil ?_)
    simp -implicitDefEqProofs -dsimp only [go_sem, Nat.reduceEqDiff, Nat.reduceAdd, Nat.reduceMul, Nat.reduceSub, Nat.reduceLT, Nat.reduceLeDiff, Nat.reduceBEq, reduceIte, reduceCtorEq, Int.reduceLT, Int.reduceLE, Int.reduceEq, Int.reduceNeg, Int.reduceToNat, Int.reduceAdd, Int.reduceSub, Cf.cells, Rf.cells, ↓g_call _ _ c_conf_Conf_Prev, e1, decide_true, decide_false]
    refine CallK.pure cPv (aft_nil ?_)
    simp -implicitDefEqProofs -dsimp only [go_sem, Nat.reduceEqDiff, Nat.reduceAdd, Nat.reduceMul, Nat.reduceSub, Nat.reduceLT, Nat.reduceLeDiff, Nat.reduceBEq, reduceIte, reduceCtorEq, Int.reduceLT, Int.reduceLE, Int.reduceEq, Int.reduceNeg, Int.reduceToNat, Int.reduceAdd, Int.reduceSub, Cf.cells, Rf.cells, ↓g_call _ _ c_conf_Conf_Has, e1, decide_true, decide_false]
    refine CallK.pure cHs (aft_nil ?_)
    simp -implicitDefEqProofs -dsimp only [go_sem, Nat.reduceEqDiff, Nat.reduceAdd, Nat.reduceMul, Nat.reduceSub, Nat.reduceLT, Nat.reduceLeDiff, Nat.reduceBEq, reduceIte, reduceCtorEq, Int.reduceLT, Int.reduceLE, Int.reduceEq, Int.reduceNeg, Int.reduceToNat, Int.reduceAdd, Int.reduceSub, Cf.cells, Rf.cells, ↓g_call _ _ c_sautoirlaw16_awake, e1, decide_true, decide_false]
    refine CallK.pure pc_awake (aft_nil ?_)
    simp -implicitDefEqProofs -dsimp only [go_sem, Nat.reduceEqDiff, Nat.reduceAdd, Nat.reduceMul, Nat.reduceSub, Nat.reduceLT, Nat.reduceLeDiff, Nat.reduceBEq, reduceIte, reduceCtorEq, Int.reduceLT, Int.reduceLE, Int.reduceEq, Int.reduceNeg, Int.reduceToNat, Int.reduceAdd, Int.reduceSub]
    exact finL_pure rfl
  | true =>
    simp -implicitDefEqProofs -dsimp only [go_sem, Nat.reduceEqDiff, Nat.reduceAdd, Nat.reduceMul, Nat.reduceSub, Nat.reduceLT, Nat.reduceLeDiff, Nat.reduceBEq, reduceIte, reduceCtorEq, Int.reduceLT, Int.reduceLE, Int.reduceEq, Int.reduceNeg, Int.reduceToNat, Int.reduceAdd, Int.reduceSub, Cf.cells, Rf.cells, ↓g_call _ _ c_sautoirref16_Right, decide_true, decide_false]
    obtain ⟨r1, r2, r3⟩ := Cf.right_len hr
    rw [hr] at cRR
    refine CallK.pure cRR (aft_nil ?_)
    simp -implicitDefEqProofs -dsimp only [go_sem, Nat.reduceEqDiff, Nat.reduceAdd, Nat.reduceMul, Nat.reduceSub, Nat.reduceLT, Nat.reduceLeDiff, Nat.reduceBEq, reduceIte, reduceCtorEq, Int.reduceLT, Int.reduceLE, Int.reduceEq, Int.reduceNeg, Int.reduceToNat, Int.reduceAdd, Int.reduceSub, Cf.cells, Rf.cells, ↓g_call _ _ c_sautoirref16_Find, decide_true, decide_false]
    refine CallK.pure cFi (aft_nil ?_)
    have hpl : o.place n = ixI n o.ch := by simp [Cf.place, hr]
    have hix := ixI_lt n o.ch
    have hget : ∀ j (h : j < o.ch.length), ∃ b, w.l[j]? = some (o.ch[j], b) := fun j h => by
      have e1 : w.l[j]? = some w.l[j] := List.getElem?_eq_getElem (by omega)
      have e2 : (w.l.map (·.1))[j]? = some o.ch[j] := by rw [hfst]; exact List.getElem?_eq_getElem h
      rw [List.getElem?_map, e1] at e2
      injection e2 with e2
      exact ⟨w.l[j].2, by rw [e1, ← e2]⟩
    have hat : ∀ j (h : j < o.ch.length), o.at (j : Int) = o.ch[j] := fun j h => by
      rw [Cf.at, if_pos ⟨hr, by omega, by omega⟩, Int.toNat_natCast, List.getElem?_eq_getElem h]; rfl
    have hmin : ∀ j : Int, (j < 0 ∨ (o.ch.length : Int) ≤ j) → o.at j = -1 := fun j h => by rw [Cf.at, if_neg (by omega)]
    obtain ⟨b0, g0⟩ := hget 0 r1
    obtain ⟨bl, gl⟩ := hget (o.ch.length - 1) (by omega)
    have t0 := hat 0 r1
    have tl := hat (o.ch.length - 1) (by omega)
    have m0 := mem_at g0
    have ml := mem_at gl
    have u1 : ((o.ch.length : Int) - 1) = ((o.ch.length - 1 : Nat) : Int) := by omega
    have u2 : IntKind.i64.wrap ((o.ch.length - 1 : Nat) : Int) = ((o.ch.length - 1 : Nat) : Int) := wrap_i64 (by unfold I64; omega)
    have u3 : ((o.ch.length - 1 : Nat) : Int) < (o.ch.length : Int) := by omega
    have u4 : (0 : Int) < (o.ch.length : Int) := by omega
    have m0' : (mem w.l).drop 0 = _ := m0
    rw [u1, tl] at cTl
    rw [show ((0 : Nat) : Int) = 0 from rfl] at t0
    rw [t0] at cHd
    rcases (show ixI n o.ch = -1 ∨ ∃ j : Nat, ixI n o.ch = j from by by_cases h : ixI n o.ch = -1; exact .inl h; exact .inr ⟨(ixI n o.ch).toNat, by omega⟩) with hi | ⟨j, hi⟩
    · have e3 : o.next n = -1 := by simp [Cf.next, hpl, hi]
      have e4 : o.has n = (decide (0 ≤ n) && decide (n = o.ln)) := by simp [Cf.has, hr, ctn, hi]
      rw [hpl, hi, hmin _ (by omega)] at cPv
      rw [e3] at cNx
      rw [e4] at cHs
      rw [hpl, hi]
      simp -implicitDefEqProofs -dsimp only [go_sem, Nat.reduceEqDiff, Nat.reduceAdd, Nat.reduceMul, Nat.reduceSub, Nat.reduceLT, Nat.reduceLeDiff, Nat.reduceBEq, reduceIte, reduceCtorEq, Int.reduceLT, Int.reduceLE, Int.reduceEq, Int.reduceNeg, Int.reduceToNat, Int.reduceAdd, Int.reduceSub, Cf.cells, Rf.cells, ↓g_gdc, ↓g_call _ _ c_conf_Conf_Head, decide_true, decide_false, hlen, u4, m0', List.drop_zero]
      refine CallK.pure cHd (aft_rc (fun _ => ?_) ?_)
      · exact ⟨rfl, trivial⟩
      simp -implicitDefEqProofs -dsimp only [go_sem, Nat.reduceEqDiff, Nat.reduceAdd, Nat.reduceMul, Nat.reduceSub, Nat.reduceLT, Nat.reduceLeDiff, Nat.reduceBEq, reduceIte, reduceCtorEq, Int.reduceLT, Int.reduceLE, Int.reduceEq, Int.reduceNeg, Int.reduceToNat, Int.reduceAdd, Int.reduceSub, Cf.cells, Rf.cells, ↓g_gdc, ↓g_call _ _ c_conf_Conf_Tail, decide_true, decide_false, hlen, u1, u2, u3, ml, List.drop_zero, Int.natCast_nonneg, Int.toNat_natCast]
      refine CallK.pure cTl (aft_rc (fun _ => ?_) ?_)
      · exact ⟨rfl, trivial⟩
      simp -implicitDefEqProofs -dsimp only [go_sem, Nat.reduceEqDiff, Nat.reduceAdd, Nat.reduceMul, Nat.reduceSub, Nat.reduceLT, Nat.reduceLeDiff, Nat.reduceBEq, reduceIte, reduceCtorEq, Int.reduceLT, Int.reduceLE, Int.reduceEq, Int.reduceNeg, Int.reduceToNat, Int.reduceAdd, Int.reduceSub, Cf.cells, Rf.cells, ↓g_gdc, ↓g_call _ _ c_conf_Conf_Next, decide_true, decide_false]
      refine CallK.pure cNx (aft_nil ?_)
      simp -implicitDefEqProofs -dsimp only [go_sem, Nat.reduceEqDiff, Nat.reduceAdd, Nat.reduceMul, Nat.reduceSub, Nat.reduceLT, Nat.reduceLeDiff, Nat.reduceBEq, reduceIte, reduceCtorEq, Int.reduceLT, Int.reduceLE, Int.reduceEq, Int.reduceNeg, Int.reduceToNat, Int.reduceAdd, Int.reduceSub, Cf.cells, Rf.cells, ↓g_gdc, ↓g_call _ _ c_conf_Conf_Prev, decide_true, decide_false]
      refine CallK.pure cPv (aft_nil ?_)
      simp -implicitDefEqProofs -dsimp only [go_sem, Nat.reduceEqDiff, Nat.reduceAdd, Nat.reduceMul, Nat.reduceSub, Nat.reduceLT, Nat.reduceLeDiff, Nat.reduceBEq, reduceIte, reduceCtorEq, Int.reduceLT, Int.reduceLE, Int.reduceEq, Int.reduceNeg, Int.reduceToNat, Int.reduceAdd, Int.reduceSub, Cf.cells, Rf.cells, ↓g_gdc, ↓g_call _ _ c_conf_Conf_Has, decide_true, decide_false]
      refine CallK.pure cHs (aft_nil ?_)
      simp -implicitDefEqProofs -dsimp only [go_sem, Nat.reduceEqDiff, Nat.reduceAdd, Nat.reduceMul, Nat.reduceSub, Nat.reduceLT, Nat.reduceLeDiff, Nat.reduceBEq, reduceIte, reduceCtorEq, Int.reduceLT, Int.reduceLE, Int.reduceEq, Int.reduceNeg, Int.reduceToNat, Int.reduceAdd, Int.reduceSub, Cf.cells, Rf.cells, ↓g_call _ _ c_sautoirlaw16_awake, decide_true, decide_false]
      refine br_split (fun h5 => ?_) (fun h5 => ?_) <;> simp -implicitDefEqProofs -dsimp only [go_sem, Nat.reduceEqDiff, Nat.reduceAdd, Nat.reduceMul, Nat.reduceSub, Nat.reduceLT, Nat.reduceLeDiff, Nat.reduceBEq, reduceIte, reduceCtorEq, Int.reduceLT, Int.reduceLE, Int.reduceEq, Int.reduceNeg, Int.reduceToNat, Int.reduceAdd, Int.reduceSub, h5, hE, Cf.cells, Rf.cells, ↓g_call _ _ c_sautoirlaw16_awake, decide_true, decide_false, Bool.true_and, Bool.false_and, eq_self, and_true, and_false, BEq.rfl, beq_self_eq_true]
      all_goals
        refine CallK.pure pc_awake (aft_nil ?_)
        simp -implicitDefEqProofs -dsimp only [go_sem, Nat.reduceEqDiff, Nat.reduceAdd, Nat.reduceMul, Nat.reduceSub, Nat.reduceLT, Nat.reduceLeDiff, Nat.reduceBEq, reduceIte, reduceCtorEq, Int.reduceLT, Int.reduceLE, Int.reduceEq, Int.reduceNeg, Int.reduceToNat, Int.reduceAdd, Int.reduceSub]
        exact finL_pure rfl
    · have hj : j < o.ch.length := by omega
      obtain ⟨b1, g1⟩ := hget j hj
      have v0 : (0 : Int) ≤ (j : Int) := by omega
      have v1 : IntKind.i64.wrap ((j : Int) + 1) = ((j + 1 : Nat) : Int) := wrap_succ (by omega)
      have hc : ctn o.ch n = true := by simp [ctn, hi]
      have hn0 : 0 ≤ n := by
        have h1 : n ∈ o.ch := by rw [ctn_any] at hc; exact of_decide_eq_true hc
        have h2 : newF o.ch o.ch 0 = true := by
          have := hr
          simp only [Cf.right, Bool.and_eq_true] at this
          exact this.2
        exact (new_srv o.ch 0 h2 n h1).1
      have e4 : o.has n = true := by simp [Cf.has, hr, hc, hn0]
      rw [hpl, hi] at cPv
      rw [e4] at cHs
      rw [hpl, hi]
      have hnx : ∃ nx, o.next n = nx ∧ ((j + 1 < o.ch.length ∧ ∃ b, w.l[j + 1]? = some (nx, b)) ∨ (¬ j + 1 < o.ch.length ∧ nx = -1)) := by
        refine ⟨_, rfl, ?_⟩
        rw [Cf.next, hpl, hi, if_neg (by omega)]
        by_cases h : j + 1 < o.ch.length
        · obtain ⟨b, g⟩ := hget (j + 1) h
          exact .inl ⟨h, b, by rw [← Int.natCast_succ, hat (j + 1) h]; exact g⟩
        · exact .inr ⟨h, hmin _ (by omega)⟩
      have hpv : ∃ pv, o.at (j - 1) = pv ∧ ((0 < j ∧ ∃ b, w.l[j - 1]? = some (pv, b)) ∨ (¬ 0 < j ∧ pv = -1)) := by
        refine ⟨_, rfl, ?_⟩
        by_cases h : 0 < j
        · obtain ⟨b, g⟩ := hget (j - 1) (by omega)
          refine .inl ⟨h, b, ?_⟩
          rw [show ((j : Int) - 1) = ((j - 1 : Nat) : Int) by omega, hat (j - 1) (by omega)]
          exact g
        · exact .inr ⟨h, hmin _ (by omega)⟩
      obtain ⟨nx, x1, x2⟩ := hnx
      obtain ⟨pv, y1, y2⟩ := hpv
      rw [x1] at cNx
      rw [y1] at cPv
      rcases x2 with ⟨x2, b2, x3⟩ | ⟨x2, rfl⟩ <;> rcases y2 with ⟨y2, b3, y3⟩ | ⟨y2, rfl⟩
      · have z1 : ((j + 1 : Nat) : Int) < (o.ch.length : Int) := by omega
        have z2 := mem_at x3
        have z3 := mem_at y3
        have z4 : (0 : Int) < (j : Int) := by omega
        have z5 : IntKind.i64.wrap ((j : Int) - 1) = ((j - 1 : Nat) : Int) := by rw [wrap_i64 (by unfold I64; omega)]; omega
        have z6 : ((j - 1 : Nat) : Int) < (o.ch.length : Int) := by omega
        simp -implicitDefEqProofs -dsimp only [go_sem, Nat.reduceEqDiff, Nat.reduceAdd, Nat.reduceMul, Nat.reduceSub, Nat.reduceLT, Nat.reduceLeDiff, Nat.reduceBEq, reduceIte, reduceCtorEq, Int.reduceLT, Int.reduceLE, Int.reduceEq, Int.reduceNeg, Int.reduceToNat, Int.reduceAdd, Int.reduceSub, Cf.cells, Rf.cells, ↓g_gdc, ↓g_call _ _ c_conf_Conf_Head, decide_true, decide_false, hlen, u4, m0', List.drop_zero, v0, v1, z1, z2, z3, z4, z5, z6, Int.natCast_nonneg, Int.toNat_natCast]
        refine CallK.pure cHd (aft_rc (fun _ => ?_) ?_)
        · exact ⟨rfl, trivial⟩
        simp -implicitDefEqProofs -dsimp only [go_sem, Nat.reduceEqDiff, Nat.reduceAdd, Nat.reduceMul, Nat.reduceSub, Nat.reduceLT, Nat.reduceLeDiff, Nat.reduceBEq, reduceIte, reduceCtorEq, Int.reduceLT, Int.reduceLE, Int.reduceEq, Int.reduceNeg, Int.reduceToNat, Int.reduceAdd, Int.reduceSub, Cf.cells, Rf.cells, ↓g_gdc, ↓g_call _ _ c_conf_Conf_Tail, decide_true, decide_false, hlen, u1, u2, u3, ml, List.drop_zero, Int.natCast_nonneg, Int.toNat_natCast]
        refine CallK.pure cTl (aft_rc (fun _ => ?_) ?_)
        · exact ⟨rfl, trivial⟩
        simp -implicitDefEqProofs -dsimp only [go_sem, Nat.reduceEqDiff, Nat.reduceAdd, Nat.reduceMul, Nat.reduceSub, Nat.reduceLT, Nat.reduceLeDiff, Nat.reduceBEq, reduceIte, reduceCtorEq, Int.reduceLT, Int.reduceLE, Int.reduceEq, Int.reduceNeg, Int.reduceToNat, Int.reduceAdd, Int.reduceSub, Cf.cells, Rf.cells, ↓g_gdc, ↓g_call _ _ c_conf_Conf_Next, decide_true, decide_false]
        refine CallK.pure cNx (aft_nil ?_)
        simp -implicitDefEqProofs -dsimp only [go_sem, Nat.reduceEqDiff, Nat.reduceAdd, Nat.reduceMul, Nat.reduceSub, Nat.reduceLT, Nat.reduceLeDiff, Nat.reduceBEq, reduceIte, reduceCtorEq, Int.reduceLT, Int.reduceLE, Int.reduceEq, Int.reduceNeg, Int.reduceToNat, Int.reduceAdd, Int.reduceSub, Cf.cells, Rf.cells, ↓g_gdc, ↓g_call _ _ c_conf_Conf_Prev, decide_true, decide_false]
        refine CallK.pure cPv (aft_nil ?_)
        simp -implicitDefEqProofs -dsimp only [go_sem, Nat.reduceEqDiff, Nat.reduceAdd, Nat.reduceMul, Nat.reduceSub, Nat.reduceLT, Nat.reduceLeDiff, Nat.reduceBEq, reduceIte, reduceCtorEq, Int.reduceLT, Int.reduceLE, Int.reduceEq, Int.reduceNeg, Int.reduceToNat, Int.reduceAdd, Int.reduceSub, Cf.cells, Rf.cells, ↓g_gdc, ↓g_call _ _ c_conf_Conf_Has, decide_true, decide_false, v0]
        refine CallK.pure cHs (aft_nil ?_)
        simp -implicitDefEqProofs -dsimp only [go_sem, Nat.reduceEqDiff, Nat.reduceAdd, Nat.reduceMul, Nat.reduceSub, Nat.reduceLT, Nat.reduceLeDiff, Nat.reduceBEq, reduceIte, reduceCtorEq, Int.reduceLT, Int.reduceLE, Int.reduceEq, Int.reduceNeg, Int.reduceToNat, Int.reduceAdd, Int.reduceSub, Cf.cells, Rf.cells, ↓g_call _ _ c_sautoirlaw16_awake, decide_true, decide_false, v0]
        refine CallK.pure pc_awake (aft_nil ?_)
        simp -implicitDefEqProofs -dsimp only [go_sem, Nat.reduceEqDiff, Nat.reduceAdd, Nat.reduceMul, Nat.reduceSub, Nat.reduceLT, Nat.reduceLeDiff, Nat.reduceBEq, reduceIte, reduceCtorEq, Int.reduceLT, Int.reduceLE, Int.reduceEq, Int.reduceNeg, Int.reduceToNat, Int.reduceAdd, Int.reduceSub]
        exact finL_pure rfl
      · have z1 : ((j + 1 : Nat) : Int) < (o.ch.length : Int) := by omega
        have z2 := mem_at x3
        have z3 := trivial
        have z4 : ((0 : Int) < (j : Int)) = False := by simp; omega
        have z5 := trivial
        have z6 : ((j - 1 : Nat) : Int) < (o.ch.length : Int) := by omega
        simp -implicitDefEqProofs -dsimp only [go_sem, Nat.reduceEqDiff, Nat.reduceAdd, Nat.reduceMul, Nat.reduceSub, Nat.reduceLT, Nat.reduceLeDiff, Nat.reduceBEq, reduceIte, reduceCtorEq, Int.reduceLT, Int.reduceLE, Int.reduceEq, Int.reduceNeg, Int.reduceToNat, Int.reduceAdd, Int.reduceSub, Cf.cells, Rf.cells, ↓g_gdc, ↓g_call _ _ c_conf_Conf_Head, decide_true, decide_false, hlen, u4, m0', List.drop_zero, v0, v1, z1, z2, z3, z4, z5, z6, Int.natCast_nonneg, Int.toNat_natCast]
        refine CallK.pure cHd (aft_rc (fun _ => ?_) ?_)
        · exact ⟨rfl, trivial⟩
        simp -implicitDefEqProofs -dsimp only [go_sem, Nat.reduceEqDiff, Nat.reduceAdd, Nat.reduceMul, Nat.reduceSub, Nat.reduceLT, Nat.reduceLeDiff, Nat.reduceBEq, reduceIte, reduceCtorEq, Int.reduceLT, Int.reduceLE, Int.reduceEq, Int.reduceNeg, Int.reduceToNat, Int.reduceAdd, Int.reduceSub, Cf.cells, Rf.cells, ↓g_gdc, ↓g_call _ _ c_conf_Conf_Tail, decide_true, decide_false, hlen, u1, u2, u3, ml, List.drop_zero, Int.natCast_nonneg, Int.toNat_natCast]
        refine CallK.pure cTl (aft_rc (fun _ => ?_) ?_)
        · exact ⟨rfl, trivial⟩
        simp -implicitDefEqProofs -dsimp only [go_sem, Nat.reduceEqDiff, Nat.reduceAdd, Nat.reduceMul, Nat.reduceSub, Nat.reduceLT, Nat.reduceLeDiff, Nat.reduceBEq, reduceIte, reduceCtorEq, Int.reduceLT, Int.reduceLE, Int.reduceEq, Int.reduceNeg, Int.reduceToNat, Int.reduceAdd, Int.reduceSub, Cf.cells, Rf.cells, ↓g_gdc, ↓g_call _ _ c_conf_Conf_Next, decide_true, decide_false]
        refine CallK.pure cNx (aft_nil ?_)
        simp -implicitDefEqProofs -dsimp only [go_sem, Nat.reduceEqDiff, Nat.reduceAdd, Nat.reduceMul, Nat.reduceSub, Nat.reduceLT, Nat.reduceLeDiff, Nat.reduceBEq, reduceIte, reduceCtorEq, Int.reduceLT, Int.reduceLE, Int.reduceEq, Int.reduceNeg, Int.reduceToNat, Int.reduceAdd, Int.reduceSub, Cf.cells, Rf.cells, ↓g_gdc, ↓g_call _ _ c_conf_Conf_Prev, decide_true, decide_false]
        refine CallK.pure cPv (aft_nil ?_)
        simp -implicitDefEqProofs -dsimp only [go_sem, Nat.reduceEqDiff, Nat.reduceAdd, Nat.reduceMul, Nat.reduceSub, Nat.reduceLT, Nat.reduceLeDiff, Nat.reduceBEq, reduceIte, reduceCtorEq, Int.reduceLT, Int.reduceLE, Int.reduceEq, Int.reduceNeg, Int.reduceToNat, Int.reduceAdd, Int.reduceSub, Cf.cells, Rf.cells, ↓g_gdc, ↓g_call _ _ c_conf_Conf_Has, decide_true, decide_false, v0]
        refine CallK.pure cHs (aft_nil ?_)
        simp -implicitDefEqProofs -dsimp only [go_sem, Nat.reduceEqDiff, Nat.reduceAdd, Nat.reduceMul, Nat.reduceSub, Nat.reduceLT, Nat.reduceLeDiff, Nat.reduceBEq, reduceIte, reduceCtorEq, Int.reduceLT, Int.reduceLE, Int.reduceEq, Int.reduceNeg, Int.reduceToNat, Int.reduceAdd, Int.reduceSub, Cf.cells, Rf.cells, ↓g_call _ _ c_sautoirlaw16_awake, decide_true, decide_false, v0]
        refine CallK.pure pc_awake (aft_nil ?_)
        simp -implicitDefEqProofs -dsimp only [go_sem, Nat.reduceEqDiff, Nat.reduceAdd, Nat.reduceMul, Nat.reduceSub, Nat.reduceLT, Nat.reduceLeDiff, Nat.reduceBEq, reduceIte, reduceCtorEq, Int.reduceLT, Int.reduceLE, Int.reduceEq, Int.reduceNeg, Int.reduceToNat, Int.reduceAdd, Int.reduceSub]
        exact finL_pure rfl
      · have z1 : (((j + 1 : Nat) : Int) < (o.ch.length : Int)) = False := by simp; omega
        have z2 := trivial
        have z3 := mem_at y3
        have z4 : (0 : Int) < (j : Int) := by omega
        have z5 : IntKind.i64.wrap ((j : Int) - 1) = ((j - 1 : Nat) : Int) := by rw [wrap_i64 (by unfold I64; omega)]; omega
        have z6 : ((j - 1 : Nat) : Int) < (o.ch.length : Int) := by omega
        simp -implicitDefEqProofs -dsimp only [go_sem, Nat.reduceEqDiff, Nat.reduceAdd, Nat.reduceMul, Nat.reduceSub, Nat.reduceLT, Nat.reduceLeDiff, Nat.reduceBEq, reduceIte, reduceCtorEq, Int.reduceLT, Int.reduceLE, Int.reduceEq, Int.reduceNeg, Int.reduceToNat, Int.reduceAdd, Int.reduceSub, Cf.cells, Rf.cells, ↓g_gdc, ↓g_call _ _ c_conf_Conf_Head, decide_true, decide_false, hlen, u4, m0', List.drop_zero, v0, v1, z1, z2, z3, z4, z5, z6, Int.natCast_nonneg, Int.toNat_natCast]
        refine CallK.pure cHd (aft_rc (fun _ => ?_) ?_)
        · exact ⟨rfl, trivial⟩
        simp -implicitDefEqProofs -dsimp only [go_sem, Nat.reduceEqDiff, Nat.reduceAdd, Nat.reduceMul, Nat.reduceSub, Nat.reduceLT, Nat.reduceLeDiff, Nat.reduceBEq, reduceIte, reduceCtorEq, Int.reduceLT, Int.reduceLE, Int.reduceEq, Int.reduceNeg, Int.reduceToNat, Int.reduceAdd, Int.reduceSub, Cf.cells, Rf.cells, ↓g_gdc, ↓g_call _ _ c_conf_Conf_Tail, decide_true, decide_false, hlen, u1, u2, u3, ml, List.drop_zero, Int.natCast_nonneg, Int.toNat_natCast]
        refine CallK.pure cTl (aft_rc (fun _ => ?_) ?_)
        · exact ⟨rfl, trivial⟩
        simp -implicitDefEqProofs -dsimp only [go_sem, Nat.reduceEqDiff, Nat.reduceAdd, Nat.reduceMul, Nat.reduceSub, Nat.reduceLT, Nat.reduceLeDiff, Nat.reduceBEq, reduceIte, reduceCtorEq, Int.reduceLT, Int.reduceLE, Int.reduceEq, Int.reduceNeg, Int.reduceToNat, Int.reduceAdd, Int.reduceSub, Cf.cells, Rf.cells, ↓g_gdc, ↓g_call _ _ c_conf_Conf_Next, decide_true, decide_false]
        refine CallK.pure cNx (aft_nil ?_)
        simp -implicitDefEqProofs -dsimp only [go_sem, Nat.reduceEqDiff, Nat.reduceAdd, Nat.reduceMul, Nat.reduceSub, Nat.reduceLT, Nat.reduceLeDiff, Nat.reduceBEq, reduceIte, reduceCtorEq, Int.reduceLT, Int.reduceLE, Int.reduceEq, Int.reduceNeg, Int.reduceToNat, Int.reduceAdd, Int.reduceSub, Cf.cells, Rf.cells, ↓g_gdc, ↓g_call _ _ c_conf_Conf_Prev, decide_true, decide_false]
        refine CallK.pure cPv (aft_nil ?_)
        simp -implicitDefEqProofs -dsimp only [go_sem, Nat.reduceEqDiff, Nat.reduceAdd, Nat.reduceMul, Nat.reduceSub, Nat.reduceLT, Nat.reduceLeDiff, Nat.reduceBEq, reduceIte, reduceCtorEq, Int.reduceLT, Int.reduceLE, Int.reduceEq, Int.reduceNeg, Int.reduceToNat, Int.reduceAdd, Int.reduceSub, Cf.cells, Rf.cells, ↓g_gdc, ↓g_call _ _ c_conf_Conf_Has, decide_true, decide_false, v0]
        refine CallK.pure cHs (aft_nil ?_)
        simp -implicitDefEqProofs -dsimp only [go_sem, Nat.reduceEqDiff, Nat.reduceAdd, Nat.reduceMul, Nat.reduceSub, Nat.reduceLT, Nat.reduceLeDiff, Nat.reduceBEq, reduceIte, reduceCtorEq, Int.reduceLT, Int.reduceLE, Int.reduceEq, Int.reduceNeg, Int.reduceToNat, Int.reduceAdd, Int.reduceSub, Cf.cells, Rf.cells, ↓g_call _ _ c_sautoirlaw16_awake, decide_true, decide_false, v0]
        refine CallK.pure pc_awake (aft_nil ?_)
        simp -implicitDefEqProofs -dsimp only [go_sem, Nat.reduceEqDiff, Nat.reduceAdd, Nat.reduceMul, Nat.reduceSub, Nat.reduceLT, Nat.reduceLeDiff, Nat.reduceBEq, reduceIte, reduceCtorEq, Int.reduceLT, Int.reduceLE, Int.reduceEq, Int.reduceNeg, Int.reduceToNat, Int.reduceAdd, Int.reduceSub]
        exact finL_pure rfl
      · have z1 : (((j + 1 : Nat) : Int) < (o.ch.length : Int)) = False := by simp; omega
        have z2 := trivial
        have z3 := trivial
        have z4 : ((0 : Int) < (j : Int)) = False := by simp; omega
        have z5 := trivial
        have z6 : ((j - 1 : Nat) : Int) < (o.ch.length : Int) := by omega
        simp -implicitDefEqProofs -dsimp only [go_sem, Nat.reduceEqDiff, Nat.reduceAdd, Nat.reduceMul, Nat.reduceSub, Nat.reduceLT, Nat.reduceLeDiff, Nat.reduceBEq, reduceIte, reduceCtorEq, Int.reduceLT, Int.reduceLE, Int.reduceEq, Int.reduceNeg, Int.reduceToNat, Int.reduceAdd, Int.reduceSub, Cf.cells, Rf.cells, ↓g_gdc, ↓g_call _ _ c_conf_Conf_Head, decide_true, decide_false, hlen, u4, m0', List.drop_zero, v0, v1, z1, z2, z3, z4, z5, z6, Int.natCast_nonneg, Int.toNat_natCast]
        refine CallK.pure cHd (aft_rc (fun _ => ?_) ?_)
        · exact ⟨rfl, trivial⟩
        simp -implicitDefEqProofs -dsimp only [go_sem, Nat.reduceEqDiff, Nat.reduceAdd, Nat.reduceMul, Nat.reduceSub, Nat.reduceLT, Nat.reduceLeDiff, Nat.reduceBEq, reduceIte, reduceCtorEq, Int.reduceLT, Int.reduceLE, Int.reduceEq, Int.reduceNeg, Int.reduceToNat, Int.reduceAdd, Int.reduceSub, Cf.cells, Rf.cells, ↓g_gdc, ↓g_call _ _ c_conf_Conf_Tail, decide_true, decide_false, hlen, u1, u2, u3, ml, List.drop_zero, Int.natCast_nonneg, Int.toNat_natCast]
        refine CallK.pure cTl (aft_rc (fun _ => ?_) ?_)
        · exact ⟨rfl, trivial⟩
        simp -implicitDefEqProofs -dsimp only [go_sem, Nat.reduceEqDiff, Nat.reduceAdd, Nat.reduceMul, Nat.reduceSub, Nat.reduceLT, Nat.reduceLeDiff, Nat.reduceBEq, reduceIte, reduceCtorEq, Int.reduceLT, Int.reduceLE, Int.reduceEq, Int.reduceNeg, Int.reduceToNat, Int.reduceAdd, Int.reduceSub, Cf.cells, Rf.cells, ↓g_gdc, ↓g_call _ _ c_conf_Conf_Next, decide_true, decide_false]
        refine CallK.pure cNx (aft_nil ?_)
        simp -implicitDefEqProofs -dsimp only [go_sem, Nat.reduceEqDiff, Nat.reduceAdd, Nat.reduceMul, Nat.reduceSub, Nat.reduceLT, Nat.reduceLeDiff, Nat.reduceBEq, reduceIte, reduceCtorEq, Int.reduceLT, Int.reduceLE, Int.reduceEq, Int.reduceNeg, Int.reduceToNat, Int.reduceAdd, Int.reduceSub, Cf.cells, Rf.cells, ↓g_gdc, ↓g_call _ _ c_conf_Conf_Prev, decide_true, decide_false]
        refine CallK.pure cPv (aft_nil ?_)
        simp -implicitDefEqProofs -dsimp only [go_sem, Nat.reduceEqDiff, Nat.reduceAdd, Nat.reduceMul, Nat.reduceSub, Nat.reduceLT, Nat.reduceLeDiff, Nat.reduceBEq, reduceIte, reduceCtorEq, Int.reduceLT, Int.reduceLE, Int.reduceEq, Int.reduceNeg, Int.reduceToNat, Int.reduceAdd, Int.reduceSub, Cf.cells, Rf.cells, ↓g_gdc, ↓g_call _ _ c_conf_Conf_Has, decide_true, decide_false, v0]
        refine CallK.pure cHs (aft_nil ?_)
        simp -implicitDefEqProofs -dsimp only [go_sem, Nat.reduceEqDiff, Nat.reduceAdd, Nat.reduceMul, Nat.reduceSub, Nat.reduceLT, Nat.reduceLeDiff, Nat.reduceBEq, reduceIte, reduceCtorEq, Int.reduceLT, Int.reduceLE, Int.reduceEq, Int.reduceNeg, Int.reduceToNat, Int.reduceAdd, Int.reduceSub, Cf.cells, Rf.cells, ↓g_call _ _ c_sautoirlaw16_awake, decide_true, decide_false, v0]
        refine CallK.pure pc_awake (aft_nil ?_)
        simp -implicitDefEqProofs -dsimp only [go_sem, Nat.reduceEqDiff, Nat.reduceAdd, Nat.reduceMul, Nat.reduceSub, Nat.reduceLT, Nat.reduceLeDiff, Nat.reduceBEq, reduceIte, reduceCtorEq, Int.reduceLT, Int.reduceLE, Int.reduceEq, Int.reduceNeg, Int.reduceToNat, Int.reduceAdd, Int.reduceSub]
        exact finL_pure rfl
end Go.Aw
