import Derived.Test.YtdgknlkijgomoaaDoorF04V
namespace Go.Aw
open Go
open Go.Proofs.Tryd (prog)
set_option linter.all false
set_option maxHeartbeats 4000000

theorem nx_code {b w : List UInt8} {e : Int} (h : nxE b = some (w, e)) : e ≠ 0 := by
  unfold nxE at h
  intro e0; subst e0
  split at h; · cases h
  split at h; · cases h
  split at h; · cases h
  split at h; · cases h
  split at h; · cases h
  split at h <;> cases h
theorem op_code {b : List UInt8} {er : Er} (h : opE b = some er) : ¬ er.code = 0 := by
  unfold opE at h
  rcases hn : nxE b with _ | ⟨w, e⟩
  · rw [hn] at h
    simp only at h
    split at h
    · injection h with h; subst h; decide
    · cases h
  · rw [hn] at h
    injection h with h; subst h
    exact nx_code hn
theorem pc_FrameBursts (b : List UInt8) (cap : Option Nat) (a : Nat) (m : W) (hl : Len b.length) (ha : a < 65536) : PCalls prog f_sautoirlaw04_FrameBursts [bts b cap, .i .u16 a, wv m] (.b true) := by
  refine pcalls_of mixed t_sautoirlaw04_FrameBursts (by simp) fun T => ?_
  unfold s_sautoirlaw04_FrameBursts
  simp -implicitDefEqProofs -dsimp only [go_sem, Nat.reduceEqDiff, Nat.reduceAdd, Nat.reduceMul, Nat.reduceSub, Nat.reduceLT, Nat.reduceLeDiff, Nat.reduceBEq, reduceIte, reduceCtorEq, Int.reduceLT, Int.reduceLE, Int.reduceEq, Int.reduceNeg, Int.reduceToNat, Int.reduceAdd, Int.reduceSub, ↓g_call _ _ c_sautoirlaw04_few]
  refine CallK.pure (pc_few b cap hl) (aft_nil ?_)
  have h200 := few_len b
  generalize fewL b = q at h200 ⊢
  have cP := pc_Put q none (by omega)
  by_cases h0 : q.length = 0
  · have e : putR q = .tup [.fz 0 [] (some 0), .i .i64 1] := by unfold putR putOk; rw [decide_eq_false (by omega)]; rfl
    have d0 : decide ((q.length : Int) = 0) = true := decide_eq_true (by omega)
    have d1 : decide ((0 : Int) < q.length) = false := decide_eq_false (by omega)
    rw [e] at cP
    simp -implicitDefEqProofs -dsimp only [go_sem, Nat.reduceEqDiff, Nat.reduceAdd, Nat.reduceMul, Nat.reduceSub, Nat.reduceLT, Nat.reduceLeDiff, Nat.reduceBEq, reduceIte, reduceCtorEq, Int.reduceLT, Int.reduceLE, Int.reduceEq, Int.reduceNeg, Int.reduceToNat, Int.reduceAdd, Int.reduceSub, ↓g_call _ _ c_frame_Put]
    refine CallK.pure cP (aft_nil ?_)
    simp -implicitDefEqProofs -dsimp only [go_sem, Nat.reduceEqDiff, Nat.reduceAdd, Nat.reduceMul, Nat.reduceSub, Nat.reduceLT, Nat.reduceLeDiff, Nat.reduceBEq, reduceIte, reduceCtorEq, Int.reduceLT, Int.reduceLE, Int.reduceEq, Int.reduceNeg, Int.reduceToNat, Int.reduceAdd, Int.reduceSub, d0, d1, ↓g_gdc, rcOk, true_and, decide_true, decide_false, ↓g_call _ _ c_sautoirlaw04_awake]
    refine CallK.pure pc_awake (aft_nil ?_)
    simp -implicitDefEqProofs -dsimp only [go_sem, Nat.reduceEqDiff, Nat.reduceAdd, Nat.reduceMul, Nat.reduceSub, Nat.reduceLT, Nat.reduceLeDiff, Nat.reduceBEq, reduceIte, reduceCtorEq, Int.reduceLT, Int.reduceLE, Int.reduceEq, Int.reduceNeg, Int.reduceToNat, Int.reduceAdd, Int.reduceSub]
    exact finL_pure rfl
  have e : putR q = .tup [bts (frm q) none, .i .i64 0] := by unfold putR putOk; rw [decide_eq_true (by omega), decide_eq_true (by omega)]; rfl
  have d0 : decide ((q.length : Int) = 0) = false := decide_eq_false (by omega)
  have d1 : decide ((0 : Int) < q.length) = true := decide_eq_true (by omega)
  rw [e] at cP
  have hfl := frm_len q
  have d8 : decide (((frm q).length : Int) < 8) = false := decide_eq_false (by omega)
  simp -implicitDefEqProofs -dsimp only [go_sem, Nat.reduceEqDiff, Nat.reduceAdd, Nat.reduceMul, Nat.reduceSub, Nat.reduceLT, Nat.reduceLeDiff, Nat.reduceBEq, reduceIte, reduceCtorEq, Int.reduceLT, Int.reduceLE, Int.reduceEq, Int.reduceNeg, Int.reduceToNat, Int.reduceAdd, Int.reduceSub, ↓g_call _ _ c_frame_Put]
  refine CallK.pure cP (aft_nil ?_)
  by_cases hm : m = 0#32
  · have dm : decide ((m.toNat : Int) = 0) = true := by rw [hm]; decide
    simp -implicitDefEqProofs -dsimp only [go_sem, Nat.reduceEqDiff, Nat.reduceAdd, Nat.reduceMul, Nat.reduceSub, Nat.reduceLT, Nat.reduceLeDiff, Nat.reduceBEq, reduceIte, reduceCtorEq, Int.reduceLT, Int.reduceLE, Int.reduceEq, Int.reduceNeg, Int.reduceToNat, Int.reduceAdd, Int.reduceSub, d0, d1, dm, ↓g_gdc, rcOk, true_and, decide_true, decide_false, ↓g_call _ _ c_sautoirlaw04_awake]
    refine CallK.pure pc_awake (aft_nil ?_)
    simp -implicitDefEqProofs -dsimp only [go_sem, Nat.reduceEqDiff, Nat.reduceAdd, Nat.reduceMul, Nat.reduceSub, Nat.reduceLT, Nat.reduceLeDiff, Nat.reduceBEq, reduceIte, reduceCtorEq, Int.reduceLT, Int.reduceLE, Int.reduceEq, Int.reduceNeg, Int.reduceToNat, Int.reduceAdd, Int.reduceSub]
    exact finL_pure rfl
  have dm : decide ((m.toNat : Int) = 0) = false := decide_eq_false (fun h => hm (BitVec.eq_of_toNat_eq (by simp; omega)))
  have wa : IntKind.i64.wrap (a : Int) = a := wrap_i64 (by unfold I64; omega)
  obtain ⟨n, hn⟩ : ∃ n : Nat, n = (frm q).length := ⟨_, rfl⟩
  have w8 : IntKind.i64.wrap (8 * ((frm q).length : Int)) = ((8 * n : Nat) : Int) := (wrap_i64 (by unfold I64; omega)).trans (by omega)
  have w31 : IntKind.i64.wrap (((8 * n : Nat) : Int) - 31) = ((8 * n - 31 : Nat) : Int) := (wrap_i64 (by unfold I64; omega)).trans (by omega)
  have wt : ((a : Int)).tmod ((8 * n - 31 : Nat) : Int) = ((a % (8 * n - 31) : Nat) : Int) := by rw [Int.tmod_eq_emod_of_nonneg (by omega)]; norm_cast
  have z31 : (((8 * n - 31 : Nat) : Int) = 0) = False := eq_false (by omega)
  simp -implicitDefEqProofs -dsimp only [go_sem, Nat.reduceEqDiff, Nat.reduceAdd, Nat.reduceMul, Nat.reduceSub, Nat.reduceLT, Nat.reduceLeDiff, Nat.reduceBEq, reduceIte, reduceCtorEq, Int.reduceLT, Int.reduceLE, Int.reduceEq, Int.reduceNeg, Int.reduceToNat, Int.reduceAdd, Int.reduceSub, d0, d1, dm, d8, decide_true, decide_false]
  refine (Own.nil T 1).app (m := (frm q).length) (slCells_bytes _ _) rfl (by omega) (by omega) fun v T1 ho => aft_nil ?_
  rw [Nat.zero_add, List.nil_append] at ho
  obtain ⟨id, rfl, hid, e2⟩ := ho.ne (by omega)
  simp -implicitDefEqProofs -dsimp only [go_sem, Nat.reduceEqDiff, Nat.reduceAdd, Nat.reduceMul, Nat.reduceSub, Nat.reduceLT, Nat.reduceLeDiff, Nat.reduceBEq, reduceIte, reduceCtorEq, Int.reduceLT, Int.reduceLE, Int.reduceEq, Int.reduceNeg, Int.reduceToNat, Int.reduceAdd, Int.reduceSub, wa, w8, w31, wt, z31]
  have hp : a % (8 * n - 31) + 31 < 8 * (frm q).length := by have := Nat.mod_lt a (show 0 < 8 * n - 31 by omega); omega
  refine lp_turn (T := T) (l := frm q) (p := a % (8 * n - 31)) (by repeat' (first | exact finX_ext _ _ | assumption | apply blkR_ext | apply thenR_ext | apply AW_ext)) (by omega) hp 32 0 rfl _ T1 ho (fun v T2 ho2 => ?_)
  obtain ⟨p1, p2, p3, p4, p5, p6⟩ := ho2.form
  have ht := turned hm hp
  obtain ⟨er, hop⟩ : ∃ er, opE (turnTo (frm q) (a % (8 * n - 31)) m 32) = some er := by
    cases h : opE (turnTo (frm q) (a % (8 * n - 31)) m 32) with
    | none => exact absurd h ht
    | some er => exact ⟨er, rfl⟩
  have cO := fun cap => pc_Open (turnTo (frm q) (a % (8 * n - 31)) m 32) cap (by rw [turnTo_len]; omega)
  have hR : OpenR (turnTo (frm q) (a % (8 * n - 31)) m 32) = .tup [.fz 0 [] (some 0), .i .i64 er.code] := by unfold OpenR; rw [hop]
  rw [hR] at cO
  simp only [bts, turnTo_len] at cO
  have hcode : decide (er.code = 0) = false := decide_eq_false (op_code hop)
  simp -implicitDefEqProofs -dsimp only [go_sem, Nat.reduceEqDiff, Nat.reduceAdd, Nat.reduceMul, Nat.reduceSub, Nat.reduceLT, Nat.reduceLeDiff, Nat.reduceBEq, reduceIte, reduceCtorEq, Int.reduceLT, Int.reduceLE, Int.reduceEq, Int.reduceNeg, Int.reduceToNat, Int.reduceAdd, Int.reduceSub, p1, p2, p3, p4, p5, p6, ↓g_call _ _ c_frame_Open]
  refine CallK.give0 ho2 rfl (fun q => cO q T) (fun v T' h => ?_)
  obtain ⟨rfl, rfl⟩ := h
  refine aft_nil ?_
  simp -implicitDefEqProofs -dsimp only [go_sem, Nat.reduceEqDiff, Nat.reduceAdd, Nat.reduceMul, Nat.reduceSub, Nat.reduceLT, Nat.reduceLeDiff, Nat.reduceBEq, reduceIte, reduceCtorEq, Int.reduceLT, Int.reduceLE, Int.reduceEq, Int.reduceNeg, Int.reduceToNat, Int.reduceAdd, Int.reduceSub, hcode, show ((0 : Nat) : Int) = 0 from rfl, ↓g_gdc, rcOk, true_and, decide_true, Bool.not_false, ↓g_call _ _ c_sautoirlaw04_awake]
  refine CallK.pure pc_awake (aft_nil ?_)
  simp -implicitDefEqProofs -dsimp only [go_sem, Nat.reduceEqDiff, Nat.reduceAdd, Nat.reduceMul, Nat.reduceSub, Nat.reduceLT, Nat.reduceLeDiff, Nat.reduceBEq, reduceIte, reduceCtorEq, Int.reduceLT, Int.reduceLE, Int.reduceEq, Int.reduceNeg, Int.reduceToNat, Int.reduceAdd, Int.reduceSub]
  exact finL_pure rfl
end Go.Aw
