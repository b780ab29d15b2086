import Derived.Test.YtdgknlkijgomoaaDoorF04Z
namespace Go.Aw
open Go
open Go.Proofs.Tryd (prog)
set_option linter.all false
set_option maxHeartbeats 4000000

theorem put_bad {q : List UInt8} (h : q.length = 0) : putR q = .tup [.fz 0 [] (some 0), .i .i64 1] := by unfold putR putOk; rw [decide_eq_false (by omega)]; rfl
theorem put_ok {q : List UInt8} (h : 1 ≤ q.length) (h2 : q.length ≤ 65535) : putR q = .tup [bts (frm q) none, .i .i64 0] := by unfold putR putOk; rw [decide_eq_true h, decide_eq_true h2]; rfl
theorem pc_FramePut (b c : List UInt8) (k1 k2 : Option Nat) (hb : Len b.length) (hc : Len c.length) : PCalls prog f_sautoirlaw04_FramePut [bts b k1, bts c k2] (.b true) := by
  refine pcalls_of mixed t_sautoirlaw04_FramePut (by simp) fun T => ?_
  unfold s_sautoirlaw04_FramePut
  simp -implicitDefEqProofs -dsimp only [go_sem, Nat.reduceEqDiff, Nat.reduceAdd, Nat.reduceMul, Nat.reduceSub, Nat.reduceLT, Nat.reduceLeDiff, Nat.reduceBEq, reduceIte, reduceCtorEq, Int.reduceLT, Int.reduceLE, Int.reduceEq, Int.reduceNeg, Int.reduceToNat, Int.reduceAdd, Int.reduceSub, ↓g_call _ _ c_sautoirlaw04_few]
  refine CallK.pure (pc_few b k1 hb) (aft_nil ?_)
  simp -implicitDefEqProofs -dsimp only [go_sem, Nat.reduceEqDiff, Nat.reduceAdd, Nat.reduceMul, Nat.reduceSub, Nat.reduceLT, Nat.reduceLeDiff, Nat.reduceBEq, reduceIte, reduceCtorEq, Int.reduceLT, Int.reduceLE, Int.reduceEq, Int.reduceNeg, Int.reduceToNat, Int.reduceAdd, Int.reduceSub, ↓g_call _ _ c_sautoirlaw04_few]
  refine CallK.pure (pc_few c k2 hc) (aft_nil ?_)
  have h1 := few_len b
  have h2 := few_len c
  generalize fewL b = q at h1 ⊢
  generalize fewL c = m at h2 ⊢
  have cP := pc_Put q none (by omega)
  by_cases h0 : q.length = 0
  · have d0 : decide ((q.length : Int) = 0) = true := decide_eq_true (by omega)
    rw [put_bad h0] at cP
    simp -implicitDefEqProofs -dsimp only [go_sem, Nat.reduceEqDiff, Nat.reduceAdd, Nat.reduceMul, Nat.reduceSub, Nat.reduceLT, Nat.reduceLeDiff, Nat.reduceBEq, reduceIte, reduceCtorEq, Int.reduceLT, Int.reduceLE, Int.reduceEq, Int.reduceNeg, Int.reduceToNat, Int.reduceAdd, Int.reduceSub, ↓g_call _ _ c_frame_Put]
    refine CallK.pure cP (aft_nil ?_)
    simp -implicitDefEqProofs -dsimp only [go_sem, Nat.reduceEqDiff, Nat.reduceAdd, Nat.reduceMul, Nat.reduceSub, Nat.reduceLT, Nat.reduceLeDiff, Nat.reduceBEq, reduceIte, reduceCtorEq, Int.reduceLT, Int.reduceLE, Int.reduceEq, Int.reduceNeg, Int.reduceToNat, Int.reduceAdd, Int.reduceSub, d0, show ((0 : Nat) : Int) = 0 from rfl, ↓g_gdc, rcOk, true_and, decide_true, decide_false, ↓g_call _ _ c_sautoirlaw04_awake]
    refine CallK.pure pc_awake (aft_nil ?_)
    simp -implicitDefEqProofs -dsimp only [go_sem, Nat.reduceEqDiff, Nat.reduceAdd, Nat.reduceMul, Nat.reduceSub, Nat.reduceLT, Nat.reduceLeDiff, Nat.reduceBEq, reduceIte, reduceCtorEq, Int.reduceLT, Int.reduceLE, Int.reduceEq, Int.reduceNeg, Int.reduceToNat, Int.reduceAdd, Int.reduceSub]
    exact finL_pure rfl
  have d0 : decide ((q.length : Int) = 0) = false := decide_eq_false (by omega)
  rw [put_ok (by omega) (by omega)] at cP
  have hfl := frm_len q
  have cR := pc_rPut q none (by omega) (by omega)
  simp -implicitDefEqProofs -dsimp only [go_sem, Nat.reduceEqDiff, Nat.reduceAdd, Nat.reduceMul, Nat.reduceSub, Nat.reduceLT, Nat.reduceLeDiff, Nat.reduceBEq, reduceIte, reduceCtorEq, Int.reduceLT, Int.reduceLE, Int.reduceEq, Int.reduceNeg, Int.reduceToNat, Int.reduceAdd, Int.reduceSub, ↓g_call _ _ c_frame_Put]
  refine CallK.pure cP (aft_nil ?_)
  simp -implicitDefEqProofs -dsimp only [go_sem, Nat.reduceEqDiff, Nat.reduceAdd, Nat.reduceMul, Nat.reduceSub, Nat.reduceLT, Nat.reduceLeDiff, Nat.reduceBEq, reduceIte, reduceCtorEq, Int.reduceLT, Int.reduceLE, Int.reduceEq, Int.reduceNeg, Int.reduceToNat, Int.reduceAdd, Int.reduceSub, d0, bts, byteCells_length, bytesAv_cells, decide_true, Bool.not_true, ↓g_gdc, rcOk, true_and, ↓g_call _ _ c_sautoirref04_Put]
  refine CallK.pure cR (aft_rc (fun _ => ?_) ?_)
  · simp -implicitDefEqProofs -dsimp only [go_sem, Nat.reduceEqDiff, Nat.reduceAdd, Nat.reduceMul, Nat.reduceSub, Nat.reduceLT, Nat.reduceLeDiff, Nat.reduceBEq, reduceIte, reduceCtorEq, Int.reduceLT, Int.reduceLE, Int.reduceEq, Int.reduceNeg, Int.reduceToNat, Int.reduceAdd, Int.reduceSub, rcOk, gvev, gdd, byteCells_length, bytesAv_cells]
  simp -implicitDefEqProofs -dsimp only [go_sem, Nat.reduceEqDiff, Nat.reduceAdd, Nat.reduceMul, Nat.reduceSub, Nat.reduceLT, Nat.reduceLeDiff, Nat.reduceBEq, reduceIte, reduceCtorEq, Int.reduceLT, Int.reduceLE, Int.reduceEq, Int.reduceNeg, Int.reduceToNat, Int.reduceAdd, Int.reduceSub, bts, byteCells_length, bytesAv_cells, decide_true, Bool.not_true, ↓g_gdc, rcOk, true_and]
  refine (Own.nil T 1).app (m := (frm q).length) (slCells_bytes _ _) rfl (by omega) (by omega) fun v T1 ho => aft_nil ?_
  rw [Nat.zero_add, List.nil_append] at ho
  obtain ⟨p1, p2, p3, p4, p5, p6⟩ := ho.form
  simp -implicitDefEqProofs -dsimp only [go_sem, Nat.reduceEqDiff, Nat.reduceAdd, Nat.reduceMul, Nat.reduceSub, Nat.reduceLT, Nat.reduceLeDiff, Nat.reduceBEq, reduceIte, reduceCtorEq, Int.reduceLT, Int.reduceLE, Int.reduceEq, Int.reduceNeg, Int.reduceToNat, Int.reduceAdd, Int.reduceSub, p1, p2, p3, p4, p5, p6]
  refine ho.app (m := m.length) (slCells_bytes _ _) rfl (by omega) (by omega) fun v T1 ho => aft_nil ?_
  obtain ⟨p1, p2, p3, p4, p5, p6⟩ := ho.form
  rw [byteCells_append] at ho
  simp -implicitDefEqProofs -dsimp only [go_sem, Nat.reduceEqDiff, Nat.reduceAdd, Nat.reduceMul, Nat.reduceSub, Nat.reduceLT, Nat.reduceLeDiff, Nat.reduceBEq, reduceIte, reduceCtorEq, Int.reduceLT, Int.reduceLE, Int.reduceEq, Int.reduceNeg, Int.reduceToNat, Int.reduceAdd, Int.reduceSub, p1, p2, p3, p4, p5, p6]
  refine gzS_owns (Owns.one ho) fun S hS => ?_
  obtain ⟨c0, e0⟩ := hS _ (List.mem_cons_self ..)
  simp only at e0
  simp only [frE, frX_fz, ho.frX, e0]
  obtain ⟨x1, x2⟩ := nx_frm (p := q) ⟨by omega, by omega⟩ m
  have x3 := sz_frm (p := q) (by omega) m
  have cN := pc_Next (frm q ++ m) c0 (by rw [List.length_append]; omega)
  have cO := pc_Open (frm q ++ m) c0 (by rw [List.length_append]; omega)
  have eN : nextR (frm q ++ m) = .tup [bts q none, .i .i64 (q.length + 7 : Nat), .i .i64 0] := by unfold nextR; rw [x1]; simp only; rw [x2, x3]
  rw [eN] at cN
  simp only [bts, List.length_append] at cN cO
  simp -implicitDefEqProofs -dsimp only [go_sem, Nat.reduceEqDiff, Nat.reduceAdd, Nat.reduceMul, Nat.reduceSub, Nat.reduceLT, Nat.reduceLeDiff, Nat.reduceBEq, reduceIte, reduceCtorEq, Int.reduceLT, Int.reduceLE, Int.reduceEq, Int.reduceNeg, Int.reduceToNat, Int.reduceAdd, Int.reduceSub, ↓g_call _ _ c_frame_Next]
  refine CallK.pure cN (aft_nil ?_)
  simp -implicitDefEqProofs -dsimp only [go_sem, Nat.reduceEqDiff, Nat.reduceAdd, Nat.reduceMul, Nat.reduceSub, Nat.reduceLT, Nat.reduceLeDiff, Nat.reduceBEq, reduceIte, reduceCtorEq, Int.reduceLT, Int.reduceLE, Int.reduceEq, Int.reduceNeg, Int.reduceToNat, Int.reduceAdd, Int.reduceSub, ↓g_call _ _ c_frame_Open]
  refine CallK.pure cO (aft_nil ?_)
  have d7 : decide (((q.length + 7 : Nat) : Int) = (frm q).length) = true := decide_eq_true (by omega)
  by_cases hm : 0 < m.length
  · have dm : decide ((0 : Int) < m.length) = true := decide_eq_true (by omega)
    have eO : OpenR (frm q ++ m) = .tup [.fz 0 [] (some 0), .i .i64 3] := by
      unfold OpenR opE; rw [x1]; simp only; rw [x3, if_pos (by rw [List.length_append]; omega)]; rfl
    rw [eO]
    simp -implicitDefEqProofs -dsimp only [go_sem, Nat.reduceEqDiff, Nat.reduceAdd, Nat.reduceMul, Nat.reduceSub, Nat.reduceLT, Nat.reduceLeDiff, Nat.reduceBEq, reduceIte, reduceCtorEq, Int.reduceLT, Int.reduceLE, Int.reduceEq, Int.reduceNeg, Int.reduceToNat, Int.reduceAdd, Int.reduceSub, dm, d7, bts, byteCells_length, bytesAv_cells, show ((0 : Nat) : Int) = 0 from rfl, decide_true, Bool.not_true, ↓g_gdc, rcOk, true_and, ↓g_call _ _ c_sautoirlaw04_awake]
    refine CallK.pure pc_awake (aft_nil ?_)
    simp -implicitDefEqProofs -dsimp only [go_sem, Nat.reduceEqDiff, Nat.reduceAdd, Nat.reduceMul, Nat.reduceSub, Nat.reduceLT, Nat.reduceLeDiff, Nat.reduceBEq, reduceIte, reduceCtorEq, Int.reduceLT, Int.reduceLE, Int.reduceEq, Int.reduceNeg, Int.reduceToNat, Int.reduceAdd, Int.reduceSub]
    exact finL_pure rfl
  · have dm : decide ((0 : Int) < m.length) = false := decide_eq_false (by omega)
    have eO : OpenR (frm q ++ m) = .tup [bts q none, .i .i64 0] := by
      unfold OpenR opE; rw [x1]; simp only; rw [x3, if_neg (by rw [List.length_append]; omega)]; simp only; rw [x2]
    rw [eO]
    simp -implicitDefEqProofs -dsimp only [go_sem, Nat.reduceEqDiff, Nat.reduceAdd, Nat.reduceMul, Nat.reduceSub, Nat.reduceLT, Nat.reduceLeDiff, Nat.reduceBEq, reduceIte, reduceCtorEq, Int.reduceLT, Int.reduceLE, Int.reduceEq, Int.reduceNeg, Int.reduceToNat, Int.reduceAdd, Int.reduceSub, dm, d7, bts, byteCells_length, bytesAv_cells, show ((0 : Nat) : Int) = 0 from rfl, decide_true, Bool.not_true, ↓g_gdc, rcOk, true_and, ↓g_call _ _ c_sautoirlaw04_awake]
    refine CallK.pure pc_awake (aft_nil ?_)
    simp -implicitDefEqProofs -dsimp only [go_sem, Nat.reduceEqDiff, Nat.reduceAdd, Nat.reduceMul, Nat.reduceSub, Nat.reduceLT, Nat.reduceLeDiff, Nat.reduceBEq, reduceIte, reduceCtorEq, Int.reduceLT, Int.reduceLE, Int.reduceEq, Int.reduceNeg, Int.reduceToNat, Int.reduceAdd, Int.reduceSub]
    exact finL_pure rfl

theorem recs_len : ∀ (f a : Nat) (c : List UInt8), (recs f a c).1.length ≤ c.length
  | 0, _, _ => by simp [recs]
  | f + 1, a, c => by
    unfold recs
    rcases he : nxE c with _ | ⟨w, e⟩
    · have hs := nx_some he
      have := recs_len f (a + (szOf c + 7)) (c.drop (szOf c + 7))
      simp only [List.length_cons]
      rw [List.length_drop] at this
      omega
    · simp
theorem pc_FrameAll (b : List UInt8) (k : Option Nat) (hb : Len b.length) : PCalls prog f_sautoirlaw04_FrameAll [bts b k] (.b true) := by
  refine pcalls_of mixed t_sautoirlaw04_FrameAll (by simp) fun T => ?_
  unfold s_sautoirlaw04_FrameAll
  simp -implicitDefEqProofs -dsimp only [go_sem, Nat.reduceEqDiff, Nat.reduceAdd, Nat.reduceMul, Nat.reduceSub, Nat.reduceLT, Nat.reduceLeDiff, Nat.reduceBEq, reduceIte, reduceCtorEq, Int.reduceLT, Int.reduceLE, Int.reduceEq, Int.reduceNeg, Int.reduceToNat, Int.reduceAdd, Int.reduceSub, ↓g_call _ _ c_sautoirlaw04_few]
  refine CallK.pure (pc_few b k hb) (aft_nil ?_)
  have h1 := few_len b
  generalize fewL b = q at h1 ⊢
  have hrl := recs_len (q.length + 1) 0 q
  have c1 := pc_All q none (by omega)
  have c2 := pc_rAll q none (by omega)
  unfold allA at c1 c2
  generalize recs (q.length + 1) 0 q = r at hrl c1 c2
  have cS := pc_Same r.1 r.1 none none (by unfold Len; omega) (by unfold Len; omega)
  rw [decide_eq_true rfl] at cS
  have cO := pc_Open q none (by omega)
  have cR := pc_rOpen q none (by omega)
  simp -implicitDefEqProofs -dsimp only [go_sem, Nat.reduceEqDiff, Nat.reduceAdd, Nat.reduceMul, Nat.reduceSub, Nat.reduceLT, Nat.reduceLeDiff, Nat.reduceBEq, reduceIte, reduceCtorEq, Int.reduceLT, Int.reduceLE, Int.reduceEq, Int.reduceNeg, Int.reduceToNat, Int.reduceAdd, Int.reduceSub, ↓g_call _ _ c_frame_All]
  refine CallK.pure c1 (aft_nil ?_)
  simp -implicitDefEqProofs -dsimp only [go_sem, Nat.reduceEqDiff, Nat.reduceAdd, Nat.reduceMul, Nat.reduceSub, Nat.reduceLT, Nat.reduceLeDiff, Nat.reduceBEq, reduceIte, reduceCtorEq, Int.reduceLT, Int.reduceLE, Int.reduceEq, Int.reduceNeg, Int.reduceToNat, Int.reduceAdd, Int.reduceSub, ↓g_call _ _ c_sautoirref04_All]
  refine CallK.pure c2 (aft_nil ?_)
  simp -implicitDefEqProofs -dsimp only [go_sem, Nat.reduceEqDiff, Nat.reduceAdd, Nat.reduceMul, Nat.reduceSub, Nat.reduceLT, Nat.reduceLeDiff, Nat.reduceBEq, reduceIte, reduceCtorEq, Int.reduceLT, Int.reduceLE, Int.reduceEq, Int.reduceNeg, Int.reduceToNat, Int.reduceAdd, Int.reduceSub, ↓g_call _ _ c_frame_Open]
  refine CallK.pure cO (aft_nil ?_)
  unfold OpenR opE
  unfold roR at cR
  rcases he : nxE q with _ | ⟨w, e⟩
  · rw [he] at cR
    simp only at cR ⊢
    by_cases h7 : szOf q + 7 < q.length
    · rw [if_pos h7] at cR
      simp only [if_pos h7, Er.code]
      simp -implicitDefEqProofs -dsimp only [go_sem, Nat.reduceEqDiff, Nat.reduceAdd, Nat.reduceMul, Nat.reduceSub, Nat.reduceLT, Nat.reduceLeDiff, Nat.reduceBEq, reduceIte, reduceCtorEq, Int.reduceLT, Int.reduceLE, Int.reduceEq, Int.reduceNeg, Int.reduceToNat, Int.reduceAdd, Int.reduceSub, ↓g_call _ _ c_sautoirref04_Open]
      refine CallK.pure cR (aft_nil ?_)
      simp -implicitDefEqProofs -dsimp only [go_sem, Nat.reduceEqDiff, Nat.reduceAdd, Nat.reduceMul, Nat.reduceSub, Nat.reduceLT, Nat.reduceLeDiff, Nat.reduceBEq, reduceIte, reduceCtorEq, Int.reduceLT, Int.reduceLE, Int.reduceEq, Int.reduceNeg, Int.reduceToNat, Int.reduceAdd, Int.reduceSub, ↓g_call _ _ c_sautoirlaw04_Same]
      refine CallK.pure cS (aft_nil ?_)
      simp -implicitDefEqProofs -dsimp only [go_sem, Nat.reduceEqDiff, Nat.reduceAdd, Nat.reduceMul, Nat.reduceSub, Nat.reduceLT, Nat.reduceLeDiff, Nat.reduceBEq, reduceIte, reduceCtorEq, Int.reduceLT, Int.reduceLE, Int.reduceEq, Int.reduceNeg, Int.reduceToNat, Int.reduceAdd, Int.reduceSub, bytesAv, decide_true, eq_self, ↓g_gdc, rcOk, true_and, ↓g_call _ _ c_sautoirlaw04_awake]
      refine CallK.pure pc_awake (aft_nil ?_)
      simp -implicitDefEqProofs -dsimp only [go_sem, Nat.reduceEqDiff, Nat.reduceAdd, Nat.reduceMul, Nat.reduceSub, Nat.reduceLT, Nat.reduceLeDiff, Nat.reduceBEq, reduceIte, reduceCtorEq, Int.reduceLT, Int.reduceLE, Int.reduceEq, Int.reduceNeg, Int.reduceToNat, Int.reduceAdd, Int.reduceSub]
      exact finL_pure rfl
    · rw [if_neg h7] at cR
      simp only [if_neg h7]
      simp -implicitDefEqProofs -dsimp only [go_sem, Nat.reduceEqDiff, Nat.reduceAdd, Nat.reduceMul, Nat.reduceSub, Nat.reduceLT, Nat.reduceLeDiff, Nat.reduceBEq, reduceIte, reduceCtorEq, Int.reduceLT, Int.reduceLE, Int.reduceEq, Int.reduceNeg, Int.reduceToNat, Int.reduceAdd, Int.reduceSub, ↓g_call _ _ c_sautoirref04_Open]
      refine CallK.pure cR (aft_nil ?_)
      simp -implicitDefEqProofs -dsimp only [go_sem, Nat.reduceEqDiff, Nat.reduceAdd, Nat.reduceMul, Nat.reduceSub, Nat.reduceLT, Nat.reduceLeDiff, Nat.reduceBEq, reduceIte, reduceCtorEq, Int.reduceLT, Int.reduceLE, Int.reduceEq, Int.reduceNeg, Int.reduceToNat, Int.reduceAdd, Int.reduceSub, ↓g_call _ _ c_sautoirlaw04_Same]
      refine CallK.pure cS (aft_nil ?_)
      simp -implicitDefEqProofs -dsimp only [go_sem, Nat.reduceEqDiff, Nat.reduceAdd, Nat.reduceMul, Nat.reduceSub, Nat.reduceLT, Nat.reduceLeDiff, Nat.reduceBEq, reduceIte, reduceCtorEq, Int.reduceLT, Int.reduceLE, Int.reduceEq, Int.reduceNeg, Int.reduceToNat, Int.reduceAdd, Int.reduceSub, bts, byteCells_length, bytesAv_cells, decide_true, eq_self, ↓g_gdc, rcOk, true_and, ↓g_call _ _ c_sautoirlaw04_awake]
      refine CallK.pure pc_awake (aft_nil ?_)
      simp -implicitDefEqProofs -dsimp only [go_sem, Nat.reduceEqDiff, Nat.reduceAdd, Nat.reduceMul, Nat.reduceSub, Nat.reduceLT, Nat.reduceLeDiff, Nat.reduceBEq, reduceIte, reduceCtorEq, Int.reduceLT, Int.reduceLE, Int.reduceEq, Int.reduceNeg, Int.reduceToNat, Int.reduceAdd, Int.reduceSub]
      exact finL_pure rfl
  · rw [he] at cR
    simp only [erOf, Er.code] at cR ⊢
    simp -implicitDefEqProofs -dsimp only [go_sem, Nat.reduceEqDiff, Nat.reduceAdd, Nat.reduceMul, Nat.reduceSub, Nat.reduceLT, Nat.reduceLeDiff, Nat.reduceBEq, reduceIte, reduceCtorEq, Int.reduceLT, Int.reduceLE, Int.reduceEq, Int.reduceNeg, Int.reduceToNat, Int.reduceAdd, Int.reduceSub, ↓g_call _ _ c_sautoirref04_Open]
    refine CallK.pure cR (aft_nil ?_)
    simp -implicitDefEqProofs -dsimp only [go_sem, Nat.reduceEqDiff, Nat.reduceAdd, Nat.reduceMul, Nat.reduceSub, Nat.reduceLT, Nat.reduceLeDiff, Nat.reduceBEq, reduceIte, reduceCtorEq, Int.reduceLT, Int.reduceLE, Int.reduceEq, Int.reduceNeg, Int.reduceToNat, Int.reduceAdd, Int.reduceSub, ↓g_call _ _ c_sautoirlaw04_Same]
    refine CallK.pure cS (aft_nil ?_)
    simp -implicitDefEqProofs -dsimp only [go_sem, Nat.reduceEqDiff, Nat.reduceAdd, Nat.reduceMul, Nat.reduceSub, Nat.reduceLT, Nat.reduceLeDiff, Nat.reduceBEq, reduceIte, reduceCtorEq, Int.reduceLT, Int.reduceLE, Int.reduceEq, Int.reduceNeg, Int.reduceToNat, Int.reduceAdd, Int.reduceSub, bytesAv, decide_true, eq_self, ↓g_gdc, rcOk, true_and, ↓g_call _ _ c_sautoirlaw04_awake]
    refine CallK.pure pc_awake (aft_nil ?_)
    simp -implicitDefEqProofs -dsimp only [go_sem, Nat.reduceEqDiff, Nat.reduceAdd, Nat.reduceMul, Nat.reduceSub, Nat.reduceLT, Nat.reduceLeDiff, Nat.reduceBEq, reduceIte, reduceCtorEq, Int.reduceLT, Int.reduceLE, Int.reduceEq, Int.reduceNeg, Int.reduceToNat, Int.reduceAdd, Int.reduceSub]
    exact finL_pure rfl
end Go.Aw
