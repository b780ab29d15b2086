import Derived.Test.YtdgknlkijgomoaaDoorF04W
namespace Go.Aw
open Go
open Go.Proofs.Tryd (prog)
set_option linter.all false
set_option maxHeartbeats 4000000

/-! What was framed is read. -/
theorem bAt_frm (p : List UInt8) (rest : List UInt8) : bAt (frm p ++ rest) 0 = 197 ∧ bAt (frm p ++ rest) 1 = hiB p.length ∧ bAt (frm p ++ rest) 2 = loB p.length := ⟨rfl, rfl, rfl⟩
theorem sz_frm {p : List UInt8} (h : p.length ≤ 65535) (rest : List UInt8) : szOf (frm p ++ rest) = p.length := by
  obtain ⟨_, h1, h2⟩ := bAt_frm p rest
  unfold szOf
  rw [h1, h2]
  simp [hiB, loB]
  omega
theorem whole_seal (l : List UInt8) : wholeL (sealL l) = true := by
  have e : (sealL l).length = l.length + 4 := by simp only [sealL, List.length_append, fourK_len]
  have e2 : (sealL l).take ((sealL l).length - 4) = l := by rw [e, show l.length + 4 - 4 = l.length by omega, sealL, List.take_left]
  rw [wholeL, e2, decide_eq_true (by omega)]; simp
theorem nx_frm {p : List UInt8} (h : 1 ≤ p.length ∧ p.length ≤ 65535) (rest : List UInt8) : nxE (frm p ++ rest) = none ∧ nxRec (frm p ++ rest) = p := by
  have hs := sz_frm h.2 rest
  have hl := frm_len p
  have h0 := (bAt_frm p rest).1
  have et : (frm p ++ rest).take (p.length + 7) = frm p := by rw [← hl, List.take_left]
  refine ⟨?_, ?_⟩
  · unfold nxE
    rw [if_neg (by simp [frm]), if_neg (by rw [h0]; simp), if_neg (by rw [List.length_append]; omega), hs, if_neg (by omega), if_neg (by rw [List.length_append]; omega), et]
    rw [if_neg]
    show ¬ wholeL (sealL (hiB p.length :: loB p.length :: p)) = false
    rw [whole_seal]; simp
  · unfold nxRec
    rw [hs]
    show ((197 :: (hiB p.length :: loB p.length :: p ++ four (crcOf (hiB p.length :: loB p.length :: p)))) ++ rest |>.take (p.length + 3)).drop 3 = p
    simp
theorem op_frm {p : List UInt8} (h : 1 ≤ p.length ∧ p.length ≤ 65535) : opE (frm p) = none ∧ nxRec (frm p) = p := by
  have := nx_frm h []
  rw [List.append_nil] at this
  have hs := sz_frm h.2 []
  rw [List.append_nil] at hs
  refine ⟨?_, this.2⟩
  unfold opE
  rw [this.1]
  simp only
  rw [hs, if_neg (by rw [frm_len]; omega)]

theorem bytesAv_cells : ∀ (l : List UInt8), bytesAv (byteCells l) = some l
  | [] => rfl
  | b :: l => by
    have ih := bytesAv_cells l
    show (match byteAv (.i .u8 b.toNat), bytesAv (byteCells l) with
      | some b, some r => some (b :: r)
      | _, _ => none) = _
    rw [ih]
    simp [byteAv]
theorem b2s_cells {α : Type} (l : List UInt8) (n : Nat) (k : Option Nat) (f : List UInt8 → α) : (match AV.fz n (byteCells l) k with
    | .s _ => none
    | _ => (bytesAv (byteCells l)).map f) = some (f l) := by
  simp only [bytesAv_cells, Option.map_some]
theorem rep_bytes (k : Nat) : rep [AV.i .u8 0] k = byteCells (List.replicate k 0) := by
  induction k with
  | zero => rfl
  | succ k ih => rw [rep, ih, List.replicate_succ]; rfl

def fill (x : UInt8) (j d : Nat) : List UInt8 := List.replicate j x ++ List.replicate d 0
theorem fill_len (x : UInt8) (j d : Nat) : (fill x j d).length = j + d := by simp [fill]
theorem fill_set (x : UInt8) (j d : Nat) : (fill x j (d + 1)).set j x = fill x (j + 1) d := by
  unfold fill
  rw [List.set_append_right _ _ (by simp), List.replicate_succ' (n := j)]
  simp [List.replicate_succ]
theorem lp_fill {R : RPost} (hR : ExtR R) {T : Tab} {x : UInt8} {k id : Nat} (hk : k < 70000) : ∀ (d j : Nat), j + d = k →
    (R (.exit 0) [(1, .i .u8 x.toNat), (5, .i .i64 k), (6, .sl id 0 k none), (18, .i .i64 k), (19, .i .i64 k), (20, .b false)] [] (T.put id (.row 1 (byteCells (fill x k 0))))) →
    AW prog sautoirlaw04_FrameLong_l0 R [(1, .i .u8 x.toNat), (5, .i .i64 k), (6, .sl id 0 k none), (18, .i .i64 k), (19, .i .i64 j)] [] (T.put id (.row 1 (byteCells (fill x j d)))) := by
  intro d
  induction d with
  | zero =>
    intro j hj h2
    have : j = k := by omega
    subst this
    have d0 : decide ((j : Int) < j) = false := decide_eq_false (by omega)
    refine AW_loop hR ?_
    unfold sautoirlaw04_FrameLong_l0b
    simp -implicitDefEqProofs -dsimp only [go_sem, Nat.reduceEqDiff, Nat.reduceAdd, Nat.reduceMul, Nat.reduceSub, Nat.reduceLT, Nat.reduceLeDiff, Nat.reduceBEq, reduceIte, reduceCtorEq, Int.reduceLT, Int.reduceLE, Int.reduceEq, Int.reduceNeg, Int.reduceToNat, Int.reduceAdd, Int.reduceSub, d0]
    exact h2
  | succ d ih =>
    intro j hj h2
    have hlt : decide ((j : Int) < k) = true := decide_eq_true (by omega)
    have hlt' : (j : Int) < k := by omega
    have hws : IntKind.i64.wrap ((j : Int) + 1) = ((j + 1 : Nat) : Int) := wrap_succ (by omega)
    have ht : (T.put id (.row 1 (byteCells (fill x j (d + 1))))) id = .row 1 (byteCells (fill x j (d + 1))) := Tab.put_same ..
    refine AW_loopD (l := sautoirlaw04_FrameLong_l0) rfl hR ?_
    unfold sautoirlaw04_FrameLong_l0b
    simp -implicitDefEqProofs -dsimp only [go_sem, Nat.reduceEqDiff, Nat.reduceAdd, Nat.reduceMul, Nat.reduceSub, Nat.reduceLT, Nat.reduceLeDiff, Nat.reduceBEq, reduceIte, reduceCtorEq, Int.reduceLT, Int.reduceLE, Int.reduceEq, Int.reduceNeg, Int.reduceToNat, Int.reduceAdd, Int.reduceSub, hlt, hlt', Int.natCast_nonneg, Int.toNat_natCast]
    have hlen : j + 1 ≤ (byteCells (fill x j (d + 1))).length := by rw [byteCells_length, fill_len]; omega
    refine stS_row ht rfl rfl (by simpa using hlen) (aft_nil ?_)
    rw [Tab.put_put]
    simp -implicitDefEqProofs -dsimp only [go_sem, Nat.reduceEqDiff, Nat.reduceAdd, Nat.reduceMul, Nat.reduceSub, Nat.reduceLT, Nat.reduceLeDiff, Nat.reduceBEq, reduceIte, reduceCtorEq, Int.reduceLT, Int.reduceLE, Int.reduceEq, Int.reduceNeg, Int.reduceToNat, Int.reduceAdd, Int.reduceSub, hws]
    have e5 : byteCells (fill x (j + 1) d) = List.take j (byteCells (fill x j (d + 1))) ++ [AV.i .u8 (x.toNat : Int)] ++ List.drop (j + 1) (byteCells (fill x j (d + 1))) := by
      rw [← fill_set]
      have hk : j < (fill x j (d + 1)).length := by rw [fill_len]; omega
      simp only [byteCells, List.map_set]
      rw [List.set_eq_take_append_cons_drop, if_pos (by simpa using hk)]; simp
    rw [← e5]
    exact ih (j + 1) (by omega) h2

theorem pc_FrameLong (n : Nat) (x : UInt8) (hn : n < 4294967296) : PCalls prog f_sautoirlaw04_FrameLong [.i .u32 n, .i .u8 x.toNat] (.b true) := by
  refine pcalls_of mixed t_sautoirlaw04_FrameLong (by simp) fun T => ?_
  have wt : (n : Int).tmod 70000 = ((n % 70000 : Nat) : Int) := by rw [Int.tmod_eq_emod_of_nonneg (by omega)]; omega
  have hk : n % 70000 < 70000 := Nat.mod_lt _ (by decide)
  unfold s_sautoirlaw04_FrameLong
  simp -implicitDefEqProofs -dsimp only [go_sem, Nat.reduceEqDiff, Nat.reduceAdd, Nat.reduceMul, Nat.reduceSub, Nat.reduceLT, Nat.reduceLeDiff, Nat.reduceBEq, reduceIte, reduceCtorEq, Int.reduceLT, Int.reduceLE, Int.reduceEq, Int.reduceNeg, Int.reduceToNat, Int.reduceAdd, Int.reduceSub, wt]
  generalize n % 70000 = k at hk ⊢
  have wk : IntKind.i64.wrap (k : Int) = k := wrap_i64 (by unfold I64; omega)
  simp -implicitDefEqProofs -dsimp only [go_sem, Nat.reduceEqDiff, Nat.reduceAdd, Nat.reduceMul, Nat.reduceSub, Nat.reduceLT, Nat.reduceLeDiff, Nat.reduceBEq, reduceIte, reduceCtorEq, Int.reduceLT, Int.reduceLE, Int.reduceEq, Int.reduceNeg, Int.reduceToNat, Int.reduceAdd, Int.reduceSub, wk]
  refine mkS_of (by omega) (Int.le_refl _) (by rw [Int.toNat_natCast]; omega) (by omega) fun id hid => aft_nil ?_
  rw [rep_bytes, Int.toNat_natCast, show List.replicate k (0 : UInt8) = fill x 0 k by simp [fill]]
  simp -implicitDefEqProofs -dsimp only [go_sem, Nat.reduceEqDiff, Nat.reduceAdd, Nat.reduceMul, Nat.reduceSub, Nat.reduceLT, Nat.reduceLeDiff, Nat.reduceBEq, reduceIte, reduceCtorEq, Int.reduceLT, Int.reduceLE, Int.reduceEq, Int.reduceNeg, Int.reduceToNat, Int.reduceAdd, Int.reduceSub, wk]
  refine lp_fill (T := T) (x := x) (by repeat' (first | exact finX_ext _ _ | assumption | apply blkR_ext | apply thenR_ext | apply AW_ext)) hk k 0 (Nat.zero_add k) ?_
  simp -implicitDefEqProofs -dsimp only [go_sem, Nat.reduceEqDiff, Nat.reduceAdd, Nat.reduceMul, Nat.reduceSub, Nat.reduceLT, Nat.reduceLeDiff, Nat.reduceBEq, reduceIte, reduceCtorEq, Int.reduceLT, Int.reduceLE, Int.reduceEq, Int.reduceNeg, Int.reduceToNat, Int.reduceAdd, Int.reduceSub]
  refine gzS_of [id] (by simp) (by simp [Tab.put_same]) ?_
  have hl : (byteCells (fill x k 0)).length = k := by rw [byteCells_length, fill_len]; omega
  have hkill : kill (T.put id (.row 1 (byteCells (fill x k 0)))) [id] = T := by simp only [kill]; rw [Tab.put_put, Tab.put_self hid]
  have hfr : frX (T.put id (.row 1 (byteCells (fill x k 0)))) [id] (.sl id 0 k none) = bts (List.replicate k x) none := by
    simp only [frX, frzt, frzv, frz1, List.mem_singleton, if_true, Tab.put_same, Nat.mul_one, Nat.zero_add, hl, Nat.le_refl, List.drop_zero]
    rw [List.take_of_length_le (by omega)]
    simp [bts, fill]
  rw [hkill]
  simp only [frE, hfr]
  have cP := pc_Put (List.replicate k x) none (by simp; omega)
  simp only [frX, frzt, frzv, frz1]
  simp -implicitDefEqProofs -dsimp only [go_sem, Nat.reduceEqDiff, Nat.reduceAdd, Nat.reduceMul, Nat.reduceSub, Nat.reduceLT, Nat.reduceLeDiff, Nat.reduceBEq, reduceIte, reduceCtorEq, Int.reduceLT, Int.reduceLE, Int.reduceEq, Int.reduceNeg, Int.reduceToNat, Int.reduceAdd, Int.reduceSub, bts, ↓g_call _ _ c_frame_Put]
  refine CallK.pure cP (aft_nil ?_)
  have hlen : (List.replicate k x).length = k := by simp
  generalize List.replicate k x = p at hlen cP ⊢
  by_cases h1 : 1 ≤ k
  · by_cases h2 : k ≤ 65535
    · have d1 : decide ((k : Int) < 1) = false := decide_eq_false (by omega)
      have d2 : decide ((65535 : Int) < k) = false := decide_eq_false (by omega)
      have e : putR p = .tup [bts (frm p) none, .i .i64 0] := by unfold putR putOk; rw [decide_eq_true (by omega), decide_eq_true (by omega)]; rfl
      have hfl := frm_len p
      have cO := pc_Open (frm p) none (by omega)
      obtain ⟨o1, o2⟩ := op_frm (p := p) ⟨by omega, by omega⟩
      have hR : OpenR (frm p) = .tup [bts p none, .i .i64 0] := by unfold OpenR; rw [o1, o2]
      rw [hR] at cO
      rw [e]
      have w7 : IntKind.i64.wrap ((k : Int) + 7) = ((k + 7 : Nat) : Int) := (wrap_i64 (by unfold I64; omega)).trans (by omega)
      have d3 : decide (((frm p).length : Int) = ((k + 7 : Nat) : Int)) = true := decide_eq_true (by omega)
      have hb1 : slCells T 1 (.fz p.length (byteCells p) none) = some (byteCells p) := slCells_bytes _ _
      simp -implicitDefEqProofs -dsimp only [go_sem, Nat.reduceEqDiff, Nat.reduceAdd, Nat.reduceMul, Nat.reduceSub, Nat.reduceLT, Nat.reduceLeDiff, Nat.reduceBEq, reduceIte, reduceCtorEq, Int.reduceLT, Int.reduceLE, Int.reduceEq, Int.reduceNeg, Int.reduceToNat, Int.reduceAdd, Int.reduceSub, bts, d1, d2, ↓g_gdc, rcOk, true_and, ↓g_call _ _ c_frame_Open]
      refine CallK.pure cO (aft_nil ?_)
      simp -implicitDefEqProofs -dsimp only [go_sem, Nat.reduceEqDiff, Nat.reduceAdd, Nat.reduceMul, Nat.reduceSub, Nat.reduceLT, Nat.reduceLeDiff, Nat.reduceBEq, reduceIte, reduceCtorEq, Int.reduceLT, Int.reduceLE, Int.reduceEq, Int.reduceNeg, Int.reduceToNat, Int.reduceAdd, Int.reduceSub, bts, w7, d3, decide_true, bytesAv_cells, byteCells_length, ↓g_gdc, rcOk, true_and, ↓g_call _ _ c_sautoirlaw04_awake]
      refine CallK.pure pc_awake (aft_nil ?_)
      simp -implicitDefEqProofs -dsimp only [go_sem, Nat.reduceEqDiff, Nat.reduceAdd, Nat.reduceMul, Nat.reduceSub, Nat.reduceLT, Nat.reduceLeDiff, Nat.reduceBEq, reduceIte, reduceCtorEq, Int.reduceLT, Int.reduceLE, Int.reduceEq, Int.reduceNeg, Int.reduceToNat, Int.reduceAdd, Int.reduceSub]
      exact finL_pure rfl
    · have d1 : decide ((k : Int) < 1) = false := decide_eq_false (by omega)
      have d2 : decide ((65535 : Int) < k) = true := decide_eq_true (by omega)
      have e : putR p = .tup [.fz 0 [] (some 0), .i .i64 1] := by unfold putR putOk; rw [decide_eq_false (show ¬ p.length ≤ 65535 by omega), Bool.and_false]; rfl
      rw [e]
      simp -implicitDefEqProofs -dsimp only [go_sem, Nat.reduceEqDiff, Nat.reduceAdd, Nat.reduceMul, Nat.reduceSub, Nat.reduceLT, Nat.reduceLeDiff, Nat.reduceBEq, reduceIte, reduceCtorEq, Int.reduceLT, Int.reduceLE, Int.reduceEq, Int.reduceNeg, Int.reduceToNat, Int.reduceAdd, Int.reduceSub, d1, d2, show ((0 : Nat) : Int) = 0 from rfl, ↓g_gdc, rcOk, true_and, decide_true, decide_false, ↓g_call _ _ c_sautoirlaw04_awake]
      refine CallK.pure pc_awake (aft_nil ?_)
      simp -implicitDefEqProofs -dsimp only [go_sem, Nat.reduceEqDiff, Nat.reduceAdd, Nat.reduceMul, Nat.reduceSub, Nat.reduceLT, Nat.reduceLeDiff, Nat.reduceBEq, reduceIte, reduceCtorEq, Int.reduceLT, Int.reduceLE, Int.reduceEq, Int.reduceNeg, Int.reduceToNat, Int.reduceAdd, Int.reduceSub]
      exact finL_pure rfl
  · have d1 : decide ((k : Int) < 1) = true := decide_eq_true (by omega)
    have e : putR p = .tup [.fz 0 [] (some 0), .i .i64 1] := by unfold putR putOk; rw [decide_eq_false (by omega)]; rfl
    rw [e]
    simp -implicitDefEqProofs -dsimp only [go_sem, Nat.reduceEqDiff, Nat.reduceAdd, Nat.reduceMul, Nat.reduceSub, Nat.reduceLT, Nat.reduceLeDiff, Nat.reduceBEq, reduceIte, reduceCtorEq, Int.reduceLT, Int.reduceLE, Int.reduceEq, Int.reduceNeg, Int.reduceToNat, Int.reduceAdd, Int.reduceSub, d1, show ((0 : Nat) : Int) = 0 from rfl, ↓g_gdc, rcOk, true_and, decide_true, decide_false, ↓g_call _ _ c_sautoirlaw04_awake]
    refine CallK.pure pc_awake (aft_nil ?_)
    simp -implicitDefEqProofs -dsimp only [go_sem, Nat.reduceEqDiff, Nat.reduceAdd, Nat.reduceMul, Nat.reduceSub, Nat.reduceLT, Nat.reduceLeDiff, Nat.reduceBEq, reduceIte, reduceCtorEq, Int.reduceLT, Int.reduceLE, Int.reduceEq, Int.reduceNeg, Int.reduceToNat, Int.reduceAdd, Int.reduceSub]
    exact finL_pure rfl
end Go.Aw
