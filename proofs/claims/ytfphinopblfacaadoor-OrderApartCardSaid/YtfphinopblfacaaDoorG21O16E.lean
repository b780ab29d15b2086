import Derived.Test.YtfphinopblfacaaDoorG21O16D
namespace Go.Aw
open Go
open Go.Proofs.Tryd (prog)
set_option linter.all false
set_option maxHeartbeats 4000000

theorem lp_EqInt {R : RPost} (hR : ExtR R) {T : Tab} {xs : List Int} {c1 c2 : Option Nat} (hl : xs.length < 1000000000) : ∀ (ys : List Int) (k : Nat), xs.drop k = ys → k ≤ xs.length →
    (R (.exit 0) [(0, .fz xs.length (ints xs) c1), (1, .fz xs.length (ints xs) c2), (12, .i .i64 xs.length), (13, .i .i64 xs.length), (14, .b false)] [] T) →
    AW prog slices_Equal_int_int_l0 R [(0, .fz xs.length (ints xs) c1), (1, .fz xs.length (ints xs) c2), (12, .i .i64 xs.length), (13, .i .i64 k)] [] T := by
  intro ys
  induction ys with
  | nil =>
    intro k hk hle h2
    have hk' := drop_nil hk hle
    refine AW_loop hR ?_
    unfold slices_Equal_int_int_l0b
    simp -implicitDefEqProofs -dsimp only [go_sem, Nat.reduceEqDiff, Nat.reduceAdd, Nat.reduceMul, Nat.reduceSub, Nat.reduceLT, Nat.reduceLeDiff, Nat.reduceBEq, reduceIte, reduceCtorEq, Int.reduceLT, Int.reduceLE, Int.reduceEq, Int.reduceNeg, Int.reduceToNat, Int.reduceAdd, Int.reduceSub, hk', Int.lt_irrefl]
    rw [hk'] at h2
    exact h2
  | cons y ys ih =>
    intro k hk hle h2
    obtain ⟨hlt, hy, hk'⟩ := drop_lt hk
    refine AW_loopD (l := slices_Equal_int_int_l0) rfl hR ?_
    unfold slices_Equal_int_int_l0b
    simp -implicitDefEqProofs -dsimp only [go_sem, Nat.reduceEqDiff, Nat.reduceAdd, Nat.reduceMul, Nat.reduceSub, Nat.reduceLT, Nat.reduceLeDiff, Nat.reduceBEq, reduceIte, reduceCtorEq, Int.reduceLT, Int.reduceLE, Int.reduceEq, Int.reduceNeg, Int.reduceToNat, Int.reduceAdd, Int.reduceSub, Int.ofNat_lt, hlt, Int.natCast_nonneg, Int.toNat_natCast, ints_at, hy, decide_true]
    rw [wrap_succ (by omega)]
    exact ih (k + 1) hk' hlt h2
theorem lp_EqBool {R : RPost} (hR : ExtR R) {T : Tab} {xs : List Bool} {c1 c2 : Option Nat} (hl : xs.length < 1000000000) : ∀ (ys : List Bool) (k : Nat), xs.drop k = ys → k ≤ xs.length →
    (R (.exit 0) [(0, .fz xs.length (bools xs) c1), (1, .fz xs.length (bools xs) c2), (12, .i .i64 xs.length), (13, .i .i64 xs.length), (14, .b false)] [] T) →
    AW prog slices_Equal_bool_bool_l0 R [(0, .fz xs.length (bools xs) c1), (1, .fz xs.length (bools xs) c2), (12, .i .i64 xs.length), (13, .i .i64 k)] [] T := by
  intro ys
  induction ys with
  | nil =>
    intro k hk hle h2
    have hk' := drop_nil hk hle
    refine AW_loop hR ?_
    unfold slices_Equal_bool_bool_l0b
    simp -implicitDefEqProofs -dsimp only [go_sem, Nat.reduceEqDiff, Nat.reduceAdd, Nat.reduceMul, Nat.reduceSub, Nat.reduceLT, Nat.reduceLeDiff, Nat.reduceBEq, reduceIte, reduceCtorEq, Int.reduceLT, Int.reduceLE, Int.reduceEq, Int.reduceNeg, Int.reduceToNat, Int.reduceAdd, Int.reduceSub, hk', Int.lt_irrefl]
    rw [hk'] at h2
    exact h2
  | cons y ys ih =>
    intro k hk hle h2
    obtain ⟨hlt, hy, hk'⟩ := drop_lt hk
    have hbb : (y == y) = true := by cases y <;> rfl
    refine AW_loopD (l := slices_Equal_bool_bool_l0) rfl hR ?_
    unfold slices_Equal_bool_bool_l0b
    simp -implicitDefEqProofs -dsimp only [go_sem, Nat.reduceEqDiff, Nat.reduceAdd, Nat.reduceMul, Nat.reduceSub, Nat.reduceLT, Nat.reduceLeDiff, Nat.reduceBEq, reduceIte, reduceCtorEq, Int.reduceLT, Int.reduceLE, Int.reduceEq, Int.reduceNeg, Int.reduceToNat, Int.reduceAdd, Int.reduceSub, Int.ofNat_lt, hlt, Int.natCast_nonneg, Int.toNat_natCast, bools_at, hy, decide_true, hbb]
    rw [wrap_succ (by omega)]
    exact ih (k + 1) hk' hlt h2
theorem pc_EqInt (xs : List Int) (c1 c2 : Option Nat) (hl : xs.length < 1000000000) : PCalls prog f_slices_Equal_int_int [.fz xs.length (ints xs) c1, .fz xs.length (ints xs) c2] (.b true) := by
  refine pcalls_of mixed t_slices_Equal_int_int (by simp) fun T => ?_
  unfold s_slices_Equal_int_int
  simp -implicitDefEqProofs -dsimp only [go_sem, Nat.reduceEqDiff, Nat.reduceAdd, Nat.reduceMul, Nat.reduceSub, Nat.reduceLT, Nat.reduceLeDiff, Nat.reduceBEq, reduceIte, reduceCtorEq, Int.reduceLT, Int.reduceLE, Int.reduceEq, Int.reduceNeg, Int.reduceToNat, Int.reduceAdd, Int.reduceSub, decide_true]
  refine lp_EqInt (T := T) (by repeat' (first | exact finX_ext _ _ | assumption | apply blkR_ext | apply thenR_ext | apply AW_ext)) hl xs 0 rfl (by omega) ?_
  simp -implicitDefEqProofs -dsimp only [go_sem, Nat.reduceEqDiff, Nat.reduceAdd, Nat.reduceMul, Nat.reduceSub, Nat.reduceLT, Nat.reduceLeDiff, Nat.reduceBEq, reduceIte, reduceCtorEq, Int.reduceLT, Int.reduceLE, Int.reduceEq, Int.reduceNeg, Int.reduceToNat, Int.reduceAdd, Int.reduceSub]
  exact finL_pure rfl
theorem pc_EqBool (xs : List Bool) (c1 c2 : Option Nat) (hl : xs.length < 1000000000) : PCalls prog f_slices_Equal_bool_bool [.fz xs.length (bools xs) c1, .fz xs.length (bools xs) c2] (.b true) := by
  refine pcalls_of mixed t_slices_Equal_bool_bool (by simp) fun T => ?_
  unfold s_slices_Equal_bool_bool
  simp -implicitDefEqProofs -dsimp only [go_sem, Nat.reduceEqDiff, Nat.reduceAdd, Nat.reduceMul, Nat.reduceSub, Nat.reduceLT, Nat.reduceLeDiff, Nat.reduceBEq, reduceIte, reduceCtorEq, Int.reduceLT, Int.reduceLE, Int.reduceEq, Int.reduceNeg, Int.reduceToNat, Int.reduceAdd, Int.reduceSub, decide_true]
  refine lp_EqBool (T := T) (by repeat' (first | exact finX_ext _ _ | assumption | apply blkR_ext | apply thenR_ext | apply AW_ext)) hl xs 0 rfl (by omega) ?_
  simp -implicitDefEqProofs -dsimp only [go_sem, Nat.reduceEqDiff, Nat.reduceAdd, Nat.reduceMul, Nat.reduceSub, Nat.reduceLT, Nat.reduceLeDiff, Nat.reduceBEq, reduceIte, reduceCtorEq, Int.reduceLT, Int.reduceLE, Int.reduceEq, Int.reduceNeg, Int.reduceToNat, Int.reduceAdd, Int.reduceSub]
  exact finL_pure rfl
theorem pc_cSame_refl (c : Cf) (k1 k2 k3 k4 : Option Nat) (h1 : c.ch.length < 1000000000) (h2 : c.fu.length < 1000000000) : PCalls prog f_conf_Same [.agg (c.cells k1 k2), .agg (c.cells k3 k4)] (.b true) := by
  refine pcalls_of mixed t_conf_Same (by simp) fun T => ?_
  unfold s_conf_Same
  simp -implicitDefEqProofs -dsimp only [go_sem, Nat.reduceEqDiff, Nat.reduceAdd, Nat.reduceMul, Nat.reduceSub, Nat.reduceLT, Nat.reduceLeDiff, Nat.reduceBEq, reduceIte, reduceCtorEq, Int.reduceLT, Int.reduceLE, Int.reduceEq, Int.reduceNeg, Int.reduceToNat, Int.reduceAdd, Int.reduceSub, Cf.cells, decide_true, ↓g_gdc, rcOk, true_and, ↓g_call _ _ c_slices_Equal_int_int]
  refine CallK.pure (pc_EqInt c.ch k1 k3 h1) (aft_nil ?_)
  simp -implicitDefEqProofs -dsimp only [go_sem, Nat.reduceEqDiff, Nat.reduceAdd, Nat.reduceMul, Nat.reduceSub, Nat.reduceLT, Nat.reduceLeDiff, Nat.reduceBEq, reduceIte, reduceCtorEq, Int.reduceLT, Int.reduceLE, Int.reduceEq, Int.reduceNeg, Int.reduceToNat, Int.reduceAdd, Int.reduceSub, decide_true, ↓g_gdc, rcOk, true_and, ↓g_call _ _ c_slices_Equal_bool_bool]
  refine CallK.pure (pc_EqBool c.fu k2 k4 h2) (aft_nil ?_)
  simp -implicitDefEqProofs -dsimp only [go_sem, Nat.reduceEqDiff, Nat.reduceAdd, Nat.reduceMul, Nat.reduceSub, Nat.reduceLT, Nat.reduceLeDiff, Nat.reduceBEq, reduceIte, reduceCtorEq, Int.reduceLT, Int.reduceLE, Int.reduceEq, Int.reduceNeg, Int.reduceToNat, Int.reduceAdd, Int.reduceSub]
  exact finL_pure rfl

/-! In the document's own way. -/
theorem memC_at {l : List (Int × Bool)} {k : Nat} {y : Int × Bool} (h : l[k]? = some y) : (mem l).drop (k * 2) = [.i .i64 y.1, .b y.2] ++ (mem (l.drop (k + 1))) :=
  flat_at (f := fun m : Int × Bool => [AV.i .i64 m.1, .b m.2]) (fun _ => rfl) h
theorem memC_len (l : List (Int × Bool)) : (mem l).length = l.length * 2 := flat_length (f := fun m : Int × Bool => [AV.i .i64 m.1, .b m.2]) (fun _ => rfl) l
theorem Own.appB {T T1 : Tab} {v : AV} {b m : List UInt8} {c : Option Nat} {K : AV → Tab → Prop} (h : Own T 1 v b.length (byteCells b) T1) (hb : b.length + m.length ≤ 1000000000)
    (hk : ∀ v' T2, Own T 1 v' (b ++ m).length (byteCells (b ++ m)) T2 → K v' T2) : appStep 1 1 T1 v (bts m c) K := by
  refine h.app (m := m.length) (news := byteCells m) (by simp [bts, slCells, byteCells_length]) rfl (by omega) (by omega) fun v' T2 ho => hk v' T2 ?_
  rw [byteCells_append, ← List.length_append] at ho
  exact ho
theorem Gr.appB {T T1 : Tab} {v : AV} {b m : List UInt8} {c : Option Nat} {K : AV → Tab → Prop} (h : Gr T 1 v b.length (byteCells b) T1) (hb : b.length + m.length ≤ 1000000000) (h0 : 0 < m.length)
    (hk : ∀ v' T2, Own T 1 v' (b ++ m).length (byteCells (b ++ m)) T2 → K v' T2) : appStep 1 1 T1 v (bts m c) K := by
  refine h.app (m := m.length) (news := byteCells m) (by simp [bts, slCells, byteCells_length]) rfl h0 (by omega) (by omega) fun v' T2 ho => hk v' T2 ?_
  rw [byteCells_append, ← List.length_append] at ho
  exact ho
theorem wrap_u8n {n : Nat} (h : n < 128) : IntKind.u8.wrap (n : Int) = ((UInt8.ofNat n).toNat : Int) := by
  rw [wrap_u8, UInt8.toNat_ofNat_of_lt' (by show n < 256; omega)]; omega
theorem bts_two {a b : UInt8} : AV.fz 2 [.i .u8 (a.toNat : Int), .i .u8 (b.toNat : Int)] (some 2) = bts [a, b] (some 2) := rfl
theorem bts_one' {a : UInt8} : AV.fz 1 [.i .u8 (a.toNat : Int)] (some 1) = bts [a] (some 1) := rfl

structure Rf.Ok (w : Rf) : Prop where
  ep : 0 ≤ w.ep ∧ w.ep < 18446744073709551616
  sh : 0 ≤ w.sh ∧ w.sh < 4
  l : w.l.length ≤ 8
  ms : ∀ m ∈ w.l, 0 ≤ m.1 ∧ m.1 < 8
  ln : w.ln = -1 ∨ (0 ≤ w.ln ∧ w.ln < 8)
theorem Cf.Ok.plain {c : Cf} (h : c.Ok) : c.plain.Ok := ⟨h.ep, h.sh, by rw [c.plain_len]; exact h.ch, fun m hm => h.ms _ (by rw [← c.plain_fst]; exact List.mem_map_of_mem hm), h.ln⟩

end Go.Aw
