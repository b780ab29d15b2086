import Derived.Test.YtchkfbfbhaldfaaO16D
namespace Go.Aw
open Go
open Go.Proofs.Try (prog)
set_option linter.all false
set_option maxHeartbeats 4000000

theorem lp_EqInt {R : RPost} (hR : ExtR R) {T : Tab} {xs : List Int} {c1 c2 : Option Nat} (hl : xs.length < 1000000000) : ∀ (ys : List Int) (k : Nat), xs.drop k = ys → k ≤ xs.length →
    (R (.exit 0) [(0, .fz xs.length (ints xs) c1), (1, .fz xs.length (ints xs) c2), (12, .i .i64 xs.length), (13, .i .i64 xs.length), (14, .b false)] [] T) →
    AW prog slices_Equal_int_int_l0 R [(0, .fz xs.length (ints xs) c1), (1, .fz xs.length (ints xs) c2), (12, .i .i64 xs.length), (13, .i .i64 k)] [] T := by
  intro ys
  induction ys with
  | nil =>
    intro k hk hle h2
    have hk' := drop_nil hk hle
    refine AW_loop hR ?_
    unfold slices_Equal_int_int_l0b
    simp -implicitDefEqProofs -dsimp only [go_sem, Nat.reduceEqDiff, Nat.reduceAdd, Nat.reduceMul, Nat.reduceSub, Nat.reduceLT, Nat.reduceLeDiff, Nat.reduceBEq, reduceIte, reduceCtorEq, Int.reduceLT, Int.reduceLE, Int.reduceEq, Int.reduceNeg, Int.reduceToNat, Int.reduceAdd, Int.reduceSub, hk', Int.lt_irrefl]
    rw [hk'] at h2
    exact h2
  | cons y ys ih =>
    intro k hk hle h2
    obtain ⟨hlt, hy, hk'⟩ := drop_lt hk
    refine AW_loopD (l := slices_Equal_int_int_l0) rfl hR ?_
    unfold slices_Equal_int_int_l0b
    simp -implicitDefEqProofs -dsimp only [go_sem, Nat.reduceEqDiff, Nat.reduceAdd, Nat.reduceMul, Nat.reduceSub, Nat.reduceLT, Nat.reduceLeDiff, Nat.reduceBEq, reduceIte, reduceCtorEq, Int.reduceLT, Int.reduceLE, Int.reduceEq, Int.reduceNeg, Int.reduceToNat, Int.reduceAdd, Int.reduceSub, Int.ofNat_lt, hlt, Int.natCast_nonneg, Int.toNat_natCast, ints_at, hy, decide_true]
    rw [wrap_succ (by omega)]
    exact ih (k + 1) hk' hlt h2
theorem lp_EqBool {R : RPost} (hR : ExtR R) {T : Tab} {xs : List Bool} {c1 c2 : Option Nat} (hl : xs.length < 1000000000) : ∀ (ys : List Bool) (k : Nat), xs.drop k = ys → k ≤ xs.length →
    (R (.exit 0) [(0, .fz xs.length (bools xs) c1), (1, .fz xs.length (bools xs) c2), (12, .i .i64 xs.length), (13, .i .i64 xs.length), (14, .b false)] [] T) →
    AW prog slices_Equal_bool_bool_l0 R [(0, .fz xs.length (bools xs) c1), (1, .fz xs.length (bools xs) c2), (12, .i .i64 xs.length), (13, .i .i64 k)] [] T := by
  intro ys
  induction ys with
  | nil =>
    intro k hk hle h2
    have hk' := drop_nil hk hle
    refine AW_loop hR ?_
    unfold slices_Equal_bool_bool_l0b
    simp -implicitDefEqProofs -dsimp only [go_sem, Nat.reduceEqDiff, Nat.reduceAdd, Nat.reduceMul, Nat.reduceSub, Nat.reduceLT, Nat.reduceLeDiff, Nat.reduceBEq, reduceIte, reduceCtorEq, Int.reduceLT, Int.reduceLE, Int.reduceEq, Int.reduceNeg, Int.reduceToNat, Int.reduceAdd, Int.reduceSub, hk', Int.lt_irrefl]
    rw [hk'] at h2
    exact h2
  | cons y ys ih =>
    intro k hk hle h2
    obtain ⟨hlt, hy, hk'⟩ := drop_lt hk
    have hbb : (y == y) = true := by cases y <;> rfl
    refine AW_loopD (l := slices_Equal_bool_bool_l0) rfl hR ?_
    unfold slices_Equal_bool_bool_l0b
    simp -implicitDefEqProofs -dsimp only [go_sem, Nat.reduceEqDiff, Nat.reduceAdd, Nat.reduceMul, Nat.reduceSub, Nat.reduceLT, Nat.reduceLeDiff, Nat.reduceBEq, reduceIte, reduceCtorEq, Int.reduceLT, Int.reduceLE, Int.reduceEq, Int.reduceNeg, Int.reduceToNat, Int.reduceAdd, Int.reduceSub, Int.ofNat_lt, hlt, Int.natCast_nonneg, Int.toNat_natCast, bools_at, hy, decide_true, hbb]
    rw [wrap_succ (by omega)]
    exact ih (k + 1) hk' hlt h2
theorem pc_EqInt (xs : List Int) (c1 c2 : Option Nat) (hl : xs.length < 1000000000) : PCalls prog f_slices_Equal_int_int [.fz xs.length (ints xs) c1, .fz xs.length (ints xs) c2] (.b true) := by
  refine pcalls_of mixed t_slices_Equal_int_int (by simp) fun T => ?_
  unfold s_slices_Equal_int_int
  simp -implicitDefEqProofs -dsimp only [go_sem, Nat.reduceEqDiff, Nat.reduceAdd, Nat.reduceMul, Nat.reduceSub, Nat.reduceLT, Nat.reduceLeDiff, Nat.reduceBEq, reduceIte, reduceCtorEq, Int.reduceLT, Int.reduceLE, Int.reduceEq, Int.reduceNeg, Int.reduceToNat, Int.reduceAdd, Int.reduceSub, decide_true]
  refine lp_EqInt (T := T) (by repeat' (first | exact finX_ext _ _ | assumption | apply blkR_ext | apply thenR_ext | apply AW_ext)) hl xs 0 rfl (by omega) ?_
  simp -implicitDefEqProofs -dsimp only [go_sem, Nat.reduceEqDiff, Nat.reduceAdd, Nat.reduceMul, Nat.reduceSub, Nat.reduceLT, Nat.reduceLeDiff, Nat.reduceBEq, reduceIte, reduceCtorEq, Int.reduceLT, Int.reduceLE, Int.reduceEq, Int.reduceNeg, Int.reduceToNat, Int.reduceAdd, Int.reduceSub]
  exact finL_pure rfl
theorem pc_EqBool (xs : List Bool) (c1 c2 : Option Nat) (hl : xs.length < 1000000000) : PCalls prog f_slices_Equal_bool_bool [.fz xs.length (bools xs) c1, .fz xs.length (bools xs) c2] (.b true) := by
  refine pcalls_of mixed t_slices_Equal_bool_bool (by simp) fun T => ?_
  unfold s_slices_Equal_bool_bool
  simp -implicitDefEqProofs -dsimp only [go_sem, Nat.reduceEqDiff, Nat.reduceAdd, Nat.reduceMul, Nat.reduceSub, Nat.reduceLT, Nat.reduceLeDiff, Nat.reduceBEq, reduceIte, reduceCtorEq, Int.reduceLT, Int.reduceLE, Int.reduceEq, Int.reduceNeg, Int.reduceToNat, Int.reduceAdd, Int.reduceSub, decide_true]
  refine lp_EqBool (T := T) (by repeat' (first | exact finX_ext _ _ | assumption | apply blkR_ext | apply thenR_ext | apply AW_ext)) hl xs 0 rfl (by omega) ?_
  simp -implicitDefEqProofs -dsimp only [go_sem, Nat.reduceEqDiff, Nat.reduceAdd, Nat.reduceMul, Nat.reduceSub, Nat.reduceLT, Nat.reduceLeDiff, Nat.reduceBEq, reduceIte, reduceCtorEq, Int.reduceLT, Int.reduceLE, Int.reduceEq, Int.reduceNeg, Int.reduceToNat, Int.reduceAdd, Int.reduceSub]
  exact finL_pure rfl
theorem pc_cSame_refl (c : Cf) (k1 k2 k3 k4 : Option Nat) (h1 : c.ch.length < 1000000000) (h2 : c.fu.length < 1000000000) : PCalls prog f_conf_Same [.agg (c.cells k1 k2), .agg (c.cells k3 k4)] (.b true) := by
  refine pcalls_of mixed t_conf_Same (by simp) fun T => ?_
  unfold s_conf_Same
  simp -implicitDefEqProofs -dsimp only [go_sem, Nat.reduceEqDiff, Nat.reduceAdd, Nat.reduceMul, Nat.reduceSub, Nat.reduceLT, Nat.reduceLeDiff, Nat.reduceBEq, reduceIte, reduceCtorEq, Int.reduceLT, Int.reduceLE, Int.reduceEq, Int.reduceNeg, Int.reduceToNat, Int.reduceAdd, Int.reduceSub, Cf.cells, decide_true, ↓g_gdc, rcOk, true_and, ↓g_call _ _ c_slices_Equal_int_int]
  refine CallK.pure (pc_EqInt c.ch k1 k3 h1) (aft_nil ?_)
  simp -implicitDefEqProofs -dsimp only [go_sem, Nat.reduceEqDiff, Nat.reduceAdd, Nat.reduceMul, Nat.reduceSub, Nat.reduceLT, Nat.reduceLeDiff, Nat.reduceBEq, reduceIte, reduceCtorEq, Int.reduceLT, Int.reduceLE, Int.reduceEq, Int.reduceNeg, Int.reduceToNat, Int.reduceAdd, Int.reduceSub, decide_true, ↓g_gdc, rcOk, true_and, ↓g_call _ _ c_slices_Equal_bool_bool]
  refine CallK.pure (pc_EqBool c.fu k2 k4 h2) (aft_nil ?_)
  simp -implicitDefEqProofs -dsimp only [go_sem, Nat.reduceEqDiff, Nat.reduceAdd, Nat.reduceMul, Nat.reduceSub, Nat.reduceLT, Nat.reduceLeDiff, Nat.reduceBEq, reduceIte, reduceCtorEq, Int.reduceLT, Int.reduceLE, Int.reduceEq, Int.reduceNeg, Int.reduceToNat, Int.reduceAdd, Int.reduceSub]
  exact finL_pure rfl

/-! In the document's own way. -/
theorem memC_at {l : List (Int × Bool)} {k : Nat} {y : Int × Bool} (h : l[k]? = some y) : (mem l).drop (k * 2) = [.i .i64 y.1, .b y.2] ++ (mem (l.drop (k + 1))) :=
  flat_at (f := fun m : Int × Bool => [AV.i .i64 m.1, .b m.2]) (fun _ => rfl) h
theorem memC_len (l : List (Int × Bool)) : (mem l).length = l.length * 2 := flat_length (f := fun m : Int × Bool => [AV.i .i64 m.1, .b m.2]) (fun _ => rfl) l
theorem Own.appB {T T1 : Tab} {v : AV} {b m : List UInt8} {c : Option Nat} {K : AV → Tab → Prop} (h : Own T 1 v b.length (byteCells b) T1) (hb : b.length + m.length ≤ 1000000000)
    (hk : ∀ v' T2, Own T 1 v' (b ++ m).length (byteCells (b ++ m)) T2 → K v' T2) : appStep 1 1 T1 v (bts m c) K := by
  refine h.app (m := m.length) (news := byteCells m) (by simp [bts, slCells, byteCells_length]) rfl (by omega) (by omega) fun v' T2 ho => hk v' T2 ?_
  rw [byteCells_append, ← List.length_append] at ho
  exact ho
theorem Gr.appB {T T1 : Tab} {v : AV} {b m : List UInt8} {c : Option Nat} {K : AV → Tab → Prop} (h : Gr T 1 v b.length (byteCells b) T1) (hb : b.length + m.length ≤ 1000000000) (h0 : 0 < m.length)
    (hk : ∀ v' T2, Own T 1 v' (b ++ m).length (byteCells (b ++ m)) T2 → K v' T2) : appStep 1 1 T1 v (bts m c) K := by
  refine h.app (m := m.length) (news := byteCells m) (by simp [bts, slCells, byteCells_length]) rfl h0 (by omega) (by omega) fun v' T2 ho => hk v' T2 ?_
  rw [byteCells_append, ← List.length_append] at ho
  exact ho
theorem wrap_u8n {n : Nat} (h : n < 128) : IntKind.u8.wrap (n : Int) = ((UInt8.ofNat n).toNat : Int) := by
  rw [wrap_u8, UInt8.toNat_ofNat_of_lt' (by show n < 256; omega)]; omega
theorem bts_two {a b : UInt8} : AV.fz 2 [.i .u8 (a.toNat : Int), .i .u8 (b.toNat : Int)] (some 2) = bts [a, b] (some 2) := rfl
theorem bts_one' {a : UInt8} : AV.fz 1 [.i .u8 (a.toNat : Int)] (some 1) = bts [a] (some 1) := rfl

theorem lp_rPut16 {R : RPost} (hR : ExtR R) {T : Tab} {xs : List (Int × Bool)} {cap : Option Nat} {tc : List AV} (hl : xs.length ≤ 8) (hs : ∀ m ∈ xs, 0 ≤ m.1 ∧ m.1 < 8) : ∀ (ys : List (Int × Bool)) (k : Nat), xs.drop k = ys → k ≤ xs.length → ∀ (b : List UInt8) (v : AV) (T1 : Tab), b.length ≤ 1001000 + 100 * k → Own T 1 v b.length (byteCells b) T1 →
    (∀ v T1, Own T 1 v (b ++ ys.flatMap encM).length (byteCells (b ++ ys.flatMap encM)) T1 → R (.exit 0) [(1, .lp 1 0), (3, v), (21, .fz xs.length (mem xs) cap), (22, .i .i64 xs.length), (23, .i .i64 xs.length), (24, .b false)] [(1, tc)] T1) →
    AW prog sautoirref16_Put_l0 R [(1, .lp 1 0), (3, v), (21, .fz xs.length (mem xs) cap), (22, .i .i64 xs.length), (23, .i .i64 k)] [(1, tc)] T1 := by
  intro ys
  induction ys with
  | nil =>
    intro k hk hle b v T1 hb ho h2
    obtain ⟨p1, p2, p3, p4, p5, p6⟩ := ho.form
    have hk' := drop_nil hk hle
    refine AW_loop hR ?_
    unfold sautoirref16_Put_l0b
    simp -implicitDefEqProofs -dsimp only [go_sem, Nat.reduceEqDiff, Nat.reduceAdd, Nat.reduceMul, Nat.reduceSub, Nat.reduceLT, Nat.reduceLeDiff, Nat.reduceBEq, reduceIte, reduceCtorEq, Int.reduceLT, Int.reduceLE, Int.reduceEq, Int.reduceNeg, Int.reduceToNat, Int.reduceAdd, Int.reduceSub, hk', Int.lt_irrefl, p1, p2, p3, p4, p5, p6]
    rw [hk'] at h2
    simp only [List.flatMap_nil, List.append_nil] at h2
    exact h2 _ _ ho
  | cons y ys ih =>
    intro k hk hle b v T1 hb ho h2
    obtain ⟨p1, p2, p3, p4, p5, p6⟩ := ho.form
    obtain ⟨hlt, hy, hk'⟩ := drop_lt hk
    have hc := memC_at hy
    have hc5 : k * 2 + 2 ≤ (mem xs).length := by rw [memC_len]; omega
    have hm := hs y (List.mem_of_getElem? hy)
    obtain ⟨m, hmm⟩ := Int.eq_ofNat_of_zero_le hm.1
    have z0 : IntKind.u8.wrap 0 = ((bitB false).toNat : Int) := by decide +kernel
    have z1 : IntKind.u8.wrap 1 = ((bitB true).toNat : Int) := by decide +kernel
    have e : [UInt8.ofNat m, bitB y.2] = encM y := by
      simp only [encM, hmm, Int.toNat_natCast]; rw [enc_small (by omega)]; rfl
    refine AW_loopD (l := sautoirref16_Put_l0) rfl hR ?_
    unfold sautoirref16_Put_l0b
    obtain ⟨n, f⟩ := y
    simp only at hmm e
    cases f
    all_goals
      simp -implicitDefEqProofs -dsimp only [go_sem, Nat.reduceEqDiff, Nat.reduceAdd, Nat.reduceMul, Nat.reduceSub, Nat.reduceLT, Nat.reduceLeDiff, Nat.reduceBEq, reduceIte, reduceCtorEq, Int.reduceLT, Int.reduceLE, Int.reduceEq, Int.reduceNeg, Int.reduceToNat, Int.reduceAdd, Int.reduceSub, Int.ofNat_lt, hlt, Int.natCast_nonneg, Int.toNat_natCast, hc, hc5, List.cons_append, List.nil_append, p1, p2, p3, p4, p5, p6, hmm, wrap_u8n (n := m) (by omega), z0, z1, bts_two]
      rw [e]
      refine ho.appB (by have := encM_len hm; omega) fun v2 T2 ho => aft_nil ?_
      obtain ⟨p1, p2, p3, p4, p5, p6⟩ := ho.form
      simp -implicitDefEqProofs -dsimp only [go_sem, Nat.reduceEqDiff, Nat.reduceAdd, Nat.reduceMul, Nat.reduceSub, Nat.reduceLT, Nat.reduceLeDiff, Nat.reduceBEq, reduceIte, reduceCtorEq, Int.reduceLT, Int.reduceLE, Int.reduceEq, Int.reduceNeg, Int.reduceToNat, Int.reduceAdd, Int.reduceSub, p1, p2, p3, p4, p5, p6]
      rw [wrap_succ (by omega)]
      refine ih (k + 1) hk' hlt _ _ _ (by have := encM_len hm; rw [List.length_append]; omega) ho fun v T1 ho => h2 v T1 ?_
      simpa only [List.flatMap_cons, List.append_assoc] using ho

structure Rf.Ok (w : Rf) : Prop where
  ep : 0 ≤ w.ep ∧ w.ep < 18446744073709551616
  sh : 0 ≤ w.sh ∧ w.sh < 4
  l : w.l.length ≤ 8
  ms : ∀ m ∈ w.l, 0 ≤ m.1 ∧ m.1 < 8
  ln : w.ln = -1 ∨ (0 ≤ w.ln ∧ w.ln < 8)
theorem Cf.Ok.plain {c : Cf} (h : c.Ok) : c.plain.Ok := ⟨h.ep, h.sh, by rw [c.plain_len]; exact h.ch, fun m hm => h.ms _ (by rw [← c.plain_fst]; exact List.mem_map_of_mem hm), h.ln⟩

theorem ac_rPut16 (w : Rf) (k1 : Option Nat) (h : w.Ok) (T : Tab) : ACalls prog f_sautoirref16_Put [.agg (w.cells k1)] T (fun v T' => Own T 1 v (encRf w).length (byteCells (encRf w)) T') := by
  refine acalls_of mixed t_sautoirref16_Put (by simp) ?_
  obtain ⟨hep, hsh, hl, hms, hln⟩ := h
  obtain ⟨ep, hepm⟩ := Int.eq_ofNat_of_zero_le hep.1
  obtain ⟨sh, hshm⟩ := Int.eq_ofNat_of_zero_le hsh.1
  have l1 := enc_len10 (m := ep) (by omega)
  have l5 := flatB_len (g := encM) w.l fun m hm => encM_len (hms m hm)
  unfold s_sautoirref16_Put
  simp -implicitDefEqProofs -dsimp only [go_sem, Nat.reduceEqDiff, Nat.reduceAdd, Nat.reduceMul, Nat.reduceSub, Nat.reduceLT, Nat.reduceLeDiff, Nat.reduceBEq, reduceIte, reduceCtorEq, Int.reduceLT, Int.reduceLE, Int.reduceEq, Int.reduceNeg, Int.reduceToNat, Int.reduceAdd, Int.reduceSub, Rf.cells, hepm, hshm, wrap_u8n (n := sh) (by omega), wrap_u8n (n := w.l.length) (by omega), bts_two, ↓g_call _ _ c_sautoirref01_Put]
  refine CallK.of (ac_rPutG ep (by omega) T) (fun v T1 ho => aft_nil ?_)
  obtain ⟨p1, p2, p3, p4, p5, p6⟩ := ho.form
  simp -implicitDefEqProofs -dsimp only [go_sem, Nat.reduceEqDiff, Nat.reduceAdd, Nat.reduceMul, Nat.reduceSub, Nat.reduceLT, Nat.reduceLeDiff, Nat.reduceBEq, reduceIte, reduceCtorEq, Int.reduceLT, Int.reduceLE, Int.reduceEq, Int.reduceNeg, Int.reduceToNat, Int.reduceAdd, Int.reduceSub, p1, p2, p3, p4, p5, p6, bts_two]
  refine ho.appB (by simp; omega) (by simp) fun v2 T2 ho => aft_nil ?_
  obtain ⟨p1, p2, p3, p4, p5, p6⟩ := ho.form
  simp -implicitDefEqProofs -dsimp only [go_sem, Nat.reduceEqDiff, Nat.reduceAdd, Nat.reduceMul, Nat.reduceSub, Nat.reduceLT, Nat.reduceLeDiff, Nat.reduceBEq, reduceIte, reduceCtorEq, Int.reduceLT, Int.reduceLE, Int.reduceEq, Int.reduceNeg, Int.reduceToNat, Int.reduceAdd, Int.reduceSub, p1, p2, p3, p4, p5, p6]
  refine lp_rPut16 (T := T) (by repeat' (first | exact finX_ext _ _ | assumption | apply blkR_ext | apply thenR_ext | apply AW_ext)) hl hms w.l 0 rfl (by omega) _ _ _ (by simp; omega) ho (fun v T1 ho => ?_)
  obtain ⟨p1, p2, p3, p4, p5, p6⟩ := ho.form
  have fin : ∀ n : Nat, n < 128 → lnN w.ln = n → enc ep ++ [UInt8.ofNat sh, UInt8.ofNat w.l.length] ++ w.l.flatMap encM ++ [UInt8.ofNat n] = encRf w := by
    intro n hn he
    unfold encRf
    rw [he, hepm, hshm, enc_small (n := w.l.length) (by omega), enc_small hn, Int.toNat_natCast, Int.toNat_natCast, enc_small (n := sh) (by omega)]
    simp
  have w8 : IntKind.u8.wrap 8 = ((UInt8.ofNat 8).toNat : Int) := by decide +kernel
  rcases hln with hln | hln
  · have d : decide (w.ln < 0) = true := decide_eq_true (by omega)
    simp -implicitDefEqProofs -dsimp only [go_sem, Nat.reduceEqDiff, Nat.reduceAdd, Nat.reduceMul, Nat.reduceSub, Nat.reduceLT, Nat.reduceLeDiff, Nat.reduceBEq, reduceIte, reduceCtorEq, Int.reduceLT, Int.reduceLE, Int.reduceEq, Int.reduceNeg, Int.reduceToNat, Int.reduceAdd, Int.reduceSub, p1, p2, p3, p4, p5, p6, d, w8, bts_one']
    refine ho.appB (by simp only [List.length_append, List.length_cons, List.length_nil]; omega) fun v2 T2 ho => aft_nil ?_
    obtain ⟨p1, p2, p3, p4, p5, p6⟩ := ho.form
    simp -implicitDefEqProofs -dsimp only [go_sem, Nat.reduceEqDiff, Nat.reduceAdd, Nat.reduceMul, Nat.reduceSub, Nat.reduceLT, Nat.reduceLeDiff, Nat.reduceBEq, reduceIte, reduceCtorEq, Int.reduceLT, Int.reduceLE, Int.reduceEq, Int.reduceNeg, Int.reduceToNat, Int.reduceAdd, Int.reduceSub, p1, p2, p3, p4, p5, p6]
    rw [fin 8 (by omega) (by unfold lnN; rw [if_pos (by omega)])] at ho
    exact Own.fin ho (fun _ _ h => h)
  · have d : decide (w.ln < 0) = false := decide_eq_false (by omega)
    obtain ⟨ln, hlnm⟩ := Int.eq_ofNat_of_zero_le hln.1
    have d' : decide ((ln : Int) < 0) = false := decide_eq_false (by omega)
    simp -implicitDefEqProofs -dsimp only [go_sem, Nat.reduceEqDiff, Nat.reduceAdd, Nat.reduceMul, Nat.reduceSub, Nat.reduceLT, Nat.reduceLeDiff, Nat.reduceBEq, reduceIte, reduceCtorEq, Int.reduceLT, Int.reduceLE, Int.reduceEq, Int.reduceNeg, Int.reduceToNat, Int.reduceAdd, Int.reduceSub, p1, p2, p3, p4, p5, p6, hlnm, d', wrap_u8n (n := ln) (by omega), bts_one']
    refine ho.appB (by simp only [List.length_append, List.length_cons, List.length_nil]; omega) fun v2 T2 ho => aft_nil ?_
    obtain ⟨p1, p2, p3, p4, p5, p6⟩ := ho.form
    simp -implicitDefEqProofs -dsimp only [go_sem, Nat.reduceEqDiff, Nat.reduceAdd, Nat.reduceMul, Nat.reduceSub, Nat.reduceLT, Nat.reduceLeDiff, Nat.reduceBEq, reduceIte, reduceCtorEq, Int.reduceLT, Int.reduceLE, Int.reduceEq, Int.reduceNeg, Int.reduceToNat, Int.reduceAdd, Int.reduceSub, p1, p2, p3, p4, p5, p6]
    rw [fin ln (by omega) (by unfold lnN; rw [if_neg (by omega)]; omega)] at ho
    exact Own.fin ho (fun _ _ h => h)
end Go.Aw
