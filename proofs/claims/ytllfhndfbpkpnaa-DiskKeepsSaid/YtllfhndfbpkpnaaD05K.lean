import Derived.Test.YtllfhndfbpkpnaaD05J
namespace Go.Aw
open Go
open Go.Proofs.Try (prog)
set_option linter.all false
set_option maxHeartbeats 4000000

theorem lp_Keeps {R : RPost} (hR : ExtR R) {T : Tab} {id ir : Nat} (hne : id ≠ ir) {k0 k1 : Int} {xs : List Op} {kx : Option Nat} (hl : Len xs.length) (hx : ∀ x ∈ xs, x.Ok)
    (hE : ∀ x L d, Inv d → aget x 5 = some (.lp 5 0) → aget x 7 = some (.ptr id 0) → aget x 8 = some (.ptr ir 0) → aget L 5 = some [.i .u16 k0, .i .u16 k1] → R (.exit 0) x L (tb T id ir d)) : ∀ (ys : List Op) (k : Nat), xs.drop k = ys → k ≤ xs.length →
    ∀ (d : Dk), Inv d →
    AW prog sautoirlaw05_DiskKeeps_l0 R [(5, .lp 5 0), (7, .ptr id 0), (8, .ptr ir 0), (20, .fz xs.length (opsC xs) kx), (21, .i .i64 xs.length), (22, .i .i64 k)] [(5, [.i .u16 k0, .i .u16 k1])] (tb T id ir d) := by
  intro ys
  induction ys with
  | nil =>
    intro k hk hle d hb
    have hk' := drop_nil hk hle
    refine AW_loopD (l := sautoirlaw05_DiskKeeps_l0) rfl hR ?_
    unfold sautoirlaw05_DiskKeeps_l0b
    simp -implicitDefEqProofs -dsimp only [go_sem, Nat.reduceEqDiff, Nat.reduceAdd, Nat.reduceMul, Nat.reduceSub, Nat.reduceLT, Nat.reduceLeDiff, Nat.reduceBEq, reduceIte, reduceCtorEq, Int.reduceLT, Int.reduceLE, Int.reduceEq, Int.reduceNeg, Int.reduceToNat, Int.reduceAdd, Int.reduceSub, hk', Int.lt_irrefl]
    exact hE _ _ _ hb rfl rfl rfl rfl
  | cons y ys ih =>
    intro k hk hle d hb
    obtain ⟨hlt, hy, hk'⟩ := drop_lt hk
    have hl' := hl
    unfold Len at hl
    have hat := opsC_at hy
    have hlen : k * 6 + 6 ≤ (opsC xs).length := by rw [opsC_length]; omega
    refine AW_loopD (l := sautoirlaw05_DiskKeeps_l0) rfl hR ?_
    unfold sautoirlaw05_DiskKeeps_l0b
    simp -implicitDefEqProofs -dsimp only [go_sem, Nat.reduceEqDiff, Nat.reduceAdd, Nat.reduceMul, Nat.reduceSub, Nat.reduceLT, Nat.reduceLeDiff, Nat.reduceBEq, reduceIte, reduceCtorEq, Int.reduceLT, Int.reduceLE, Int.reduceEq, Int.reduceNeg, Int.reduceToNat, Int.reduceAdd, Int.reduceSub, Int.ofNat_lt, hlt, Int.natCast_nonneg, Int.toNat_natCast, hat, Nat.zero_le, Nat.le_add_left, true_and, Nat.zero_lt_succ]
    refine br_split (fun h1 => ?_) (fun h1 => ?_)
    · have cSt := ac_step (T := T) hne hb (hx y (List.mem_of_getElem? hy))
      simp only [Op.cells] at cSt
      simp -implicitDefEqProofs -dsimp only [go_sem, Nat.reduceEqDiff, Nat.reduceAdd, Nat.reduceMul, Nat.reduceSub, Nat.reduceLT, Nat.reduceLeDiff, Nat.reduceBEq, reduceIte, reduceCtorEq, Int.reduceLT, Int.reduceLE, Int.reduceEq, Int.reduceNeg, Int.reduceToNat, Int.reduceAdd, Int.reduceSub, h1, ↓g_call _ _ c_sautoirlaw05_step]
      refine CallK.of cSt (fun v T' h => ?_)
      obtain ⟨d', hd', rfl, rfl⟩ := h
      refine aft_nil ?_
      simp -implicitDefEqProofs -dsimp only [go_sem, Nat.reduceEqDiff, Nat.reduceAdd, Nat.reduceMul, Nat.reduceSub, Nat.reduceLT, Nat.reduceLeDiff, Nat.reduceBEq, reduceIte, reduceCtorEq, Int.reduceLT, Int.reduceLE, Int.reduceEq, Int.reduceNeg, Int.reduceToNat, Int.reduceAdd, Int.reduceSub]
      rw [wrap_succ (by omega)]
      exact ih (k + 1) hk' hlt d' hd'
    · simp -implicitDefEqProofs -dsimp only [go_sem, Nat.reduceEqDiff, Nat.reduceAdd, Nat.reduceMul, Nat.reduceSub, Nat.reduceLT, Nat.reduceLeDiff, Nat.reduceBEq, reduceIte, reduceCtorEq, Int.reduceLT, Int.reduceLE, Int.reduceEq, Int.reduceNeg, Int.reduceToNat, Int.reduceAdd, Int.reduceSub, h1]
      rw [wrap_succ (by omega)]
      exact ih (k + 1) hk' hlt d hb

theorem pc_DiskKeeps (r : Int) (xs : List Op) (kx : Option Nat) (hl : Len xs.length) (hx : ∀ x ∈ xs, x.Ok) (k0 k1 : Int) (h0 : 0 ≤ k0 ∧ k0 < 65536) (h1 : 0 ≤ k1 ∧ k1 < 65536) :
    PCalls prog f_sautoirlaw05_DiskKeeps [.i .i64 r, .fz xs.length (opsC xs) kx, .agg [.i .u16 k0, .i .u16 k1]] (.b true) := by
  refine pcalls_of mixed t_sautoirlaw05_DiskKeeps (by simp) fun T => ?_
  unfold s_sautoirlaw05_DiskKeeps
  simp -implicitDefEqProofs -dsimp only [go_sem, Nat.reduceEqDiff, Nat.reduceAdd, Nat.reduceMul, Nat.reduceSub, Nat.reduceLT, Nat.reduceLeDiff, Nat.reduceBEq, reduceIte, reduceCtorEq, Int.reduceLT, Int.reduceLE, Int.reduceEq, Int.reduceNeg, Int.reduceToNat, Int.reduceAdd, Int.reduceSub, ↓g_call _ _ c_disk_New]
  refine CallK.of (ac_New r T) (fun v T0 h => ?_)
  obtain ⟨id, rfl, hid, rfl⟩ := h
  refine aft_nil ?_
  simp -implicitDefEqProofs -dsimp only [go_sem, Nat.reduceEqDiff, Nat.reduceAdd, Nat.reduceMul, Nat.reduceSub, Nat.reduceLT, Nat.reduceLeDiff, Nat.reduceBEq, reduceIte, reduceCtorEq, Int.reduceLT, Int.reduceLE, Int.reduceEq, Int.reduceNeg, Int.reduceToNat, Int.reduceAdd, Int.reduceSub, ↓g_call _ _ c_sautoirref05_New]
  refine CallK.of (ac_RNew r _) (fun v T0 h => ?_)
  obtain ⟨ir, rfl, hir, rfl⟩ := h
  refine aft_nil ?_
  obtain ⟨hne', hir'⟩ := Tab.unused_put hir
  have hne : id ≠ ir := Ne.symm hne'
  have htb : ∀ d d' : Dk, ∀ j, SlotLe (T j) (((tb T id ir d).put id (.row 8 d'.cells)) j) := fun d d' j => by
    by_cases e : j = id
    · subst e; exact .inl hid
    · rw [Tab.put_ne _ _ e]
      unfold tb
      by_cases e : j = ir
      · subst e; exact .inl hir'
      · rw [Tab.put_ne _ _ e]; exact kill_le hid j
  rw [show (T.put id (.row 8 (Dk.new r).cells)).put ir (.row 7 (Dk.new r).rcells) = tb T id ir (Dk.new r) from rfl]
  simp -implicitDefEqProofs -dsimp only [go_sem, Nat.reduceEqDiff, Nat.reduceAdd, Nat.reduceMul, Nat.reduceSub, Nat.reduceLT, Nat.reduceLeDiff, Nat.reduceBEq, reduceIte, reduceCtorEq, Int.reduceLT, Int.reduceLE, Int.reduceEq, Int.reduceNeg, Int.reduceToNat, Int.reduceAdd, Int.reduceSub]
  refine lp_Keeps (by repeat' (first | exact finX_ext _ _ | assumption | apply blkR_ext | apply thenR_ext | apply AW_ext)) hne hl hx (fun x L d hd q5 q7 q8 qL => ?_) xs 0 rfl (by omega) (Dk.new r) (new_inv r)
  have hR := tb_ir (T := T) (id := id) (ir := ir) d
  unfold RAt Dk.rcells at hR
  have cK := ac_Crash hd.ok (tb_id (T := T) hne d) k0 k1 h0 h1
  simp -implicitDefEqProofs -dsimp only [go_sem, Nat.reduceEqDiff, Nat.reduceAdd, Nat.reduceMul, Nat.reduceSub, Nat.reduceLT, Nat.reduceLeDiff, Nat.reduceBEq, reduceIte, reduceCtorEq, Int.reduceLT, Int.reduceLE, Int.reduceEq, Int.reduceNeg, Int.reduceToNat, Int.reduceAdd, Int.reduceSub, aget_dropLp, q5, q7, q8, qL, hR, ↓g_call _ _ c_disk_Disk_Crash]
  refine CallK.as cK (aft_nil ?_)
  have hok := Dk.crash_ok hd.ok h0.1 h1.1
  have b0 := Ar.keep_bd hd.ok.o0 h0.1
  have b1 := Ar.keep_bd hd.ok.o1 h1.1
  have s0 := hd.ok.o0.s0
  have s1 := hd.ok.o1.s0
  have hA : At ((tb T id ir d).put id (.row 8 (d.crash k0 k1).cells)) id (d.crash k0 k1) := Tab.put_same ..
  have cL := ac_Lost hA
  rw [show (d.crash k0 k1).lost = false from rfl] at cL
  have cR0 := ac_Read hok hA 0
  have cR1 := ac_Read hok hA 1
  have f0 : (d.a0.b.take (d.a0.keepN k0).toNat).length = (d.a0.keepN k0).toNat := by rw [List.length_take]; omega
  have f1 : (d.a1.b.take (d.a1.keepN k1).toNat).length = (d.a1.keepN k1).toNat := by rw [List.length_take]; omega
  have e0 : (d.crash k0 k1).read 0 = (.fz (d.a0.keepN k0).toNat (byteCells (d.a0.b.take (d.a0.keepN k0).toNat)) none, 0) := by
    have : (d.crash k0 k1).read 0 = (bts (d.a0.b.take (d.a0.keepN k0).toNat) none, 0) := rfl
    rw [this, bts, f0]
  have e1 : (d.crash k0 k1).read 1 = (.fz (d.a1.keepN k1).toNat (byteCells (d.a1.b.take (d.a1.keepN k1).toNat)) none, 0) := by
    have : (d.crash k0 k1).read 1 = (bts (d.a1.b.take (d.a1.keepN k1).toNat) none, 0) := rfl
    rw [this, bts, f1]
  rw [e0] at cR0
  rw [e1] at cR1
  have cS0 := ac_Sure hA 0
  have cS1 := ac_Sure hA 1
  rw [show (d.crash k0 k1).sure 0 = d.a0.keepN k0 from rfl] at cS0
  rw [show (d.crash k0 k1).sure 1 = d.a1.keepN k1 from rfl] at cS1
  have t0 : ((d.a0.keepN k0).toNat : Int) = d.a0.keepN k0 := Int.toNat_of_nonneg (by omega)
  have t1 : ((d.a1.keepN k1).toNat : Int) = d.a1.keepN k1 := Int.toNat_of_nonneg (by omega)
  have x0 : decide (d.a0.keepN k0 < d.a0.su) = false := decide_eq_false (by omega)
  have x1 : decide (d.a1.keepN k1 < d.a1.su) = false := decide_eq_false (by omega)
  have y0 : decide ((d.a0.b.length : Int) < d.a0.keepN k0) = false := decide_eq_false (by omega)
  have y1 : decide ((d.a1.b.length : Int) < d.a1.keepN k1) = false := decide_eq_false (by omega)
  have z0 : (0 : Int) ≤ d.a0.keepN k0 := by omega
  have z1 : (0 : Int) ≤ d.a1.keepN k1 := by omega
  have u0 : (d.a0.keepN k0).toNat ≤ d.a0.b.length := by omega
  have u1 : (d.a1.keepN k1).toNat ≤ d.a1.b.length := by omega
  have v1 : IntKind.i64.wrap 1 = 1 := rfl
  have v2 : IntKind.i64.wrap 2 = 2 := rfl
  have hfin := htb d (d.crash k0 k1)
  clear htb hR cK
  generalize (tb T id ir d).put id (.row 8 (d.crash k0 k1).cells) = T2 at *
  simp -implicitDefEqProofs -dsimp only [go_sem, Nat.reduceEqDiff, Nat.reduceAdd, Nat.reduceMul, Nat.reduceSub, Nat.reduceLT, Nat.reduceLeDiff, Nat.reduceBEq, reduceIte, reduceCtorEq, Int.reduceLT, Int.reduceLE, Int.reduceEq, Int.reduceNeg, Int.reduceToNat, Int.reduceAdd, Int.reduceSub, ↓g_call _ _ c_disk_Disk_Lost]
  refine CallK.as cL (aft_nil ?_)
  simp -implicitDefEqProofs -dsimp only [go_sem, Nat.reduceEqDiff, Nat.reduceAdd, Nat.reduceMul, Nat.reduceSub, Nat.reduceLT, Nat.reduceLeDiff, Nat.reduceBEq, reduceIte, reduceCtorEq, Int.reduceLT, Int.reduceLE, Int.reduceEq, Int.reduceNeg, Int.reduceToNat, Int.reduceAdd, Int.reduceSub]
  refine AW_loopD (l := sautoirlaw05_DiskKeeps_l1) rfl (by repeat' (first | exact finX_ext _ _ | assumption | apply blkR_ext | apply thenR_ext | apply AW_ext)) ?_
  unfold sautoirlaw05_DiskKeeps_l1b
  simp -implicitDefEqProofs -dsimp only [go_sem, Nat.reduceEqDiff, Nat.reduceAdd, Nat.reduceMul, Nat.reduceSub, Nat.reduceLT, Nat.reduceLeDiff, Nat.reduceBEq, reduceIte, reduceCtorEq, Int.reduceLT, Int.reduceLE, Int.reduceEq, Int.reduceNeg, Int.reduceToNat, Int.reduceAdd, Int.reduceSub, ↓g_call _ _ c_disk_Disk_Read]
  refine CallK.as cR0 (aft_nil ?_)
  simp -implicitDefEqProofs -dsimp only [go_sem, Nat.reduceEqDiff, Nat.reduceAdd, Nat.reduceMul, Nat.reduceSub, Nat.reduceLT, Nat.reduceLeDiff, Nat.reduceBEq, reduceIte, reduceCtorEq, Int.reduceLT, Int.reduceLE, Int.reduceEq, Int.reduceNeg, Int.reduceToNat, Int.reduceAdd, Int.reduceSub, t0, x0, y0, z0, u0, decide_true, decide_false, byteCells_length, bytesAv_cells, f0, Nat.zero_le, true_and, Nat.sub_zero, show ((2 : Nat) : Int) = 2 from rfl, ↓g_gdc, ↓g_call _ _ c_disk_Disk_Sure]
  refine CallK.as cS0 (aft_nil ?_)
  simp -implicitDefEqProofs -dsimp only [go_sem, Nat.reduceEqDiff, Nat.reduceAdd, Nat.reduceMul, Nat.reduceSub, Nat.reduceLT, Nat.reduceLeDiff, Nat.reduceBEq, reduceIte, reduceCtorEq, Int.reduceLT, Int.reduceLE, Int.reduceEq, Int.reduceNeg, Int.reduceToNat, Int.reduceAdd, Int.reduceSub, t0, v1, decide_true, decide_false]
  refine AW_loopD (l := sautoirlaw05_DiskKeeps_l1) rfl (by repeat' (first | exact finX_ext _ _ | assumption | apply blkR_ext | apply thenR_ext | apply AW_ext)) ?_
  unfold sautoirlaw05_DiskKeeps_l1b
  simp -implicitDefEqProofs -dsimp only [go_sem, Nat.reduceEqDiff, Nat.reduceAdd, Nat.reduceMul, Nat.reduceSub, Nat.reduceLT, Nat.reduceLeDiff, Nat.reduceBEq, reduceIte, reduceCtorEq, Int.reduceLT, Int.reduceLE, Int.reduceEq, Int.reduceNeg, Int.reduceToNat, Int.reduceAdd, Int.reduceSub, ↓g_call _ _ c_disk_Disk_Read]
  refine CallK.as cR1 (aft_nil ?_)
  simp -implicitDefEqProofs -dsimp only [go_sem, Nat.reduceEqDiff, Nat.reduceAdd, Nat.reduceMul, Nat.reduceSub, Nat.reduceLT, Nat.reduceLeDiff, Nat.reduceBEq, reduceIte, reduceCtorEq, Int.reduceLT, Int.reduceLE, Int.reduceEq, Int.reduceNeg, Int.reduceToNat, Int.reduceAdd, Int.reduceSub, t1, x1, y1, z1, u1, decide_true, decide_false, byteCells_length, bytesAv_cells, f1, Nat.zero_le, true_and, Nat.sub_zero, show ((2 : Nat) : Int) = 2 from rfl, show (1 : Int).toNat = 1 from rfl, ↓g_gdc, ↓g_call _ _ c_disk_Disk_Sure]
  refine CallK.as cS1 (aft_nil ?_)
  simp -implicitDefEqProofs -dsimp only [go_sem, Nat.reduceEqDiff, Nat.reduceAdd, Nat.reduceMul, Nat.reduceSub, Nat.reduceLT, Nat.reduceLeDiff, Nat.reduceBEq, reduceIte, reduceCtorEq, Int.reduceLT, Int.reduceLE, Int.reduceEq, Int.reduceNeg, Int.reduceToNat, Int.reduceAdd, Int.reduceSub, t1, v2, decide_true, decide_false]
  refine AW_loopD (l := sautoirlaw05_DiskKeeps_l1) rfl (by repeat' (first | exact finX_ext _ _ | assumption | apply blkR_ext | apply thenR_ext | apply AW_ext)) ?_
  unfold sautoirlaw05_DiskKeeps_l1b
  simp -implicitDefEqProofs -dsimp only [go_sem, Nat.reduceEqDiff, Nat.reduceAdd, Nat.reduceMul, Nat.reduceSub, Nat.reduceLT, Nat.reduceLeDiff, Nat.reduceBEq, reduceIte, reduceCtorEq, Int.reduceLT, Int.reduceLE, Int.reduceEq, Int.reduceNeg, Int.reduceToNat, Int.reduceAdd, Int.reduceSub, ↓g_call _ _ c_sautoirlaw05_awake]
  refine CallK.pure pc_awake (aft_nil ?_)
  simp -implicitDefEqProofs -dsimp only [go_sem, Nat.reduceEqDiff, Nat.reduceAdd, Nat.reduceMul, Nat.reduceSub, Nat.reduceLT, Nat.reduceLeDiff, Nat.reduceBEq, reduceIte, reduceCtorEq, Int.reduceLT, Int.reduceLE, Int.reduceEq, Int.reduceNeg, Int.reduceToNat, Int.reduceAdd, Int.reduceSub]
  exact fin_kill hfin
end Go.Aw
