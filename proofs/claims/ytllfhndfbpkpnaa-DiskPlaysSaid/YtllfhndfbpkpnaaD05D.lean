import Derived.Test.YtllfhndfbpkpnaaD05C
namespace Go.Aw
open Go
open Go.Proofs.Try (prog)
set_option linter.all false
set_option maxHeartbeats 4000000

/-- How many bytes of an area are left. -/
def Ar.keepN (a : Ar) (k : Int) : Int := a.su + k.tmod (a.b.length - a.su + 1)
def Ar.crash (a : Ar) (k : Int) : Ar := ⟨a.b.take (a.keepN k).toNat, none, a.keepN k⟩
def Dk.crash (d : Dk) (k0 k1 : Int) : Dk := ⟨d.room, d.a0.crash k0, d.a1.crash k1, false, false, 0⟩

theorem Ar.keep_bd {a : Ar} (h : a.Ok) {k : Int} (hk : 0 ≤ k) : a.su ≤ a.keepN k ∧ a.keepN k ≤ a.b.length := by
  have h1 := h.s0
  have h2 := h.s1
  unfold Ar.keepN
  have h3 := Int.tmod_nonneg ((a.b.length : Int) - a.su + 1) hk
  have h4 := Int.tmod_lt_of_pos k (show (0 : Int) < (a.b.length : Int) - a.su + 1 by omega)
  omega
theorem Ar.crash_ok {a : Ar} (h : a.Ok) {k : Int} (hk : 0 ≤ k) : (a.crash k).Ok := by
  have := Ar.keep_bd h hk
  have := h.s0
  refine ⟨by simp only [Ar.crash]; omega, ?_⟩
  simp only [Ar.crash, List.length_take]
  omega
theorem Dk.crash_ok {d : Dk} (h : d.Ok) {k0 k1 : Int} (h0 : 0 ≤ k0) (h1 : 0 ≤ k1) : (d.crash k0 k1).Ok := by
  refine ⟨h.r0, h.r1, ?_, Ar.crash_ok h.o0 h0, Ar.crash_ok h.o1 h1, by simp [Dk.crash]⟩
  have := h.fits
  have e0 : (d.a0.crash k0).b.length ≤ d.a0.b.length := by simp [Ar.crash, List.length_take]; omega
  have e1 : (d.a1.crash k1).b.length ≤ d.a1.b.length := by simp [Ar.crash, List.length_take]; omega
  simp only [Dk.crash]
  omega

theorem ac_Crash {d : Dk} (hd : d.Ok) {T : Tab} {id : Nat} (hT : At T id d) (k0 k1 : Int) (h0 : 0 ≤ k0 ∧ k0 < 65536) (h1 : 0 ≤ k1 ∧ k1 < 65536) :
    ACalls prog f_disk_Disk_Crash [.ptr id 0, .agg [.i .u16 k0, .i .u16 k1]] T (fun v T' => v = .tup [] ∧ T' = T.put id (.row 8 (d.crash k0 k1).cells)) := by
  refine acalls_of mixed t_disk_Disk_Crash (by simp) ?_
  unfold s_disk_Disk_Crash
  have r1 := hd.r1
  have r2 := hd.fits
  have b0 := Ar.keep_bd hd.o0 h0.1
  have b1 := Ar.keep_bd hd.o1 h1.1
  have s0 := hd.o0.s0
  have s0' := hd.o0.s1
  have s1 := hd.o1.s0
  have s1' := hd.o1.s1
  have hT0 : T id = .row 8 [.i .i64 d.room, .fz d.a0.b.length (byteCells d.a0.b) d.a0.c, .i .i64 d.a0.su, .fz d.a1.b.length (byteCells d.a1.b) d.a1.c, .i .i64 d.a1.su, .b d.lost, .b d.armed, .i .i64 d.left] := hT
  have w0 : IntKind.i64.wrap k0 = k0 := wrap_i64 (by unfold I64; omega)
  have w1 : IntKind.i64.wrap k1 = k1 := wrap_i64 (by unfold I64; omega)
  have w2 : IntKind.i64.wrap ((d.a0.b.length : Int) - d.a0.su) = (d.a0.b.length : Int) - d.a0.su := wrap_i64 (by unfold I64; omega)
  have w3 : IntKind.i64.wrap ((d.a1.b.length : Int) - d.a1.su) = (d.a1.b.length : Int) - d.a1.su := wrap_i64 (by unfold I64; omega)
  have w4 : IntKind.i64.wrap ((d.a0.b.length : Int) - d.a0.su + 1) = (d.a0.b.length : Int) - d.a0.su + 1 := wrap_i64 (by unfold I64; omega)
  have w5 : IntKind.i64.wrap ((d.a1.b.length : Int) - d.a1.su + 1) = (d.a1.b.length : Int) - d.a1.su + 1 := wrap_i64 (by unfold I64; omega)
  have w6 : IntKind.i64.wrap (d.a0.su + k0.tmod ((d.a0.b.length : Int) - d.a0.su + 1)) = d.a0.keepN k0 := wrap_i64 (by unfold I64; unfold Ar.keepN at b0; omega)
  have w7 : IntKind.i64.wrap (d.a1.su + k1.tmod ((d.a1.b.length : Int) - d.a1.su + 1)) = d.a1.keepN k1 := wrap_i64 (by unfold I64; unfold Ar.keepN at b1; omega)
  have z0 : ((d.a0.b.length : Int) - d.a0.su + 1 = 0) = False := by simp; omega
  have z1 : ((d.a1.b.length : Int) - d.a1.su + 1 = 0) = False := by simp; omega
  have p0 : (0 : Int) ≤ d.a0.keepN k0 := by omega
  have p1 : (0 : Int) ≤ d.a1.keepN k1 := by omega
  have p2 : (d.a0.keepN k0).toNat ≤ d.a0.b.length := by omega
  have p3 : (d.a1.keepN k1).toNat ≤ d.a1.b.length := by omega
  have cl : ∀ (l : List UInt8) (n : Nat), l.length ≤ 1048576 → n ≤ l.length → ∀ cc, PCalls prog f_slices_Clone_byte_byte [.fz n (byteCells (l.take n)) cc] (.fz n (byteCells (l.take n)) none) := fun l n hl hn cc => by
    have f4 : (l.take n).length = n := by rw [List.length_take]; omega
    have := pc_Clone (l.take n) cc (by omega)
    unfold bts at this
    rwa [f4] at this
  have v1 : IntKind.i64.wrap 1 = 1 := rfl
  have v2 : IntKind.i64.wrap 2 = 2 := rfl
  simp -implicitDefEqProofs -dsimp only [go_sem, Nat.reduceEqDiff, Nat.reduceAdd, Nat.reduceMul, Nat.reduceSub, Nat.reduceLT, Nat.reduceLeDiff, Nat.reduceBEq, reduceIte, reduceCtorEq, Int.reduceLT, Int.reduceLE, Int.reduceEq, Int.reduceNeg, Int.reduceToNat, Int.reduceAdd, Int.reduceSub]
  refine AW_loopD (l := disk_Disk_Crash_l0) rfl (by repeat' (first | exact finX_ext _ _ | assumption | apply blkR_ext | apply thenR_ext | apply AW_ext)) ?_
  unfold disk_Disk_Crash_l0b
  simp -implicitDefEqProofs -dsimp only [go_sem, Nat.reduceEqDiff, Nat.reduceAdd, Nat.reduceMul, Nat.reduceSub, Nat.reduceLT, Nat.reduceLeDiff, Nat.reduceBEq, reduceIte, reduceCtorEq, Int.reduceLT, Int.reduceLE, Int.reduceEq, Int.reduceNeg, Int.reduceToNat, Int.reduceAdd, Int.reduceSub, hT0, w0, w2, w4, w6, z0, p0, p2, v1, Nat.zero_le, true_and, byteCells_take, show ((2 : Nat) : Int) = 2 from rfl, ↓g_call _ _ c_slices_Clone_byte_byte]
  refine CallK.pure (cl d.a0.b _ (by omega) p2 _) (aft_nil ?_)
  simp -implicitDefEqProofs -dsimp only [go_sem, Nat.reduceEqDiff, Nat.reduceAdd, Nat.reduceMul, Nat.reduceSub, Nat.reduceLT, Nat.reduceLeDiff, Nat.reduceBEq, reduceIte, reduceCtorEq, Int.reduceLT, Int.reduceLE, Int.reduceEq, Int.reduceNeg, Int.reduceToNat, Int.reduceAdd, Int.reduceSub]
  refine stS_row hT0 rfl rfl (by simp) ?_
  refine aft_nil ?_
  simp -implicitDefEqProofs -dsimp only [go_sem, Nat.reduceEqDiff, Nat.reduceAdd, Nat.reduceMul, Nat.reduceSub, Nat.reduceLT, Nat.reduceLeDiff, Nat.reduceBEq, reduceIte, reduceCtorEq, Int.reduceLT, Int.reduceLE, Int.reduceEq, Int.reduceNeg, Int.reduceToNat, Int.reduceAdd, Int.reduceSub]
  refine stS_row (Tab.put_same _ _ _) rfl rfl (by simp [stCells]) ?_
  refine aft_nil ?_
  simp -implicitDefEqProofs -dsimp only [go_sem, Nat.reduceEqDiff, Nat.reduceAdd, Nat.reduceMul, Nat.reduceSub, Nat.reduceLT, Nat.reduceLeDiff, Nat.reduceBEq, reduceIte, reduceCtorEq, Int.reduceLT, Int.reduceLE, Int.reduceEq, Int.reduceNeg, Int.reduceToNat, Int.reduceAdd, Int.reduceSub, v1, Tab.put_put]
  have hT1 := Tab.put_same T id (.row 8 [.i .i64 d.room, .fz (d.a0.keepN k0).toNat (byteCells (List.take (d.a0.keepN k0).toNat d.a0.b)) none, .i .i64 (d.a0.keepN k0), .fz d.a1.b.length (byteCells d.a1.b) d.a1.c, .i .i64 d.a1.su, .b d.lost, .b d.armed, .i .i64 d.left])
  refine AW_loopD (l := disk_Disk_Crash_l0) rfl (by repeat' (first | exact finX_ext _ _ | assumption | apply blkR_ext | apply thenR_ext | apply AW_ext)) ?_
  unfold disk_Disk_Crash_l0b
  simp -implicitDefEqProofs -dsimp only [go_sem, Nat.reduceEqDiff, Nat.reduceAdd, Nat.reduceMul, Nat.reduceSub, Nat.reduceLT, Nat.reduceLeDiff, Nat.reduceBEq, reduceIte, reduceCtorEq, Int.reduceLT, Int.reduceLE, Int.reduceEq, Int.reduceNeg, Int.reduceToNat, Int.reduceAdd, Int.reduceSub, hT1, w1, w3, w5, w7, z1, p1, p3, v2, Nat.zero_le, true_and, byteCells_take, show ((2 : Nat) : Int) = 2 from rfl, show (1 : Int).toNat = 1 from rfl, ↓g_call _ _ c_slices_Clone_byte_byte]
  refine CallK.pure (cl d.a1.b _ (by omega) p3 _) (aft_nil ?_)
  simp -implicitDefEqProofs -dsimp only [go_sem, Nat.reduceEqDiff, Nat.reduceAdd, Nat.reduceMul, Nat.reduceSub, Nat.reduceLT, Nat.reduceLeDiff, Nat.reduceBEq, reduceIte, reduceCtorEq, Int.reduceLT, Int.reduceLE, Int.reduceEq, Int.reduceNeg, Int.reduceToNat, Int.reduceAdd, Int.reduceSub]
  refine stS_row hT1 rfl rfl (by simp) ?_
  refine aft_nil ?_
  simp -implicitDefEqProofs -dsimp only [go_sem, Nat.reduceEqDiff, Nat.reduceAdd, Nat.reduceMul, Nat.reduceSub, Nat.reduceLT, Nat.reduceLeDiff, Nat.reduceBEq, reduceIte, reduceCtorEq, Int.reduceLT, Int.reduceLE, Int.reduceEq, Int.reduceNeg, Int.reduceToNat, Int.reduceAdd, Int.reduceSub]
  refine stS_row (Tab.put_same _ _ _) rfl rfl (by simp [stCells]) ?_
  refine aft_nil ?_
  simp -implicitDefEqProofs -dsimp only [go_sem, Nat.reduceEqDiff, Nat.reduceAdd, Nat.reduceMul, Nat.reduceSub, Nat.reduceLT, Nat.reduceLeDiff, Nat.reduceBEq, reduceIte, reduceCtorEq, Int.reduceLT, Int.reduceLE, Int.reduceEq, Int.reduceNeg, Int.reduceToNat, Int.reduceAdd, Int.reduceSub, v2, Tab.put_put]
  refine AW_loopD (l := disk_Disk_Crash_l0) rfl (by repeat' (first | exact finX_ext _ _ | assumption | apply blkR_ext | apply thenR_ext | apply AW_ext)) ?_
  unfold disk_Disk_Crash_l0b
  simp -implicitDefEqProofs -dsimp only [go_sem, Nat.reduceEqDiff, Nat.reduceAdd, Nat.reduceMul, Nat.reduceSub, Nat.reduceLT, Nat.reduceLeDiff, Nat.reduceBEq, reduceIte, reduceCtorEq, Int.reduceLT, Int.reduceLE, Int.reduceEq, Int.reduceNeg, Int.reduceToNat, Int.reduceAdd, Int.reduceSub]
  refine stS_row (Tab.put_same _ _ _) rfl rfl (by simp [stCells]) ?_
  refine aft_nil ?_
  simp -implicitDefEqProofs -dsimp only [go_sem, Nat.reduceEqDiff, Nat.reduceAdd, Nat.reduceMul, Nat.reduceSub, Nat.reduceLT, Nat.reduceLeDiff, Nat.reduceBEq, reduceIte, reduceCtorEq, Int.reduceLT, Int.reduceLE, Int.reduceEq, Int.reduceNeg, Int.reduceToNat, Int.reduceAdd, Int.reduceSub]
  refine stS_row (Tab.put_same _ _ _) rfl rfl (by simp [stCells]) ?_
  refine aft_nil ?_
  simp -implicitDefEqProofs -dsimp only [go_sem, Nat.reduceEqDiff, Nat.reduceAdd, Nat.reduceMul, Nat.reduceSub, Nat.reduceLT, Nat.reduceLeDiff, Nat.reduceBEq, reduceIte, reduceCtorEq, Int.reduceLT, Int.reduceLE, Int.reduceEq, Int.reduceNeg, Int.reduceToNat, Int.reduceAdd, Int.reduceSub]
  refine stS_row (Tab.put_same _ _ _) rfl rfl (by simp [stCells]) ?_
  refine aft_nil ?_
  simp -implicitDefEqProofs -dsimp only [go_sem, Nat.reduceEqDiff, Nat.reduceAdd, Nat.reduceMul, Nat.reduceSub, Nat.reduceLT, Nat.reduceLeDiff, Nat.reduceBEq, reduceIte, reduceCtorEq, Int.reduceLT, Int.reduceLE, Int.reduceEq, Int.reduceNeg, Int.reduceToNat, Int.reduceAdd, Int.reduceSub, Tab.put_put]
  refine fin_as (.refl _) ?_
  have f0 : (d.a0.b.take (d.a0.keepN k0).toNat).length = (d.a0.keepN k0).toNat := by rw [List.length_take]; omega
  have f1 : (d.a1.b.take (d.a1.keepN k1).toNat).length = (d.a1.keepN k1).toNat := by rw [List.length_take]; omega
  simp [Dk.crash, Ar.crash, Dk.cells, bts, stCells, f0, f1]

/-! A disk that is not there. -/
theorem pc_RoomN : PCalls prog f_disk_Disk_Room [.nilptr] (.i .i64 0) := by
  refine pcalls_of mixed t_disk_Disk_Room (by simp) fun T => ?_
  unfold s_disk_Disk_Room
  simp -implicitDefEqProofs -dsimp only [go_sem, Nat.reduceEqDiff, Nat.reduceAdd, Nat.reduceMul, Nat.reduceSub, Nat.reduceLT, Nat.reduceLeDiff, Nat.reduceBEq, reduceIte, reduceCtorEq, Int.reduceLT, Int.reduceLE, Int.reduceEq, Int.reduceNeg, Int.reduceToNat, Int.reduceAdd, Int.reduceSub]
  exact finL_pure rfl
theorem pc_LostN : PCalls prog f_disk_Disk_Lost [.nilptr] (.b false) := by
  refine pcalls_of mixed t_disk_Disk_Lost (by simp) fun T => ?_
  unfold s_disk_Disk_Lost
  simp -implicitDefEqProofs -dsimp only [go_sem, Nat.reduceEqDiff, Nat.reduceAdd, Nat.reduceMul, Nat.reduceSub, Nat.reduceLT, Nat.reduceLeDiff, Nat.reduceBEq, reduceIte, reduceCtorEq, Int.reduceLT, Int.reduceLE, Int.reduceEq, Int.reduceNeg, Int.reduceToNat, Int.reduceAdd, Int.reduceSub]
  exact finL_pure rfl
theorem pc_ArmN (n : Int) : PCalls prog f_disk_Disk_Arm [.nilptr, .i .i64 n] (.tup []) := by
  refine pcalls_of mixed t_disk_Disk_Arm (by simp) fun T => ?_
  unfold s_disk_Disk_Arm
  simp -implicitDefEqProofs -dsimp only [go_sem, Nat.reduceEqDiff, Nat.reduceAdd, Nat.reduceMul, Nat.reduceSub, Nat.reduceLT, Nat.reduceLeDiff, Nat.reduceBEq, reduceIte, reduceCtorEq, Int.reduceLT, Int.reduceLE, Int.reduceEq, Int.reduceNeg, Int.reduceToNat, Int.reduceAdd, Int.reduceSub]
  exact finL_pure rfl
theorem pc_CrashN (k0 k1 : Int) : PCalls prog f_disk_Disk_Crash [.nilptr, .agg [.i .u16 k0, .i .u16 k1]] (.tup []) := by
  refine pcalls_of mixed t_disk_Disk_Crash (by simp) fun T => ?_
  unfold s_disk_Disk_Crash
  simp -implicitDefEqProofs -dsimp only [go_sem, Nat.reduceEqDiff, Nat.reduceAdd, Nat.reduceMul, Nat.reduceSub, Nat.reduceLT, Nat.reduceLeDiff, Nat.reduceBEq, reduceIte, reduceCtorEq, Int.reduceLT, Int.reduceLE, Int.reduceEq, Int.reduceNeg, Int.reduceToNat, Int.reduceAdd, Int.reduceSub]
  exact finL_pure rfl
theorem pc_SureN (k : Int) : PCalls prog f_disk_Disk_Sure [.nilptr, .i .i64 k] (.i .i64 0) := by
  refine pcalls_of mixed t_disk_Disk_Sure (by simp) fun T => ?_
  unfold s_disk_Disk_Sure
  simp -implicitDefEqProofs -dsimp only [go_sem, Nat.reduceEqDiff, Nat.reduceAdd, Nat.reduceMul, Nat.reduceSub, Nat.reduceLT, Nat.reduceLeDiff, Nat.reduceBEq, reduceIte, reduceCtorEq, Int.reduceLT, Int.reduceLE, Int.reduceEq, Int.reduceNeg, Int.reduceToNat, Int.reduceAdd, Int.reduceSub, ↓g_call _ _ c_disk_Disk_is]
  refine CallK.pure (pc_isN k) (aft_nil ?_)
  simp -implicitDefEqProofs -dsimp only [go_sem, Nat.reduceEqDiff, Nat.reduceAdd, Nat.reduceMul, Nat.reduceSub, Nat.reduceLT, Nat.reduceLeDiff, Nat.reduceBEq, reduceIte, reduceCtorEq, Int.reduceLT, Int.reduceLE, Int.reduceEq, Int.reduceNeg, Int.reduceToNat, Int.reduceAdd, Int.reduceSub, decide_true, decide_false]
  exact finL_pure rfl
theorem pc_ReadN (k : Int) : PCalls prog f_disk_Disk_Read [.nilptr, .i .i64 k] (.tup [.fz 0 [] (some 0), .i .i64 2]) := by
  refine pcalls_of mixed t_disk_Disk_Read (by simp) fun T => ?_
  unfold s_disk_Disk_Read
  simp -implicitDefEqProofs -dsimp only [go_sem, Nat.reduceEqDiff, Nat.reduceAdd, Nat.reduceMul, Nat.reduceSub, Nat.reduceLT, Nat.reduceLeDiff, Nat.reduceBEq, reduceIte, reduceCtorEq, Int.reduceLT, Int.reduceLE, Int.reduceEq, Int.reduceNeg, Int.reduceToNat, Int.reduceAdd, Int.reduceSub, ↓g_call _ _ c_disk_Disk_is]
  refine CallK.pure (pc_isN k) (aft_nil ?_)
  simp -implicitDefEqProofs -dsimp only [go_sem, Nat.reduceEqDiff, Nat.reduceAdd, Nat.reduceMul, Nat.reduceSub, Nat.reduceLT, Nat.reduceLeDiff, Nat.reduceBEq, reduceIte, reduceCtorEq, Int.reduceLT, Int.reduceLE, Int.reduceEq, Int.reduceNeg, Int.reduceToNat, Int.reduceAdd, Int.reduceSub, decide_true, decide_false]
  exact finL_pure rfl
theorem pc_AppendN (k : Int) (n : Nat) (c : List AV) (cc : Option Nat) : PCalls prog f_disk_Disk_Append [.nilptr, .i .i64 k, .fz n c cc] (.i .i64 2) := by
  refine pcalls_of mixed t_disk_Disk_Append (by simp) fun T => ?_
  unfold s_disk_Disk_Append
  simp -implicitDefEqProofs -dsimp only [go_sem, Nat.reduceEqDiff, Nat.reduceAdd, Nat.reduceMul, Nat.reduceSub, Nat.reduceLT, Nat.reduceLeDiff, Nat.reduceBEq, reduceIte, reduceCtorEq, Int.reduceLT, Int.reduceLE, Int.reduceEq, Int.reduceNeg, Int.reduceToNat, Int.reduceAdd, Int.reduceSub, ↓g_call _ _ c_disk_Disk_is]
  refine CallK.pure (pc_isN k) (aft_nil ?_)
  simp -implicitDefEqProofs -dsimp only [go_sem, Nat.reduceEqDiff, Nat.reduceAdd, Nat.reduceMul, Nat.reduceSub, Nat.reduceLT, Nat.reduceLeDiff, Nat.reduceBEq, reduceIte, reduceCtorEq, Int.reduceLT, Int.reduceLE, Int.reduceEq, Int.reduceNeg, Int.reduceToNat, Int.reduceAdd, Int.reduceSub, decide_true, decide_false]
  exact finL_pure rfl
theorem pc_SyncN (k : Int) : PCalls prog f_disk_Disk_Sync [.nilptr, .i .i64 k] (.i .i64 2) := by
  refine pcalls_of mixed t_disk_Disk_Sync (by simp) fun T => ?_
  unfold s_disk_Disk_Sync
  simp -implicitDefEqProofs -dsimp only [go_sem, Nat.reduceEqDiff, Nat.reduceAdd, Nat.reduceMul, Nat.reduceSub, Nat.reduceLT, Nat.reduceLeDiff, Nat.reduceBEq, reduceIte, reduceCtorEq, Int.reduceLT, Int.reduceLE, Int.reduceEq, Int.reduceNeg, Int.reduceToNat, Int.reduceAdd, Int.reduceSub, ↓g_call _ _ c_disk_Disk_is]
  refine CallK.pure (pc_isN k) (aft_nil ?_)
  simp -implicitDefEqProofs -dsimp only [go_sem, Nat.reduceEqDiff, Nat.reduceAdd, Nat.reduceMul, Nat.reduceSub, Nat.reduceLT, Nat.reduceLeDiff, Nat.reduceBEq, reduceIte, reduceCtorEq, Int.reduceLT, Int.reduceLE, Int.reduceEq, Int.reduceNeg, Int.reduceToNat, Int.reduceAdd, Int.reduceSub, decide_true, decide_false]
  exact finL_pure rfl
theorem pc_CutN (k n : Int) : PCalls prog f_disk_Disk_Cut [.nilptr, .i .i64 k, .i .i64 n] (.i .i64 2) := by
  refine pcalls_of mixed t_disk_Disk_Cut (by simp) fun T => ?_
  unfold s_disk_Disk_Cut
  simp -implicitDefEqProofs -dsimp only [go_sem, Nat.reduceEqDiff, Nat.reduceAdd, Nat.reduceMul, Nat.reduceSub, Nat.reduceLT, Nat.reduceLeDiff, Nat.reduceBEq, reduceIte, reduceCtorEq, Int.reduceLT, Int.reduceLE, Int.reduceEq, Int.reduceNeg, Int.reduceToNat, Int.reduceAdd, Int.reduceSub, ↓g_call _ _ c_disk_Disk_is]
  refine CallK.pure (pc_isN k) (aft_nil ?_)
  simp -implicitDefEqProofs -dsimp only [go_sem, Nat.reduceEqDiff, Nat.reduceAdd, Nat.reduceMul, Nat.reduceSub, Nat.reduceLT, Nat.reduceLeDiff, Nat.reduceBEq, reduceIte, reduceCtorEq, Int.reduceLT, Int.reduceLE, Int.reduceEq, Int.reduceNeg, Int.reduceToNat, Int.reduceAdd, Int.reduceSub, decide_true, decide_false]
  exact finL_pure rfl
end Go.Aw
