import Derived.Test.YtllfhndfbpkpnaaD05D
namespace Go.Aw
open Go
open Go.Proofs.Try (prog)
set_option linter.all false
set_option maxHeartbeats 4000000

def dA : Dk := Dk.new 100
def dB : Dk := ⟨100, ⟨[97, 98, 99], none, 0⟩, ⟨[], some 0, 0⟩, false, false, 0⟩
def dC : Dk := ⟨100, ⟨[97, 98, 99], none, 3⟩, ⟨[], some 0, 0⟩, false, false, 0⟩
def dD : Dk := ⟨100, ⟨[97, 98, 99, 100, 101], none, 3⟩, ⟨[], some 0, 0⟩, false, false, 0⟩
def dE : Dk := ⟨100, ⟨[97, 98, 99, 100], none, 4⟩, ⟨[], none, 0⟩, false, false, 0⟩

theorem fin_kill {T T' : Tab} {r : AV} (h : ∀ j, SlotLe (T j) (T' j)) : finL r (fun v T'' => v = r ∧ T'' = T) T' :=
  finL_of T h ⟨rfl, rfl⟩

theorem kill_le {T : Tab} {id : Nat} {s : Slot} (h : T id = .unused) : ∀ j, SlotLe (T j) ((T.put id s) j) := fun j => by
  by_cases e : j = id
  · subst e; exact .inl h
  · rw [Tab.put_ne _ _ e]; exact .inr (.inl rfl)

theorem pc_awake : PCalls prog f_sautoirlaw05_awake [] (.b true) := by
  refine pcalls_of mixed t_sautoirlaw05_awake (by simp) fun T => ?_
  unfold s_sautoirlaw05_awake
  have o1 : dB.Ok := ⟨by decide, by decide, by decide, ⟨by decide, by decide⟩, ⟨by decide, by decide⟩, by decide⟩
  have o2 : dC.Ok := ⟨by decide, by decide, by decide, ⟨by decide, by decide⟩, ⟨by decide, by decide⟩, by decide⟩
  have o3 : dD.Ok := ⟨by decide, by decide, by decide, ⟨by decide, by decide⟩, ⟨by decide, by decide⟩, by decide⟩
  have o4 : dE.Ok := ⟨by decide, by decide, by decide, ⟨by decide, by decide⟩, ⟨by decide, by decide⟩, by decide⟩
  have s1 : dA.append 0 [97, 98, 99] = (0, dB) := by rfl
  have s2 : dB.sync 0 = (0, dC) := by rfl
  have s3 : dC.append 0 [100, 101] = (0, dD) := by rfl
  have s4 : dD.crash 1 0 = dE := by rfl
  have s5 : dE.read 0 = (.fz 4 [.i .u8 97, .i .u8 98, .i .u8 99, .i .u8 100] none, 0) := by rfl
  have s6 : dE.sure 0 = 4 := by rfl
  have s7 : dE.free = 96 := by rfl
  simp -implicitDefEqProofs -dsimp only [go_sem, Nat.reduceEqDiff, Nat.reduceAdd, Nat.reduceMul, Nat.reduceSub, Nat.reduceLT, Nat.reduceLeDiff, Nat.reduceBEq, reduceIte, reduceCtorEq, Int.reduceLT, Int.reduceLE, Int.reduceEq, Int.reduceNeg, Int.reduceToNat, Int.reduceAdd, Int.reduceSub, ↓g_call _ _ c_disk_New]
  refine CallK.of (ac_New 100 T) (fun v T0 h => ?_)
  obtain ⟨id, rfl, hid, rfl⟩ := h
  refine aft_nil ?_
  have c1 : ACalls prog f_disk_Disk_Append [.ptr id 0, .i .i64 0, .fz 3 [.i .u8 97, .i .u8 98, .i .u8 99] (some 3)] (T.put id (.row 8 dA.cells)) (fun v T' => v = .i .i64 0 ∧ T' = T.put id (.row 8 dB.cells)) := by
    have := ac_Append (d := dA) (Dk.new_ok 100) (by decide) (T := T.put id (.row 8 dA.cells)) (id := id) (Tab.put_same ..) 0 [97, 98, 99] (some 3) (by decide)
    rw [s1, Tab.put_put] at this
    exact this
  have c2 : ACalls prog f_disk_Disk_Sync [.ptr id 0, .i .i64 0] (T.put id (.row 8 dB.cells)) (fun v T' => v = .i .i64 0 ∧ T' = T.put id (.row 8 dC.cells)) := by
    have := ac_Sync (d := dB) o1 (by decide) (T := T.put id (.row 8 dB.cells)) (id := id) (Tab.put_same ..) 0
    rw [s2, Tab.put_put] at this
    exact this
  have c3 : ACalls prog f_disk_Disk_Append [.ptr id 0, .i .i64 0, .fz 2 [.i .u8 100, .i .u8 101] (some 2)] (T.put id (.row 8 dC.cells)) (fun v T' => v = .i .i64 0 ∧ T' = T.put id (.row 8 dD.cells)) := by
    have := ac_Append (d := dC) o2 (by decide) (T := T.put id (.row 8 dC.cells)) (id := id) (Tab.put_same ..) 0 [100, 101] (some 2) (by decide)
    rw [s3, Tab.put_put] at this
    exact this
  have c4 : ACalls prog f_disk_Disk_Crash [.ptr id 0, .agg [.i .u16 1, .i .u16 0]] (T.put id (.row 8 dD.cells)) (fun v T' => v = .tup [] ∧ T' = T.put id (.row 8 dE.cells)) := by
    have := ac_Crash (d := dD) o3 (T := T.put id (.row 8 dD.cells)) (id := id) (Tab.put_same ..) 1 0 (by decide) (by decide)
    rw [s4, Tab.put_put] at this
    exact this
  have c5 : ACalls prog f_disk_Disk_Read [.ptr id 0, .i .i64 0] (T.put id (.row 8 dE.cells)) (fun v T' => v = .tup [.fz 4 [.i .u8 97, .i .u8 98, .i .u8 99, .i .u8 100] none, .i .i64 0] ∧ T' = T.put id (.row 8 dE.cells)) := by
    have := ac_Read (d := dE) o4 (T := T.put id (.row 8 dE.cells)) (id := id) (Tab.put_same ..) 0
    rw [s5] at this
    exact this
  have c6 : ACalls prog f_disk_Disk_Sure [.ptr id 0, .i .i64 0] (T.put id (.row 8 dE.cells)) (fun v T' => v = .i .i64 4 ∧ T' = T.put id (.row 8 dE.cells)) := by
    have := ac_Sure (d := dE) (T := T.put id (.row 8 dE.cells)) (id := id) (Tab.put_same ..) 0
    rw [s6] at this
    exact this
  have c7 : ACalls prog f_disk_Disk_Room [.ptr id 0] (T.put id (.row 8 dE.cells)) (fun v T' => v = .i .i64 96 ∧ T' = T.put id (.row 8 dE.cells)) := by
    have := ac_Room (d := dE) o4 (T := T.put id (.row 8 dE.cells)) (id := id) (Tab.put_same ..)
    rw [s7] at this
    exact this
  rw [show Dk.new 100 = dA from rfl]
  simp -implicitDefEqProofs -dsimp only [go_sem, Nat.reduceEqDiff, Nat.reduceAdd, Nat.reduceMul, Nat.reduceSub, Nat.reduceLT, Nat.reduceLeDiff, Nat.reduceBEq, reduceIte, reduceCtorEq, Int.reduceLT, Int.reduceLE, Int.reduceEq, Int.reduceNeg, Int.reduceToNat, Int.reduceAdd, Int.reduceSub]
  intro id1 hid1
  refine aft_nil ?_
  simp -implicitDefEqProofs -dsimp only [go_sem, Nat.reduceEqDiff, Nat.reduceAdd, Nat.reduceMul, Nat.reduceSub, Nat.reduceLT, Nat.reduceLeDiff, Nat.reduceBEq, reduceIte, reduceCtorEq, Int.reduceLT, Int.reduceLE, Int.reduceEq, Int.reduceNeg, Int.reduceToNat, Int.reduceAdd, Int.reduceSub]
  refine cvmS_row (Tab.put_same ..) (by simp) ?_
  rw [Tab.put_put, Tab.put_self hid1]
  refine aft_nil ?_
  simp -implicitDefEqProofs -dsimp only [go_sem, Nat.reduceEqDiff, Nat.reduceAdd, Nat.reduceMul, Nat.reduceSub, Nat.reduceLT, Nat.reduceLeDiff, Nat.reduceBEq, reduceIte, reduceCtorEq, Int.reduceLT, Int.reduceLE, Int.reduceEq, Int.reduceNeg, Int.reduceToNat, Int.reduceAdd, Int.reduceSub, ↓g_call _ _ c_disk_Disk_Append]
  refine CallK.as c1 (aft_nil ?_)
  simp -implicitDefEqProofs -dsimp only [go_sem, Nat.reduceEqDiff, Nat.reduceAdd, Nat.reduceMul, Nat.reduceSub, Nat.reduceLT, Nat.reduceLeDiff, Nat.reduceBEq, reduceIte, reduceCtorEq, Int.reduceLT, Int.reduceLE, Int.reduceEq, Int.reduceNeg, Int.reduceToNat, Int.reduceAdd, Int.reduceSub, ↓g_call _ _ c_disk_Disk_Sync]
  refine CallK.as c2 (aft_nil ?_)
  simp -implicitDefEqProofs -dsimp only [go_sem, Nat.reduceEqDiff, Nat.reduceAdd, Nat.reduceMul, Nat.reduceSub, Nat.reduceLT, Nat.reduceLeDiff, Nat.reduceBEq, reduceIte, reduceCtorEq, Int.reduceLT, Int.reduceLE, Int.reduceEq, Int.reduceNeg, Int.reduceToNat, Int.reduceAdd, Int.reduceSub]
  intro id2 hid2
  refine aft_nil ?_
  simp -implicitDefEqProofs -dsimp only [go_sem, Nat.reduceEqDiff, Nat.reduceAdd, Nat.reduceMul, Nat.reduceSub, Nat.reduceLT, Nat.reduceLeDiff, Nat.reduceBEq, reduceIte, reduceCtorEq, Int.reduceLT, Int.reduceLE, Int.reduceEq, Int.reduceNeg, Int.reduceToNat, Int.reduceAdd, Int.reduceSub]
  refine cvmS_row (Tab.put_same ..) (by simp) ?_
  rw [Tab.put_put, Tab.put_self hid2]
  refine aft_nil ?_
  simp -implicitDefEqProofs -dsimp only [go_sem, Nat.reduceEqDiff, Nat.reduceAdd, Nat.reduceMul, Nat.reduceSub, Nat.reduceLT, Nat.reduceLeDiff, Nat.reduceBEq, reduceIte, reduceCtorEq, Int.reduceLT, Int.reduceLE, Int.reduceEq, Int.reduceNeg, Int.reduceToNat, Int.reduceAdd, Int.reduceSub, ↓g_call _ _ c_disk_Disk_Append]
  refine CallK.as c3 (aft_nil ?_)
  simp -implicitDefEqProofs -dsimp only [go_sem, Nat.reduceEqDiff, Nat.reduceAdd, Nat.reduceMul, Nat.reduceSub, Nat.reduceLT, Nat.reduceLeDiff, Nat.reduceBEq, reduceIte, reduceCtorEq, Int.reduceLT, Int.reduceLE, Int.reduceEq, Int.reduceNeg, Int.reduceToNat, Int.reduceAdd, Int.reduceSub, ↓g_call _ _ c_disk_Disk_Crash]
  refine CallK.as c4 (aft_nil ?_)
  simp -implicitDefEqProofs -dsimp only [go_sem, Nat.reduceEqDiff, Nat.reduceAdd, Nat.reduceMul, Nat.reduceSub, Nat.reduceLT, Nat.reduceLeDiff, Nat.reduceBEq, reduceIte, reduceCtorEq, Int.reduceLT, Int.reduceLE, Int.reduceEq, Int.reduceNeg, Int.reduceToNat, Int.reduceAdd, Int.reduceSub, ↓g_call _ _ c_disk_Disk_Read]
  refine CallK.as c5 (aft_nil ?_)
  simp -implicitDefEqProofs -dsimp only [go_sem, Nat.reduceEqDiff, Nat.reduceAdd, Nat.reduceMul, Nat.reduceSub, Nat.reduceLT, Nat.reduceLeDiff, Nat.reduceBEq, reduceIte, reduceCtorEq, Int.reduceLT, Int.reduceLE, Int.reduceEq, Int.reduceNeg, Int.reduceToNat, Int.reduceAdd, Int.reduceSub, decide_true, ↓g_call _ _ c_disk_Disk_Sure]
  rw [show decide ([UInt8.ofNat 97, UInt8.ofNat 98, UInt8.ofNat 99, UInt8.ofNat 100] = [97, 98, 99, 100]) = true from by decide]
  simp -implicitDefEqProofs -dsimp only [go_sem, Nat.reduceEqDiff, Nat.reduceAdd, Nat.reduceMul, Nat.reduceSub, Nat.reduceLT, Nat.reduceLeDiff, Nat.reduceBEq, reduceIte, reduceCtorEq, Int.reduceLT, Int.reduceLE, Int.reduceEq, Int.reduceNeg, Int.reduceToNat, Int.reduceAdd, Int.reduceSub, decide_true, ↓g_call _ _ c_disk_Disk_Sure]
  refine CallK.as c6 (aft_nil ?_)
  simp -implicitDefEqProofs -dsimp only [go_sem, Nat.reduceEqDiff, Nat.reduceAdd, Nat.reduceMul, Nat.reduceSub, Nat.reduceLT, Nat.reduceLeDiff, Nat.reduceBEq, reduceIte, reduceCtorEq, Int.reduceLT, Int.reduceLE, Int.reduceEq, Int.reduceNeg, Int.reduceToNat, Int.reduceAdd, Int.reduceSub, decide_true, ↓g_call _ _ c_disk_Disk_Room]
  refine CallK.as c7 (aft_nil ?_)
  simp -implicitDefEqProofs -dsimp only [go_sem, Nat.reduceEqDiff, Nat.reduceAdd, Nat.reduceMul, Nat.reduceSub, Nat.reduceLT, Nat.reduceLeDiff, Nat.reduceBEq, reduceIte, reduceCtorEq, Int.reduceLT, Int.reduceLE, Int.reduceEq, Int.reduceNeg, Int.reduceToNat, Int.reduceAdd, Int.reduceSub, decide_true]
  exact fin_kill (kill_le hid)

theorem pc_DiskNil (k n : Int) : PCalls prog f_sautoirlaw05_DiskNil [.i .i64 k, .i .i64 n] (.b true) := by
  refine pcalls_of mixed t_sautoirlaw05_DiskNil (by simp) fun T => ?_
  unfold s_sautoirlaw05_DiskNil
  simp -implicitDefEqProofs -dsimp only [go_sem, Nat.reduceEqDiff, Nat.reduceAdd, Nat.reduceMul, Nat.reduceSub, Nat.reduceLT, Nat.reduceLeDiff, Nat.reduceBEq, reduceIte, reduceCtorEq, Int.reduceLT, Int.reduceLE, Int.reduceEq, Int.reduceNeg, Int.reduceToNat, Int.reduceAdd, Int.reduceSub, ↓g_call _ _ c_disk_Disk_Read]
  refine CallK.pure (pc_ReadN k) (aft_nil ?_)
  simp -implicitDefEqProofs -dsimp only [go_sem, Nat.reduceEqDiff, Nat.reduceAdd, Nat.reduceMul, Nat.reduceSub, Nat.reduceLT, Nat.reduceLeDiff, Nat.reduceBEq, reduceIte, reduceCtorEq, Int.reduceLT, Int.reduceLE, Int.reduceEq, Int.reduceNeg, Int.reduceToNat, Int.reduceAdd, Int.reduceSub, ↓g_call _ _ c_disk_Disk_Arm]
  refine CallK.pure (pc_ArmN n) (aft_nil ?_)
  simp -implicitDefEqProofs -dsimp only [go_sem, Nat.reduceEqDiff, Nat.reduceAdd, Nat.reduceMul, Nat.reduceSub, Nat.reduceLT, Nat.reduceLeDiff, Nat.reduceBEq, reduceIte, reduceCtorEq, Int.reduceLT, Int.reduceLE, Int.reduceEq, Int.reduceNeg, Int.reduceToNat, Int.reduceAdd, Int.reduceSub, ↓g_call _ _ c_disk_Disk_Crash]
  refine CallK.pure (pc_CrashN 0 0) (aft_nil ?_)
  simp -implicitDefEqProofs -dsimp only [go_sem, Nat.reduceEqDiff, Nat.reduceAdd, Nat.reduceMul, Nat.reduceSub, Nat.reduceLT, Nat.reduceLeDiff, Nat.reduceBEq, reduceIte, reduceCtorEq, Int.reduceLT, Int.reduceLE, Int.reduceEq, Int.reduceNeg, Int.reduceToNat, Int.reduceAdd, Int.reduceSub, ↓g_call _ _ c_disk_Disk_Append]
  refine CallK.pure (pc_AppendN k 0 [] (some 0)) (aft_nil ?_)
  simp -implicitDefEqProofs -dsimp only [go_sem, Nat.reduceEqDiff, Nat.reduceAdd, Nat.reduceMul, Nat.reduceSub, Nat.reduceLT, Nat.reduceLeDiff, Nat.reduceBEq, reduceIte, reduceCtorEq, Int.reduceLT, Int.reduceLE, Int.reduceEq, Int.reduceNeg, Int.reduceToNat, Int.reduceAdd, Int.reduceSub, decide_true, ↓g_call _ _ c_disk_Disk_Sync]
  refine CallK.pure (pc_SyncN k) (aft_nil ?_)
  simp -implicitDefEqProofs -dsimp only [go_sem, Nat.reduceEqDiff, Nat.reduceAdd, Nat.reduceMul, Nat.reduceSub, Nat.reduceLT, Nat.reduceLeDiff, Nat.reduceBEq, reduceIte, reduceCtorEq, Int.reduceLT, Int.reduceLE, Int.reduceEq, Int.reduceNeg, Int.reduceToNat, Int.reduceAdd, Int.reduceSub, decide_true, ↓g_call _ _ c_disk_Disk_Cut]
  refine CallK.pure (pc_CutN k n) (aft_nil ?_)
  simp -implicitDefEqProofs -dsimp only [go_sem, Nat.reduceEqDiff, Nat.reduceAdd, Nat.reduceMul, Nat.reduceSub, Nat.reduceLT, Nat.reduceLeDiff, Nat.reduceBEq, reduceIte, reduceCtorEq, Int.reduceLT, Int.reduceLE, Int.reduceEq, Int.reduceNeg, Int.reduceToNat, Int.reduceAdd, Int.reduceSub, decide_true, ↓g_call _ _ c_disk_Disk_Sure]
  refine CallK.pure (pc_SureN k) (aft_nil ?_)
  simp -implicitDefEqProofs -dsimp only [go_sem, Nat.reduceEqDiff, Nat.reduceAdd, Nat.reduceMul, Nat.reduceSub, Nat.reduceLT, Nat.reduceLeDiff, Nat.reduceBEq, reduceIte, reduceCtorEq, Int.reduceLT, Int.reduceLE, Int.reduceEq, Int.reduceNeg, Int.reduceToNat, Int.reduceAdd, Int.reduceSub, decide_true, ↓g_call _ _ c_disk_Disk_Room]
  refine CallK.pure pc_RoomN (aft_nil ?_)
  simp -implicitDefEqProofs -dsimp only [go_sem, Nat.reduceEqDiff, Nat.reduceAdd, Nat.reduceMul, Nat.reduceSub, Nat.reduceLT, Nat.reduceLeDiff, Nat.reduceBEq, reduceIte, reduceCtorEq, Int.reduceLT, Int.reduceLE, Int.reduceEq, Int.reduceNeg, Int.reduceToNat, Int.reduceAdd, Int.reduceSub, decide_true, ↓g_call _ _ c_disk_Disk_Lost]
  refine CallK.pure pc_LostN (aft_nil ?_)
  simp -implicitDefEqProofs -dsimp only [go_sem, Nat.reduceEqDiff, Nat.reduceAdd, Nat.reduceMul, Nat.reduceSub, Nat.reduceLT, Nat.reduceLeDiff, Nat.reduceBEq, reduceIte, reduceCtorEq, Int.reduceLT, Int.reduceLE, Int.reduceEq, Int.reduceNeg, Int.reduceToNat, Int.reduceAdd, Int.reduceSub, decide_true, ↓g_call _ _ c_sautoirlaw05_awake]
  refine CallK.pure pc_awake (aft_nil ?_)
  simp -implicitDefEqProofs -dsimp only [go_sem, Nat.reduceEqDiff, Nat.reduceAdd, Nat.reduceMul, Nat.reduceSub, Nat.reduceLT, Nat.reduceLeDiff, Nat.reduceBEq, reduceIte, reduceCtorEq, Int.reduceLT, Int.reduceLE, Int.reduceEq, Int.reduceNeg, Int.reduceToNat, Int.reduceAdd, Int.reduceSub]
  exact finL_pure rfl
end Go.Aw
