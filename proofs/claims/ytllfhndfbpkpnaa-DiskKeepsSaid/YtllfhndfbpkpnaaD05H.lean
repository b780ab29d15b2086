import Derived.Test.YtllfhndfbpkpnaaD05G
namespace Go.Aw
open Go
open Go.Proofs.Try (prog)
set_option linter.all false
set_option maxHeartbeats 4000000

theorem bad_k {k : Int} (hk : isV k = 1) : ¬ k = 0 ∧ ¬ k = 1 := by unfold isV at hk; split at hk <;> omega

theorem ac_RSync {d : Dk} (hd : d.Ok) (hl : d.left ≤ 9223372036854775807) {T : Tab} {id : Nat} (hT : RAt T id d) (k : Int) :
    ACalls prog f_sautoirref05_Disk_Sync [.ptr id 0, .i .i64 k] T (fun v T' => v = .i .i64 (d.sync k).1 ∧ T' = T.put id (.row 7 (d.sync k).2.rcells)) := by
  refine acalls_of mixed t_sautoirref05_Disk_Sync (by simp) ?_
  unfold s_sautoirref05_Disk_Sync
  have hself : T = T.put id (.row 7 d.rcells) := (Tab.put_self hT).symm
  rcases isV_cases k with hk | ⟨hk, hk2⟩
  · have hk0 := bad_k hk
    simp -implicitDefEqProofs -dsimp only [go_sem, Nat.reduceEqDiff, Nat.reduceAdd, Nat.reduceMul, Nat.reduceSub, Nat.reduceLT, Nat.reduceLeDiff, Nat.reduceBEq, reduceIte, reduceCtorEq, Int.reduceLT, Int.reduceLE, Int.reduceEq, Int.reduceNeg, Int.reduceToNat, Int.reduceAdd, Int.reduceSub, hk0.1, hk0.2, decide_true, decide_false]
    refine fin_as ?_ ?_
    · rw [Dk.sync, if_pos hk]; exact .refl _
    · rw [Dk.sync, if_pos hk]; exact hself
  · have hap : d.sync k = if d.write.1 = 0 then (d.write.1, d.write.2.2.set k ⟨(d.get k).b, (d.get k).c, (d.get k).b.length⟩) else (d.write.1, d.write.2.2) := by
      rw [Dk.sync, if_neg (by omega)]
    obtain ⟨d', hd', hw, hwr⟩ := rwrite_cases d hd
    have cWr := ac_Rwrite hd hl hT
    have hT' : T.put id (.row 7 d'.rcells) id = .row 7 [.i .i64 d'.room, .s d.a0.b, .s d.a1.b, .i .i64 d.a0.su, .i .i64 d.a1.su, .b d'.lost, .i .i64 d'.lf] := by
      rw [Tab.put_same]; simp only [Dk.rcells, hw.a0, hw.a1]
    rw [hap]
    rcases hk2 with rfl | rfl
    all_goals
      simp -implicitDefEqProofs -dsimp only [go_sem, Nat.reduceEqDiff, Nat.reduceAdd, Nat.reduceMul, Nat.reduceSub, Nat.reduceLT, Nat.reduceLeDiff, Nat.reduceBEq, reduceIte, reduceCtorEq, Int.reduceLT, Int.reduceLE, Int.reduceEq, Int.reduceNeg, Int.reduceToNat, Int.reduceAdd, Int.reduceSub, decide_true, decide_false, ↓g_call _ _ c_sautoirref05_Disk_write]
      refine CallK.as cWr (aft_nil ?_)
      rcases hwr with ⟨e, e2⟩ | ⟨e, e2⟩ | ⟨e, e2⟩ <;> rw [e, e2]
      · simp -implicitDefEqProofs -dsimp only [go_sem, Nat.reduceEqDiff, Nat.reduceAdd, Nat.reduceMul, Nat.reduceSub, Nat.reduceLT, Nat.reduceLeDiff, Nat.reduceBEq, reduceIte, reduceCtorEq, Int.reduceLT, Int.reduceLE, Int.reduceEq, Int.reduceNeg, Int.reduceToNat, Int.reduceAdd, Int.reduceSub, decide_true, decide_false]
        exact fin_as (.refl _) rfl
      · simp -implicitDefEqProofs -dsimp only [go_sem, Nat.reduceEqDiff, Nat.reduceAdd, Nat.reduceMul, Nat.reduceSub, Nat.reduceLT, Nat.reduceLeDiff, Nat.reduceBEq, reduceIte, reduceCtorEq, Int.reduceLT, Int.reduceLE, Int.reduceEq, Int.reduceNeg, Int.reduceToNat, Int.reduceAdd, Int.reduceSub, decide_true, decide_false]
        exact fin_as (.refl _) rfl
      · rw [if_pos (by simp)]
        simp -implicitDefEqProofs -dsimp only [go_sem, Nat.reduceEqDiff, Nat.reduceAdd, Nat.reduceMul, Nat.reduceSub, Nat.reduceLT, Nat.reduceLeDiff, Nat.reduceBEq, reduceIte, reduceCtorEq, Int.reduceLT, Int.reduceLE, Int.reduceEq, Int.reduceNeg, Int.reduceToNat, Int.reduceAdd, Int.reduceSub, decide_true, decide_false, hT', show ((2 : Nat) : Int) = 2 from rfl, show (1 : Int).toNat = 1 from rfl]
        refine stS_row hT' rfl rfl (by simp) ?_
        refine aft_nil ?_
        simp -implicitDefEqProofs -dsimp only [go_sem, Nat.reduceEqDiff, Nat.reduceAdd, Nat.reduceMul, Nat.reduceSub, Nat.reduceLT, Nat.reduceLeDiff, Nat.reduceBEq, reduceIte, reduceCtorEq, Int.reduceLT, Int.reduceLE, Int.reduceEq, Int.reduceNeg, Int.reduceToNat, Int.reduceAdd, Int.reduceSub, decide_true, decide_false]
        refine fin_as (.refl _) ?_
        rw [Tab.put_put]
        simp [Dk.set, Dk.get, Dk.rcells, hw.a0, hw.a1, stCells, Dk.lf]

theorem ac_RCut {d : Dk} (hd : d.Ok) (hl : d.left ≤ 9223372036854775807) {T : Tab} {id : Nat} (hT : RAt T id d) (k n : Int) :
    ACalls prog f_sautoirref05_Disk_Cut [.ptr id 0, .i .i64 k, .i .i64 n] T (fun v T' => v = .i .i64 (d.cut k n).1 ∧ T' = T.put id (.row 7 (d.cut k n).2.rcells)) := by
  refine acalls_of mixed t_sautoirref05_Disk_Cut (by simp) ?_
  unfold s_sautoirref05_Disk_Cut
  have hself : T = T.put id (.row 7 d.rcells) := (Tab.put_self hT).symm
  have hT0 := hT
  unfold RAt Dk.rcells at hT0
  rcases isV_cases k with hk | ⟨hk, hk2⟩
  · have hk0 := bad_k hk
    simp -implicitDefEqProofs -dsimp only [go_sem, Nat.reduceEqDiff, Nat.reduceAdd, Nat.reduceMul, Nat.reduceSub, Nat.reduceLT, Nat.reduceLeDiff, Nat.reduceBEq, reduceIte, reduceCtorEq, Int.reduceLT, Int.reduceLE, Int.reduceEq, Int.reduceNeg, Int.reduceToNat, Int.reduceAdd, Int.reduceSub, hk0.1, hk0.2, decide_true, decide_false]
    refine fin_as ?_ ?_
    · rw [Dk.cut, if_pos hk]; exact .refl _
    · rw [Dk.cut, if_pos hk]; exact hself
  · have fail : (n < 0 ∨ (d.get k).b.length < n) → finL (.i .i64 1) (fun v T' => v = .i .i64 (d.cut k n).1 ∧ T' = T.put id (.row 7 (d.cut k n).2.rcells)) T := fun h => by
      refine fin_as ?_ ?_
      · rw [Dk.cut, if_neg (by omega), if_pos h]; exact .refl _
      · rw [Dk.cut, if_neg (by omega), if_pos h]; exact hself
    have hap : ¬ (n < 0 ∨ (d.get k).b.length < n) → d.cut k n = if d.write.1 = 0 then (d.write.1, d.write.2.2.set k ⟨(d.get k).b.take n.toNat, none, n⟩) else (d.write.1, d.write.2.2) := fun h => by
      rw [Dk.cut, if_neg (by omega), if_neg h]
    obtain ⟨d', hd', hw, hwr⟩ := rwrite_cases d hd
    have cWr := ac_Rwrite hd hl hT
    have hT' : T.put id (.row 7 d'.rcells) id = .row 7 [.i .i64 d'.room, .s d.a0.b, .s d.a1.b, .i .i64 d.a0.su, .i .i64 d.a1.su, .b d'.lost, .i .i64 d'.lf] := by
      rw [Tab.put_same]; simp only [Dk.rcells, hw.a0, hw.a1]
    have g0 : d.get 0 = d.a0 := rfl
    have g1 : d.get 1 = d.a1 := rfl
    rcases hk2 with rfl | rfl
    · simp only [g0, g1] at fail hap
      simp -implicitDefEqProofs -dsimp only [go_sem, Nat.reduceEqDiff, Nat.reduceAdd, Nat.reduceMul, Nat.reduceSub, Nat.reduceLT, Nat.reduceLeDiff, Nat.reduceBEq, reduceIte, reduceCtorEq, Int.reduceLT, Int.reduceLE, Int.reduceEq, Int.reduceNeg, Int.reduceToNat, Int.reduceAdd, Int.reduceSub, decide_true, decide_false, hT0, show ((2 : Nat) : Int) = 2 from rfl, show (1 : Int).toNat = 1 from rfl]
      refine br_split (fun h1 => ?_) (fun h1 => ?_)
      · simp -implicitDefEqProofs -dsimp only [go_sem, Nat.reduceEqDiff, Nat.reduceAdd, Nat.reduceMul, Nat.reduceSub, Nat.reduceLT, Nat.reduceLeDiff, Nat.reduceBEq, reduceIte, reduceCtorEq, Int.reduceLT, Int.reduceLE, Int.reduceEq, Int.reduceNeg, Int.reduceToNat, Int.reduceAdd, Int.reduceSub, h1]
        exact fail (.inl (of_decide_eq_true h1))
      · simp -implicitDefEqProofs -dsimp only [go_sem, Nat.reduceEqDiff, Nat.reduceAdd, Nat.reduceMul, Nat.reduceSub, Nat.reduceLT, Nat.reduceLeDiff, Nat.reduceBEq, reduceIte, reduceCtorEq, Int.reduceLT, Int.reduceLE, Int.reduceEq, Int.reduceNeg, Int.reduceToNat, Int.reduceAdd, Int.reduceSub, h1, hT0, show ((2 : Nat) : Int) = 2 from rfl, show (1 : Int).toNat = 1 from rfl]
        refine br_split (fun h2 => ?_) (fun h2 => ?_)
        · simp -implicitDefEqProofs -dsimp only [go_sem, Nat.reduceEqDiff, Nat.reduceAdd, Nat.reduceMul, Nat.reduceSub, Nat.reduceLT, Nat.reduceLeDiff, Nat.reduceBEq, reduceIte, reduceCtorEq, Int.reduceLT, Int.reduceLE, Int.reduceEq, Int.reduceNeg, Int.reduceToNat, Int.reduceAdd, Int.reduceSub, h2]
          exact fail (.inr (of_decide_eq_true h2))
        · have d1 := of_decide_eq_false h1
          have d2 := of_decide_eq_false h2
          have hap := hap (by omega)
          have f1 : 0 ≤ n := by omega
          have f2 : n.toNat ≤ d.a0.b.length := by omega
          simp -implicitDefEqProofs -dsimp only [go_sem, Nat.reduceEqDiff, Nat.reduceAdd, Nat.reduceMul, Nat.reduceSub, Nat.reduceLT, Nat.reduceLeDiff, Nat.reduceBEq, reduceIte, reduceCtorEq, Int.reduceLT, Int.reduceLE, Int.reduceEq, Int.reduceNeg, Int.reduceToNat, Int.reduceAdd, Int.reduceSub, h2, ↓g_call _ _ c_sautoirref05_Disk_write]
          refine CallK.as cWr (aft_nil ?_)
          rw [hap]
          rcases hwr with ⟨e, e2⟩ | ⟨e, e2⟩ | ⟨e, e2⟩ <;> rw [e, e2]
          · simp -implicitDefEqProofs -dsimp only [go_sem, Nat.reduceEqDiff, Nat.reduceAdd, Nat.reduceMul, Nat.reduceSub, Nat.reduceLT, Nat.reduceLeDiff, Nat.reduceBEq, reduceIte, reduceCtorEq, Int.reduceLT, Int.reduceLE, Int.reduceEq, Int.reduceNeg, Int.reduceToNat, Int.reduceAdd, Int.reduceSub, decide_true, decide_false]
            exact fin_as (.refl _) rfl
          · simp -implicitDefEqProofs -dsimp only [go_sem, Nat.reduceEqDiff, Nat.reduceAdd, Nat.reduceMul, Nat.reduceSub, Nat.reduceLT, Nat.reduceLeDiff, Nat.reduceBEq, reduceIte, reduceCtorEq, Int.reduceLT, Int.reduceLE, Int.reduceEq, Int.reduceNeg, Int.reduceToNat, Int.reduceAdd, Int.reduceSub, decide_true, decide_false]
            exact fin_as (.refl _) rfl
          · rw [if_pos (by simp)]
            simp -implicitDefEqProofs -dsimp only [go_sem, Nat.reduceEqDiff, Nat.reduceAdd, Nat.reduceMul, Nat.reduceSub, Nat.reduceLT, Nat.reduceLeDiff, Nat.reduceBEq, reduceIte, reduceCtorEq, Int.reduceLT, Int.reduceLE, Int.reduceEq, Int.reduceNeg, Int.reduceToNat, Int.reduceAdd, Int.reduceSub, decide_true, decide_false, hT', f1, f2, Nat.zero_le, true_and, show ((2 : Nat) : Int) = 2 from rfl, show (1 : Int).toNat = 1 from rfl]
            refine stS_row hT' rfl rfl (by simp) ?_
            refine aft_nil ?_
            simp -implicitDefEqProofs -dsimp only [go_sem, Nat.reduceEqDiff, Nat.reduceAdd, Nat.reduceMul, Nat.reduceSub, Nat.reduceLT, Nat.reduceLeDiff, Nat.reduceBEq, reduceIte, reduceCtorEq, Int.reduceLT, Int.reduceLE, Int.reduceEq, Int.reduceNeg, Int.reduceToNat, Int.reduceAdd, Int.reduceSub, show ((2 : Nat) : Int) = 2 from rfl, show (1 : Int).toNat = 1 from rfl]
            refine stS_row (Tab.put_same _ _ _) rfl rfl (by simp [stCells]) ?_
            refine aft_nil ?_
            simp -implicitDefEqProofs -dsimp only [go_sem, Nat.reduceEqDiff, Nat.reduceAdd, Nat.reduceMul, Nat.reduceSub, Nat.reduceLT, Nat.reduceLeDiff, Nat.reduceBEq, reduceIte, reduceCtorEq, Int.reduceLT, Int.reduceLE, Int.reduceEq, Int.reduceNeg, Int.reduceToNat, Int.reduceAdd, Int.reduceSub, decide_true, decide_false]
            refine fin_as (.refl _) ?_
            simp only [Tab.put_put]
            simp [Dk.set, Dk.get, Dk.rcells, hw.a0, hw.a1, stCells, Dk.lf]
    · simp only [g0, g1] at fail hap
      simp -implicitDefEqProofs -dsimp only [go_sem, Nat.reduceEqDiff, Nat.reduceAdd, Nat.reduceMul, Nat.reduceSub, Nat.reduceLT, Nat.reduceLeDiff, Nat.reduceBEq, reduceIte, reduceCtorEq, Int.reduceLT, Int.reduceLE, Int.reduceEq, Int.reduceNeg, Int.reduceToNat, Int.reduceAdd, Int.reduceSub, decide_true, decide_false, hT0, show ((2 : Nat) : Int) = 2 from rfl, show (1 : Int).toNat = 1 from rfl]
      refine br_split (fun h1 => ?_) (fun h1 => ?_)
      · simp -implicitDefEqProofs -dsimp only [go_sem, Nat.reduceEqDiff, Nat.reduceAdd, Nat.reduceMul, Nat.reduceSub, Nat.reduceLT, Nat.reduceLeDiff, Nat.reduceBEq, reduceIte, reduceCtorEq, Int.reduceLT, Int.reduceLE, Int.reduceEq, Int.reduceNeg, Int.reduceToNat, Int.reduceAdd, Int.reduceSub, h1]
        exact fail (.inl (of_decide_eq_true h1))
      · simp -implicitDefEqProofs -dsimp only [go_sem, Nat.reduceEqDiff, Nat.reduceAdd, Nat.reduceMul, Nat.reduceSub, Nat.reduceLT, Nat.reduceLeDiff, Nat.reduceBEq, reduceIte, reduceCtorEq, Int.reduceLT, Int.reduceLE, Int.reduceEq, Int.reduceNeg, Int.reduceToNat, Int.reduceAdd, Int.reduceSub, h1, hT0, show ((2 : Nat) : Int) = 2 from rfl, show (1 : Int).toNat = 1 from rfl]
        refine br_split (fun h2 => ?_) (fun h2 => ?_)
        · simp -implicitDefEqProofs -dsimp only [go_sem, Nat.reduceEqDiff, Nat.reduceAdd, Nat.reduceMul, Nat.reduceSub, Nat.reduceLT, Nat.reduceLeDiff, Nat.reduceBEq, reduceIte, reduceCtorEq, Int.reduceLT, Int.reduceLE, Int.reduceEq, Int.reduceNeg, Int.reduceToNat, Int.reduceAdd, Int.reduceSub, h2]
          exact fail (.inr (of_decide_eq_true h2))
        · have d1 := of_decide_eq_false h1
          have d2 := of_decide_eq_false h2
          have hap := hap (by omega)
          have f1 : 0 ≤ n := by omega
          have f2 : n.toNat ≤ d.a1.b.length := by omega
          simp -implicitDefEqProofs -dsimp only [go_sem, Nat.reduceEqDiff, Nat.reduceAdd, Nat.reduceMul, Nat.reduceSub, Nat.reduceLT, Nat.reduceLeDiff, Nat.reduceBEq, reduceIte, reduceCtorEq, Int.reduceLT, Int.reduceLE, Int.reduceEq, Int.reduceNeg, Int.reduceToNat, Int.reduceAdd, Int.reduceSub, h2, ↓g_call _ _ c_sautoirref05_Disk_write]
          refine CallK.as cWr (aft_nil ?_)
          rw [hap]
          rcases hwr with ⟨e, e2⟩ | ⟨e, e2⟩ | ⟨e, e2⟩ <;> rw [e, e2]
          · simp -implicitDefEqProofs -dsimp only [go_sem, Nat.reduceEqDiff, Nat.reduceAdd, Nat.reduceMul, Nat.reduceSub, Nat.reduceLT, Nat.reduceLeDiff, Nat.reduceBEq, reduceIte, reduceCtorEq, Int.reduceLT, Int.reduceLE, Int.reduceEq, Int.reduceNeg, Int.reduceToNat, Int.reduceAdd, Int.reduceSub, decide_true, decide_false]
            exact fin_as (.refl _) rfl
          · simp -implicitDefEqProofs -dsimp only [go_sem, Nat.reduceEqDiff, Nat.reduceAdd, Nat.reduceMul, Nat.reduceSub, Nat.reduceLT, Nat.reduceLeDiff, Nat.reduceBEq, reduceIte, reduceCtorEq, Int.reduceLT, Int.reduceLE, Int.reduceEq, Int.reduceNeg, Int.reduceToNat, Int.reduceAdd, Int.reduceSub, decide_true, decide_false]
            exact fin_as (.refl _) rfl
          · rw [if_pos (by simp)]
            simp -implicitDefEqProofs -dsimp only [go_sem, Nat.reduceEqDiff, Nat.reduceAdd, Nat.reduceMul, Nat.reduceSub, Nat.reduceLT, Nat.reduceLeDiff, Nat.reduceBEq, reduceIte, reduceCtorEq, Int.reduceLT, Int.reduceLE, Int.reduceEq, Int.reduceNeg, Int.reduceToNat, Int.reduceAdd, Int.reduceSub, decide_true, decide_false, hT', f1, f2, Nat.zero_le, true_and, show ((2 : Nat) : Int) = 2 from rfl, show (1 : Int).toNat = 1 from rfl]
            refine stS_row hT' rfl rfl (by simp) ?_
            refine aft_nil ?_
            simp -implicitDefEqProofs -dsimp only [go_sem, Nat.reduceEqDiff, Nat.reduceAdd, Nat.reduceMul, Nat.reduceSub, Nat.reduceLT, Nat.reduceLeDiff, Nat.reduceBEq, reduceIte, reduceCtorEq, Int.reduceLT, Int.reduceLE, Int.reduceEq, Int.reduceNeg, Int.reduceToNat, Int.reduceAdd, Int.reduceSub, show ((2 : Nat) : Int) = 2 from rfl, show (1 : Int).toNat = 1 from rfl]
            refine stS_row (Tab.put_same _ _ _) rfl rfl (by simp [stCells]) ?_
            refine aft_nil ?_
            simp -implicitDefEqProofs -dsimp only [go_sem, Nat.reduceEqDiff, Nat.reduceAdd, Nat.reduceMul, Nat.reduceSub, Nat.reduceLT, Nat.reduceLeDiff, Nat.reduceBEq, reduceIte, reduceCtorEq, Int.reduceLT, Int.reduceLE, Int.reduceEq, Int.reduceNeg, Int.reduceToNat, Int.reduceAdd, Int.reduceSub, decide_true, decide_false]
            refine fin_as (.refl _) ?_
            simp only [Tab.put_put]
            simp [Dk.set, Dk.get, Dk.rcells, hw.a0, hw.a1, stCells, Dk.lf]

def Dk.rread (d : Dk) (k : Int) : List UInt8 × Int :=
  if isV k = 1 then ([], 1) else if d.lost = true then ([], 12) else ((d.get k).b, 0)

theorem ac_RRead {d : Dk} {T : Tab} {id : Nat} (hT : RAt T id d) (k : Int) :
    ACalls prog f_sautoirref05_Disk_Read [.ptr id 0, .i .i64 k] T (fun v T' => v = .tup [.s (d.rread k).1, .i .i64 (d.rread k).2] ∧ T' = T) := by
  refine acalls_of mixed t_sautoirref05_Disk_Read (by simp) ?_
  unfold s_sautoirref05_Disk_Read
  have hT0 := hT
  unfold RAt Dk.rcells at hT0
  rcases isV_cases k with hk | ⟨hk, hk2⟩
  · have hk0 := bad_k hk
    rw [Dk.rread, if_pos hk]
    simp -implicitDefEqProofs -dsimp only [go_sem, Nat.reduceEqDiff, Nat.reduceAdd, Nat.reduceMul, Nat.reduceSub, Nat.reduceLT, Nat.reduceLeDiff, Nat.reduceBEq, reduceIte, reduceCtorEq, Int.reduceLT, Int.reduceLE, Int.reduceEq, Int.reduceNeg, Int.reduceToNat, Int.reduceAdd, Int.reduceSub, hk0.1, hk0.2, decide_true, decide_false]
    exact fin_as (.refl _) rfl
  · rw [Dk.rread, if_neg (by omega)]
    rcases hk2 with rfl | rfl
    all_goals
      simp -implicitDefEqProofs -dsimp only [go_sem, Nat.reduceEqDiff, Nat.reduceAdd, Nat.reduceMul, Nat.reduceSub, Nat.reduceLT, Nat.reduceLeDiff, Nat.reduceBEq, reduceIte, reduceCtorEq, Int.reduceLT, Int.reduceLE, Int.reduceEq, Int.reduceNeg, Int.reduceToNat, Int.reduceAdd, Int.reduceSub, decide_true, decide_false, hT0]
      refine br_split (fun h1 => ?_) (fun h1 => ?_)
      · simp -implicitDefEqProofs -dsimp only [go_sem, Nat.reduceEqDiff, Nat.reduceAdd, Nat.reduceMul, Nat.reduceSub, Nat.reduceLT, Nat.reduceLeDiff, Nat.reduceBEq, reduceIte, reduceCtorEq, Int.reduceLT, Int.reduceLE, Int.reduceEq, Int.reduceNeg, Int.reduceToNat, Int.reduceAdd, Int.reduceSub, h1]
        exact fin_as (.refl _) rfl
      · simp -implicitDefEqProofs -dsimp only [go_sem, Nat.reduceEqDiff, Nat.reduceAdd, Nat.reduceMul, Nat.reduceSub, Nat.reduceLT, Nat.reduceLeDiff, Nat.reduceBEq, reduceIte, reduceCtorEq, Int.reduceLT, Int.reduceLE, Int.reduceEq, Int.reduceNeg, Int.reduceToNat, Int.reduceAdd, Int.reduceSub, h1, hT0, show ((2 : Nat) : Int) = 2 from rfl, show (1 : Int).toNat = 1 from rfl]
        exact fin_as (.refl _) rfl

theorem ac_RArm {d : Dk} {T : Tab} {id : Nat} (hT : RAt T id d) (n : Int) : ACalls prog f_sautoirref05_Disk_Arm [.ptr id 0, .i .i64 n] T (fun v T' => v = .tup [] ∧ T' = T.put id (.row 7 (d.arm n).rcells)) := by
  refine acalls_of mixed t_sautoirref05_Disk_Arm (by simp) ?_
  unfold s_sautoirref05_Disk_Arm
  have hT0 := hT
  unfold RAt Dk.rcells at hT0
  simp -implicitDefEqProofs -dsimp only [go_sem, Nat.reduceEqDiff, Nat.reduceAdd, Nat.reduceMul, Nat.reduceSub, Nat.reduceLT, Nat.reduceLeDiff, Nat.reduceBEq, reduceIte, reduceCtorEq, Int.reduceLT, Int.reduceLE, Int.reduceEq, Int.reduceNeg, Int.reduceToNat, Int.reduceAdd, Int.reduceSub, hT0]
  refine stS_row hT0 rfl rfl (by simp) ?_
  refine aft_nil ?_
  simp -implicitDefEqProofs -dsimp only [go_sem, Nat.reduceEqDiff, Nat.reduceAdd, Nat.reduceMul, Nat.reduceSub, Nat.reduceLT, Nat.reduceLeDiff, Nat.reduceBEq, reduceIte, reduceCtorEq, Int.reduceLT, Int.reduceLE, Int.reduceEq, Int.reduceNeg, Int.reduceToNat, Int.reduceAdd, Int.reduceSub]
  refine br_split (fun h => ?_) (fun h => ?_)
  · have h' := of_decide_eq_true h
    simp -implicitDefEqProofs -dsimp only [go_sem, Nat.reduceEqDiff, Nat.reduceAdd, Nat.reduceMul, Nat.reduceSub, Nat.reduceLT, Nat.reduceLeDiff, Nat.reduceBEq, reduceIte, reduceCtorEq, Int.reduceLT, Int.reduceLE, Int.reduceEq, Int.reduceNeg, Int.reduceToNat, Int.reduceAdd, Int.reduceSub, h]
    refine stS_row (Tab.put_same _ _ _) rfl rfl (by simp [stCells]) ?_
    refine aft_nil ?_
    simp -implicitDefEqProofs -dsimp only [go_sem, Nat.reduceEqDiff, Nat.reduceAdd, Nat.reduceMul, Nat.reduceSub, Nat.reduceLT, Nat.reduceLeDiff, Nat.reduceBEq, reduceIte, reduceCtorEq, Int.reduceLT, Int.reduceLE, Int.reduceEq, Int.reduceNeg, Int.reduceToNat, Int.reduceAdd, Int.reduceSub]
    refine fin_as (.refl _) ?_
    simp only [Tab.put_put]
    have e : max n 0 = 0 := by omega
    simp [Dk.arm, Dk.rcells, Dk.lf, stCells, e]
  · have h' := of_decide_eq_false h
    simp -implicitDefEqProofs -dsimp only [go_sem, Nat.reduceEqDiff, Nat.reduceAdd, Nat.reduceMul, Nat.reduceSub, Nat.reduceLT, Nat.reduceLeDiff, Nat.reduceBEq, reduceIte, reduceCtorEq, Int.reduceLT, Int.reduceLE, Int.reduceEq, Int.reduceNeg, Int.reduceToNat, Int.reduceAdd, Int.reduceSub, h]
    refine fin_as (.refl _) ?_
    have e : max n 0 = n := by omega
    simp [Dk.arm, Dk.rcells, Dk.lf, stCells, e]

theorem ac_RCrash {d : Dk} (hd : d.Ok) {T : Tab} {id : Nat} (hT : RAt T id d) (k0 k1 : Int) (h0 : 0 ≤ k0 ∧ k0 < 65536) (h1 : 0 ≤ k1 ∧ k1 < 65536) :
    ACalls prog f_sautoirref05_Disk_Crash [.ptr id 0, .agg [.i .u16 k0, .i .u16 k1]] T (fun v T' => v = .tup [] ∧ T' = T.put id (.row 7 (d.crash k0 k1).rcells)) := by
  refine acalls_of mixed t_sautoirref05_Disk_Crash (by simp) ?_
  unfold s_sautoirref05_Disk_Crash
  have r1 := hd.r1
  have r2 := hd.fits
  have b0 := Ar.keep_bd hd.o0 h0.1
  have b1 := Ar.keep_bd hd.o1 h1.1
  have s0 := hd.o0.s0
  have s0' := hd.o0.s1
  have s1 := hd.o1.s0
  have s1' := hd.o1.s1
  have hT0 := hT
  unfold RAt Dk.rcells at hT0
  have w0 : IntKind.i64.wrap k0 = k0 := wrap_i64 (by unfold I64; omega)
  have w1 : IntKind.i64.wrap k1 = k1 := wrap_i64 (by unfold I64; omega)
  have w2 : IntKind.i64.wrap ((d.a0.b.length : Int) - d.a0.su) = (d.a0.b.length : Int) - d.a0.su := wrap_i64 (by unfold I64; omega)
  have w3 : IntKind.i64.wrap ((d.a1.b.length : Int) - d.a1.su) = (d.a1.b.length : Int) - d.a1.su := wrap_i64 (by unfold I64; omega)
  have w4 : IntKind.i64.wrap ((d.a0.b.length : Int) - d.a0.su + 1) = (d.a0.b.length : Int) - d.a0.su + 1 := wrap_i64 (by unfold I64; omega)
  have w5 : IntKind.i64.wrap ((d.a1.b.length : Int) - d.a1.su + 1) = (d.a1.b.length : Int) - d.a1.su + 1 := wrap_i64 (by unfold I64; omega)
  have w6 : IntKind.i64.wrap (d.a0.su + k0.tmod ((d.a0.b.length : Int) - d.a0.su + 1)) = d.a0.keepN k0 := wrap_i64 (by unfold I64; unfold Ar.keepN at b0; omega)
  have w7 : IntKind.i64.wrap (d.a1.su + k1.tmod ((d.a1.b.length : Int) - d.a1.su + 1)) = d.a1.keepN k1 := wrap_i64 (by unfold I64; unfold Ar.keepN at b1; omega)
  have z0 : ((d.a0.b.length : Int) - d.a0.su + 1 = 0) = False := by simp; omega
  have z1 : ((d.a1.b.length : Int) - d.a1.su + 1 = 0) = False := by simp; omega
  have p0 : (0 : Int) ≤ d.a0.keepN k0 := by omega
  have p1 : (0 : Int) ≤ d.a1.keepN k1 := by omega
  have p2 : (d.a0.keepN k0).toNat ≤ d.a0.b.length := by omega
  have p3 : (d.a1.keepN k1).toNat ≤ d.a1.b.length := by omega
  have v1 : IntKind.i64.wrap 1 = 1 := rfl
  have v2 : IntKind.i64.wrap 2 = 2 := rfl
  simp -implicitDefEqProofs -dsimp only [go_sem, Nat.reduceEqDiff, Nat.reduceAdd, Nat.reduceMul, Nat.reduceSub, Nat.reduceLT, Nat.reduceLeDiff, Nat.reduceBEq, reduceIte, reduceCtorEq, Int.reduceLT, Int.reduceLE, Int.reduceEq, Int.reduceNeg, Int.reduceToNat, Int.reduceAdd, Int.reduceSub]
  refine AW_loopD (l := sautoirref05_Disk_Crash_l0) rfl (by repeat' (first | exact finX_ext _ _ | assumption | apply blkR_ext | apply thenR_ext | apply AW_ext)) ?_
  unfold sautoirref05_Disk_Crash_l0b
  simp -implicitDefEqProofs -dsimp only [go_sem, Nat.reduceEqDiff, Nat.reduceAdd, Nat.reduceMul, Nat.reduceSub, Nat.reduceLT, Nat.reduceLeDiff, Nat.reduceBEq, reduceIte, reduceCtorEq, Int.reduceLT, Int.reduceLE, Int.reduceEq, Int.reduceNeg, Int.reduceToNat, Int.reduceAdd, Int.reduceSub, hT0, w0, w2, w4, w6, z0, p0, p2, v1, Nat.zero_le, true_and, show ((2 : Nat) : Int) = 2 from rfl]
  refine stS_row hT0 rfl rfl (by simp) ?_
  refine aft_nil ?_
  simp -implicitDefEqProofs -dsimp only [go_sem, Nat.reduceEqDiff, Nat.reduceAdd, Nat.reduceMul, Nat.reduceSub, Nat.reduceLT, Nat.reduceLeDiff, Nat.reduceBEq, reduceIte, reduceCtorEq, Int.reduceLT, Int.reduceLE, Int.reduceEq, Int.reduceNeg, Int.reduceToNat, Int.reduceAdd, Int.reduceSub, show ((2 : Nat) : Int) = 2 from rfl]
  refine stS_row (Tab.put_same _ _ _) rfl rfl (by simp [stCells]) ?_
  refine aft_nil ?_
  simp -implicitDefEqProofs -dsimp only [go_sem, Nat.reduceEqDiff, Nat.reduceAdd, Nat.reduceMul, Nat.reduceSub, Nat.reduceLT, Nat.reduceLeDiff, Nat.reduceBEq, reduceIte, reduceCtorEq, Int.reduceLT, Int.reduceLE, Int.reduceEq, Int.reduceNeg, Int.reduceToNat, Int.reduceAdd, Int.reduceSub, v1, Tab.put_put]
  have hT1 := Tab.put_same T id (.row 7 [.i .i64 d.room, .s (d.a0.b.take (d.a0.keepN k0).toNat), .s d.a1.b, .i .i64 (d.a0.keepN k0), .i .i64 d.a1.su, .b d.lost, .i .i64 d.lf])
  refine AW_loopD (l := sautoirref05_Disk_Crash_l0) rfl (by repeat' (first | exact finX_ext _ _ | assumption | apply blkR_ext | apply thenR_ext | apply AW_ext)) ?_
  unfold sautoirref05_Disk_Crash_l0b
  simp -implicitDefEqProofs -dsimp only [go_sem, Nat.reduceEqDiff, Nat.reduceAdd, Nat.reduceMul, Nat.reduceSub, Nat.reduceLT, Nat.reduceLeDiff, Nat.reduceBEq, reduceIte, reduceCtorEq, Int.reduceLT, Int.reduceLE, Int.reduceEq, Int.reduceNeg, Int.reduceToNat, Int.reduceAdd, Int.reduceSub, hT1, w1, w3, w5, w7, z1, p1, p3, v2, Nat.zero_le, true_and, show ((2 : Nat) : Int) = 2 from rfl, show (1 : Int).toNat = 1 from rfl]
  refine stS_row hT1 rfl rfl (by simp) ?_
  refine aft_nil ?_
  simp -implicitDefEqProofs -dsimp only [go_sem, Nat.reduceEqDiff, Nat.reduceAdd, Nat.reduceMul, Nat.reduceSub, Nat.reduceLT, Nat.reduceLeDiff, Nat.reduceBEq, reduceIte, reduceCtorEq, Int.reduceLT, Int.reduceLE, Int.reduceEq, Int.reduceNeg, Int.reduceToNat, Int.reduceAdd, Int.reduceSub, show ((2 : Nat) : Int) = 2 from rfl, show (1 : Int).toNat = 1 from rfl]
  refine stS_row (Tab.put_same _ _ _) rfl rfl (by simp [stCells]) ?_
  refine aft_nil ?_
  simp -implicitDefEqProofs -dsimp only [go_sem, Nat.reduceEqDiff, Nat.reduceAdd, Nat.reduceMul, Nat.reduceSub, Nat.reduceLT, Nat.reduceLeDiff, Nat.reduceBEq, reduceIte, reduceCtorEq, Int.reduceLT, Int.reduceLE, Int.reduceEq, Int.reduceNeg, Int.reduceToNat, Int.reduceAdd, Int.reduceSub, v2, Tab.put_put]
  refine AW_loopD (l := sautoirref05_Disk_Crash_l0) rfl (by repeat' (first | exact finX_ext _ _ | assumption | apply blkR_ext | apply thenR_ext | apply AW_ext)) ?_
  unfold sautoirref05_Disk_Crash_l0b
  simp -implicitDefEqProofs -dsimp only [go_sem, Nat.reduceEqDiff, Nat.reduceAdd, Nat.reduceMul, Nat.reduceSub, Nat.reduceLT, Nat.reduceLeDiff, Nat.reduceBEq, reduceIte, reduceCtorEq, Int.reduceLT, Int.reduceLE, Int.reduceEq, Int.reduceNeg, Int.reduceToNat, Int.reduceAdd, Int.reduceSub]
  refine stS_row (Tab.put_same _ _ _) rfl rfl (by simp [stCells]) ?_
  refine aft_nil ?_
  simp -implicitDefEqProofs -dsimp only [go_sem, Nat.reduceEqDiff, Nat.reduceAdd, Nat.reduceMul, Nat.reduceSub, Nat.reduceLT, Nat.reduceLeDiff, Nat.reduceBEq, reduceIte, reduceCtorEq, Int.reduceLT, Int.reduceLE, Int.reduceEq, Int.reduceNeg, Int.reduceToNat, Int.reduceAdd, Int.reduceSub]
  refine stS_row (Tab.put_same _ _ _) rfl rfl (by simp [stCells]) ?_
  refine aft_nil ?_
  simp -implicitDefEqProofs -dsimp only [go_sem, Nat.reduceEqDiff, Nat.reduceAdd, Nat.reduceMul, Nat.reduceSub, Nat.reduceLT, Nat.reduceLeDiff, Nat.reduceBEq, reduceIte, reduceCtorEq, Int.reduceLT, Int.reduceLE, Int.reduceEq, Int.reduceNeg, Int.reduceToNat, Int.reduceAdd, Int.reduceSub, Tab.put_put]
  refine fin_as (.refl _) ?_
  simp [Dk.crash, Ar.crash, Dk.rcells, Dk.lf, stCells]
end Go.Aw
