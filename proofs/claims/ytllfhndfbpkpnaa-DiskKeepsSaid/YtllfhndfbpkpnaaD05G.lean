import Derived.Test.YtllfhndfbpkpnaaD05F
namespace Go.Aw
open Go
open Go.Proofs.Try (prog)
set_option linter.all false
set_option maxHeartbeats 4000000

def Dk.lf (d : Dk) : Int := if d.armed = true then d.left else -1
/-- The document's disk, that stands as the program's. -/
def Dk.rcells (d : Dk) : List AV := [.i .i64 d.room, .s d.a0.b, .s d.a1.b, .i .i64 d.a0.su, .i .i64 d.a1.su, .b d.lost, .i .i64 d.lf]
def RAt (T : Tab) (id : Nat) (d : Dk) : Prop := T id = .row 7 d.rcells

theorem ac_RNew (r : Int) (T : Tab) : ACalls prog f_sautoirref05_New [.i .i64 r] T (fun v T' => ∃ id, v = .ptr id 0 ∧ T id = .unused ∧ T' = T.put id (.row 7 (Dk.new r).rcells)) := by
  refine acalls_of mixed t_sautoirref05_New (by simp) ?_
  unfold s_sautoirref05_New
  have key : ∀ x : Int, x = min (max r 0) 1048576 → ∀ id, T id = .unused → finL (.ptr id 0) (fun v T' => ∃ id, v = .ptr id 0 ∧ T id = .unused ∧ T' = T.put id (.row 7 (Dk.new r).rcells)) (T.put id (.row 7 [.i .i64 x, .s [], .s [], .i .i64 0, .i .i64 0, .b false, .i .i64 (-1)])) := fun x hx id hid => by
    subst hx
    exact finL_of _ (fun _ => .inr (.inl rfl)) ⟨id, rfl, hid, rfl⟩
  simp -implicitDefEqProofs -dsimp only [go_sem, Nat.reduceEqDiff, Nat.reduceAdd, Nat.reduceMul, Nat.reduceSub, Nat.reduceLT, Nat.reduceLeDiff, Nat.reduceBEq, reduceIte, reduceCtorEq, Int.reduceLT, Int.reduceLE, Int.reduceEq, Int.reduceNeg, Int.reduceToNat, Int.reduceAdd, Int.reduceSub]
  refine br_split (fun h => ?_) (fun h => ?_)
  · have h1 := of_decide_eq_true h
    simp -implicitDefEqProofs -dsimp only [go_sem, Nat.reduceEqDiff, Nat.reduceAdd, Nat.reduceMul, Nat.reduceSub, Nat.reduceLT, Nat.reduceLeDiff, Nat.reduceBEq, reduceIte, reduceCtorEq, Int.reduceLT, Int.reduceLE, Int.reduceEq, Int.reduceNeg, Int.reduceToNat, Int.reduceAdd, Int.reduceSub, h, decide_true, decide_false]
    intro id hid
    refine aft_nil ?_
    simp -implicitDefEqProofs -dsimp only [go_sem, Nat.reduceEqDiff, Nat.reduceAdd, Nat.reduceMul, Nat.reduceSub, Nat.reduceLT, Nat.reduceLeDiff, Nat.reduceBEq, reduceIte, reduceCtorEq, Int.reduceLT, Int.reduceLE, Int.reduceEq, Int.reduceNeg, Int.reduceToNat, Int.reduceAdd, Int.reduceSub]
    exact key _ (by omega) id hid
  · have h1 := of_decide_eq_false h
    simp -implicitDefEqProofs -dsimp only [go_sem, Nat.reduceEqDiff, Nat.reduceAdd, Nat.reduceMul, Nat.reduceSub, Nat.reduceLT, Nat.reduceLeDiff, Nat.reduceBEq, reduceIte, reduceCtorEq, Int.reduceLT, Int.reduceLE, Int.reduceEq, Int.reduceNeg, Int.reduceToNat, Int.reduceAdd, Int.reduceSub, h]
    refine br_split (fun h2 => ?_) (fun h2 => ?_)
    · have h3 := of_decide_eq_true h2
      simp -implicitDefEqProofs -dsimp only [go_sem, Nat.reduceEqDiff, Nat.reduceAdd, Nat.reduceMul, Nat.reduceSub, Nat.reduceLT, Nat.reduceLeDiff, Nat.reduceBEq, reduceIte, reduceCtorEq, Int.reduceLT, Int.reduceLE, Int.reduceEq, Int.reduceNeg, Int.reduceToNat, Int.reduceAdd, Int.reduceSub, h2]
      intro id hid
      refine aft_nil ?_
      simp -implicitDefEqProofs -dsimp only [go_sem, Nat.reduceEqDiff, Nat.reduceAdd, Nat.reduceMul, Nat.reduceSub, Nat.reduceLT, Nat.reduceLeDiff, Nat.reduceBEq, reduceIte, reduceCtorEq, Int.reduceLT, Int.reduceLE, Int.reduceEq, Int.reduceNeg, Int.reduceToNat, Int.reduceAdd, Int.reduceSub]
      exact key _ (by omega) id hid
    · have h3 := of_decide_eq_false h2
      simp -implicitDefEqProofs -dsimp only [go_sem, Nat.reduceEqDiff, Nat.reduceAdd, Nat.reduceMul, Nat.reduceSub, Nat.reduceLT, Nat.reduceLeDiff, Nat.reduceBEq, reduceIte, reduceCtorEq, Int.reduceLT, Int.reduceLE, Int.reduceEq, Int.reduceNeg, Int.reduceToNat, Int.reduceAdd, Int.reduceSub, h2]
      intro id hid
      refine aft_nil ?_
      simp -implicitDefEqProofs -dsimp only [go_sem, Nat.reduceEqDiff, Nat.reduceAdd, Nat.reduceMul, Nat.reduceSub, Nat.reduceLT, Nat.reduceLeDiff, Nat.reduceBEq, reduceIte, reduceCtorEq, Int.reduceLT, Int.reduceLE, Int.reduceEq, Int.reduceNeg, Int.reduceToNat, Int.reduceAdd, Int.reduceSub]
      exact key _ (by omega) id hid

theorem ac_RRoom {d : Dk} (hd : d.Ok) {T : Tab} {id : Nat} (hT : RAt T id d) : ACalls prog f_sautoirref05_Disk_Room [.ptr id 0] T (fun v T' => v = .i .i64 d.free ∧ T' = T) := by
  refine acalls_of mixed t_sautoirref05_Disk_Room (by simp) ?_
  unfold s_sautoirref05_Disk_Room
  unfold RAt Dk.rcells at hT
  have r0 := hd.r0; have r1 := hd.r1; have r2 := hd.fits
  have w1 : IntKind.i64.wrap (d.room - d.a0.b.length) = d.room - d.a0.b.length := wrap_i64 (by unfold I64; omega)
  have w2 : IntKind.i64.wrap (d.room - d.a0.b.length - d.a1.b.length) = d.free := wrap_i64 (by unfold I64; omega)
  simp -implicitDefEqProofs -dsimp only [go_sem, Nat.reduceEqDiff, Nat.reduceAdd, Nat.reduceMul, Nat.reduceSub, Nat.reduceLT, Nat.reduceLeDiff, Nat.reduceBEq, reduceIte, reduceCtorEq, Int.reduceLT, Int.reduceLE, Int.reduceEq, Int.reduceNeg, Int.reduceToNat, Int.reduceAdd, Int.reduceSub, hT, w1, w2, show ((2 : Nat) : Int) = 2 from rfl, show (1 : Int).toNat = 1 from rfl]
  exact fin_as (.refl _) rfl

def Dk.rw (d : Dk) : Int := if d.lost = true then 1 else if d.armed = true ∧ d.left = 0 then 2 else 0

theorem ac_Rwrite {d : Dk} (hd : d.Ok) (hl : d.left ≤ 9223372036854775807) {T : Tab} {id : Nat} (hT : RAt T id d) :
    ACalls prog f_sautoirref05_Disk_write [.ptr id 0] T (fun v T' => v = .i .i64 d.rw ∧ T' = T.put id (.row 7 d.write.2.2.rcells)) := by
  refine acalls_of mixed t_sautoirref05_Disk_write (by simp) ?_
  unfold s_sautoirref05_Disk_write
  have hself : T = T.put id (.row 7 d.rcells) := (Tab.put_self hT).symm
  have hT' := hT
  unfold RAt Dk.rcells at hT'
  have l0 := hd.l0
  simp -implicitDefEqProofs -dsimp only [go_sem, Nat.reduceEqDiff, Nat.reduceAdd, Nat.reduceMul, Nat.reduceSub, Nat.reduceLT, Nat.reduceLeDiff, Nat.reduceBEq, reduceIte, reduceCtorEq, Int.reduceLT, Int.reduceLE, Int.reduceEq, Int.reduceNeg, Int.reduceToNat, Int.reduceAdd, Int.reduceSub, hT']
  refine br_split (fun h => ?_) (fun h => ?_)
  · simp -implicitDefEqProofs -dsimp only [go_sem, Nat.reduceEqDiff, Nat.reduceAdd, Nat.reduceMul, Nat.reduceSub, Nat.reduceLT, Nat.reduceLeDiff, Nat.reduceBEq, reduceIte, reduceCtorEq, Int.reduceLT, Int.reduceLE, Int.reduceEq, Int.reduceNeg, Int.reduceToNat, Int.reduceAdd, Int.reduceSub, h]
    refine fin_as ?_ ?_
    · rw [Dk.rw, if_pos h]; exact .refl _
    · rw [Dk.write, if_pos h]; exact hself
  · simp -implicitDefEqProofs -dsimp only [go_sem, Nat.reduceEqDiff, Nat.reduceAdd, Nat.reduceMul, Nat.reduceSub, Nat.reduceLT, Nat.reduceLeDiff, Nat.reduceBEq, reduceIte, reduceCtorEq, Int.reduceLT, Int.reduceLE, Int.reduceEq, Int.reduceNeg, Int.reduceToNat, Int.reduceAdd, Int.reduceSub, h, hT']
    refine br_split (fun h1 => ?_) (fun h1 => ?_)
    · have h1' := of_decide_eq_true h1
      have ha : d.armed = true ∧ d.left = 0 := by
        unfold Dk.lf at h1'
        split at h1'
        · rename_i hq; exact ⟨hq, h1'⟩
        · omega
      simp -implicitDefEqProofs -dsimp only [go_sem, Nat.reduceEqDiff, Nat.reduceAdd, Nat.reduceMul, Nat.reduceSub, Nat.reduceLT, Nat.reduceLeDiff, Nat.reduceBEq, reduceIte, reduceCtorEq, Int.reduceLT, Int.reduceLE, Int.reduceEq, Int.reduceNeg, Int.reduceToNat, Int.reduceAdd, Int.reduceSub, h1, hT']
      refine stS_row hT' rfl rfl (by simp) ?_
      refine aft_nil ?_
      simp -implicitDefEqProofs -dsimp only [go_sem, Nat.reduceEqDiff, Nat.reduceAdd, Nat.reduceMul, Nat.reduceSub, Nat.reduceLT, Nat.reduceLeDiff, Nat.reduceBEq, reduceIte, reduceCtorEq, Int.reduceLT, Int.reduceLE, Int.reduceEq, Int.reduceNeg, Int.reduceToNat, Int.reduceAdd, Int.reduceSub]
      refine fin_as ?_ ?_
      · rw [Dk.rw, if_neg (by simp [h]), if_pos ha]; exact .refl _
      · rw [Dk.write, if_neg (by simp [h]), if_pos ha]
        simp [Dk.rcells, Dk.lf, stCells]
    · have h1' := of_decide_eq_false h1
      have hna : ¬ (d.armed = true ∧ d.left = 0) := fun hx => h1' (by rw [Dk.lf, if_pos hx.1]; exact hx.2)
      have hrw : d.rw = 0 := by rw [Dk.rw, if_neg (by simp [h]), if_neg hna]
      rw [hrw]
      simp -implicitDefEqProofs -dsimp only [go_sem, Nat.reduceEqDiff, Nat.reduceAdd, Nat.reduceMul, Nat.reduceSub, Nat.reduceLT, Nat.reduceLeDiff, Nat.reduceBEq, reduceIte, reduceCtorEq, Int.reduceLT, Int.reduceLE, Int.reduceEq, Int.reduceNeg, Int.reduceToNat, Int.reduceAdd, Int.reduceSub, h1, hT']
      refine br_split (fun h2 => ?_) (fun h2 => ?_)
      · have h2' := of_decide_eq_true h2
        have ha : d.armed = true := by
          unfold Dk.lf at h2'
          split at h2'
          · assumption
          · omega
        have hlf : d.lf = d.left := by rw [Dk.lf, if_pos ha]
        have w1 : IntKind.i64.wrap (d.lf - 1) = d.left - 1 := by rw [hlf]; exact wrap_i64 (by unfold I64; omega)
        simp -implicitDefEqProofs -dsimp only [go_sem, Nat.reduceEqDiff, Nat.reduceAdd, Nat.reduceMul, Nat.reduceSub, Nat.reduceLT, Nat.reduceLeDiff, Nat.reduceBEq, reduceIte, reduceCtorEq, Int.reduceLT, Int.reduceLE, Int.reduceEq, Int.reduceNeg, Int.reduceToNat, Int.reduceAdd, Int.reduceSub, h2, hT', w1]
        refine stS_row hT' rfl rfl (by simp) ?_
        refine aft_nil ?_
        simp -implicitDefEqProofs -dsimp only [go_sem, Nat.reduceEqDiff, Nat.reduceAdd, Nat.reduceMul, Nat.reduceSub, Nat.reduceLT, Nat.reduceLeDiff, Nat.reduceBEq, reduceIte, reduceCtorEq, Int.reduceLT, Int.reduceLE, Int.reduceEq, Int.reduceNeg, Int.reduceToNat, Int.reduceAdd, Int.reduceSub]
        refine fin_as (.refl _) ?_
        rw [Dk.write, if_neg (by simp [h]), if_neg hna, if_pos ha]
        simp [Dk.rcells, Dk.lf, stCells, ha]
      · have h2' := of_decide_eq_false h2
        have ha : ¬ d.armed = true := fun ha => by
          have hlf : d.lf = d.left := by rw [Dk.lf, if_pos ha]
          have : ¬ d.left = 0 := fun e => hna ⟨ha, e⟩
          omega
        simp -implicitDefEqProofs -dsimp only [go_sem, Nat.reduceEqDiff, Nat.reduceAdd, Nat.reduceMul, Nat.reduceSub, Nat.reduceLT, Nat.reduceLeDiff, Nat.reduceBEq, reduceIte, reduceCtorEq, Int.reduceLT, Int.reduceLE, Int.reduceEq, Int.reduceNeg, Int.reduceToNat, Int.reduceAdd, Int.reduceSub, h2]
        refine fin_as (.refl _) ?_
        rw [Dk.write, if_neg (by simp [h]), if_neg hna, if_neg ha]
        exact hself

theorem rwrite_cases (d : Dk) (hd : d.Ok) : ∃ d', d'.Ok ∧ WrC d d' ∧ ((d.write = (12, false, d') ∧ d.rw = 1) ∨ (d.write = (12, true, d') ∧ d.rw = 2) ∨ (d.write = (0, false, d') ∧ d.rw = 0)) := by
  have ho := Dk.write_ok hd
  refine ⟨d.write.2.2, ho, ?_, ?_⟩
  · unfold Dk.write
    repeat' split
    all_goals exact ⟨rfl, rfl, rfl, by simp only; omega⟩
  · unfold Dk.write Dk.rw
    repeat' split
    · exact .inl ⟨rfl, rfl⟩
    · exact .inr (.inl ⟨rfl, rfl⟩)
    · exact .inr (.inr ⟨rfl, rfl⟩)
    · exact .inr (.inr ⟨rfl, rfl⟩)

theorem ac_RAppend {d : Dk} (hd : d.Ok) (hl : d.left ≤ 9223372036854775807) {T : Tab} {id : Nat} (hT : RAt T id d) (k : Int) (b : List UInt8) :
    ACalls prog f_sautoirref05_Disk_Append [.ptr id 0, .i .i64 k, .s b] T (fun v T' => v = .i .i64 (d.append k b).1 ∧ T' = T.put id (.row 7 (d.append k b).2.rcells)) := by
  refine acalls_of mixed t_sautoirref05_Disk_Append (by simp) ?_
  unfold s_sautoirref05_Disk_Append
  have hself : T = T.put id (.row 7 d.rcells) := (Tab.put_self hT).symm
  have r1 := hd.r1
  have r2 := hd.fits
  have bad : isV k = 1 → finL (.i .i64 1) (fun v T' => v = .i .i64 (d.append k b).1 ∧ T' = T.put id (.row 7 (d.append k b).2.rcells)) T := fun hk => by
    refine fin_as ?_ ?_
    · rw [Dk.append, if_pos hk]; exact .refl _
    · rw [Dk.append, if_pos hk]; exact hself
  rcases isV_cases k with hk | ⟨hk, hk2⟩
  · have hk0 : ¬ k = 0 ∧ ¬ k = 1 := by unfold isV at hk; split at hk <;> omega
    simp -implicitDefEqProofs -dsimp only [go_sem, Nat.reduceEqDiff, Nat.reduceAdd, Nat.reduceMul, Nat.reduceSub, Nat.reduceLT, Nat.reduceLeDiff, Nat.reduceBEq, reduceIte, reduceCtorEq, Int.reduceLT, Int.reduceLE, Int.reduceEq, Int.reduceNeg, Int.reduceToNat, Int.reduceAdd, Int.reduceSub, hk0.1, hk0.2, decide_true, decide_false]
    exact bad hk
  · have hap : ¬ d.free < b.length → d.append k b = if d.write.1 = 0 ∨ d.write.2.1 = true then (d.write.1, d.write.2.2.set k ⟨(d.get k).b ++ b, none, (d.get k).su⟩) else (d.write.1, d.write.2.2) := fun hfit => by
      rw [Dk.append, if_neg (by omega), if_neg hfit]
    have full : d.free < b.length → finL (.i .i64 9) (fun v T' => v = .i .i64 (d.append k b).1 ∧ T' = T.put id (.row 7 (d.append k b).2.rcells)) T := fun hf => by
      refine fin_as ?_ ?_
      · rw [Dk.append, if_neg (by omega), if_pos hf]; exact .refl _
      · rw [Dk.append, if_neg (by omega), if_pos hf]; exact hself
    obtain ⟨d', hd', hw, hwr⟩ := rwrite_cases d hd
    have cRm := ac_RRoom hd hT
    have cWr := ac_Rwrite hd hl hT
    have hT' : T.put id (.row 7 d'.rcells) id = .row 7 [.i .i64 d'.room, .s d.a0.b, .s d.a1.b, .i .i64 d.a0.su, .i .i64 d.a1.su, .b d'.lost, .i .i64 d'.lf] := by
      rw [Tab.put_same]; simp only [Dk.rcells, hw.a0, hw.a1]
    have fr : d.free = d.room - d.a0.b.length - d.a1.b.length := rfl
    rcases hk2 with rfl | rfl
    all_goals
      simp -implicitDefEqProofs -dsimp only [go_sem, Nat.reduceEqDiff, Nat.reduceAdd, Nat.reduceMul, Nat.reduceSub, Nat.reduceLT, Nat.reduceLeDiff, Nat.reduceBEq, reduceIte, reduceCtorEq, Int.reduceLT, Int.reduceLE, Int.reduceEq, Int.reduceNeg, Int.reduceToNat, Int.reduceAdd, Int.reduceSub, decide_true, decide_false, ↓g_call _ _ c_sautoirref05_Disk_Room]
      refine CallK.as cRm (aft_nil ?_)
      simp -implicitDefEqProofs -dsimp only [go_sem, Nat.reduceEqDiff, Nat.reduceAdd, Nat.reduceMul, Nat.reduceSub, Nat.reduceLT, Nat.reduceLeDiff, Nat.reduceBEq, reduceIte, reduceCtorEq, Int.reduceLT, Int.reduceLE, Int.reduceEq, Int.reduceNeg, Int.reduceToNat, Int.reduceAdd, Int.reduceSub]
      refine br_split (fun h1 => ?_) (fun h1 => ?_)
      · simp -implicitDefEqProofs -dsimp only [go_sem, Nat.reduceEqDiff, Nat.reduceAdd, Nat.reduceMul, Nat.reduceSub, Nat.reduceLT, Nat.reduceLeDiff, Nat.reduceBEq, reduceIte, reduceCtorEq, Int.reduceLT, Int.reduceLE, Int.reduceEq, Int.reduceNeg, Int.reduceToNat, Int.reduceAdd, Int.reduceSub, h1]
        exact full (of_decide_eq_true h1)
      · have hfit := of_decide_eq_false h1
        have hap := hap hfit
        simp -implicitDefEqProofs -dsimp only [go_sem, Nat.reduceEqDiff, Nat.reduceAdd, Nat.reduceMul, Nat.reduceSub, Nat.reduceLT, Nat.reduceLeDiff, Nat.reduceBEq, reduceIte, reduceCtorEq, Int.reduceLT, Int.reduceLE, Int.reduceEq, Int.reduceNeg, Int.reduceToNat, Int.reduceAdd, Int.reduceSub, h1, ↓g_call _ _ c_sautoirref05_Disk_write]
        refine CallK.as cWr (aft_nil ?_)
        rw [hap]
        have le0 : d.a0.b.length + b.length ≤ 9223372036854775807 := by omega
        have le1 : d.a1.b.length + b.length ≤ 9223372036854775807 := by omega
        rcases hwr with ⟨e, e2⟩ | ⟨e, e2⟩ | ⟨e, e2⟩ <;> rw [e, e2]
        · simp -implicitDefEqProofs -dsimp only [go_sem, Nat.reduceEqDiff, Nat.reduceAdd, Nat.reduceMul, Nat.reduceSub, Nat.reduceLT, Nat.reduceLeDiff, Nat.reduceBEq, reduceIte, reduceCtorEq, Int.reduceLT, Int.reduceLE, Int.reduceEq, Int.reduceNeg, Int.reduceToNat, Int.reduceAdd, Int.reduceSub, decide_true, decide_false]
          exact fin_as (.refl _) rfl
        all_goals
          rw [if_pos (by simp)]
          simp -implicitDefEqProofs -dsimp only [go_sem, Nat.reduceEqDiff, Nat.reduceAdd, Nat.reduceMul, Nat.reduceSub, Nat.reduceLT, Nat.reduceLeDiff, Nat.reduceBEq, reduceIte, reduceCtorEq, Int.reduceLT, Int.reduceLE, Int.reduceEq, Int.reduceNeg, Int.reduceToNat, Int.reduceAdd, Int.reduceSub, decide_true, decide_false, hT', le0, le1, show ((2 : Nat) : Int) = 2 from rfl, show (1 : Int).toNat = 1 from rfl]
          refine stS_row hT' rfl rfl (by simp) ?_
          refine aft_nil ?_
          simp -implicitDefEqProofs -dsimp only [go_sem, Nat.reduceEqDiff, Nat.reduceAdd, Nat.reduceMul, Nat.reduceSub, Nat.reduceLT, Nat.reduceLeDiff, Nat.reduceBEq, reduceIte, reduceCtorEq, Int.reduceLT, Int.reduceLE, Int.reduceEq, Int.reduceNeg, Int.reduceToNat, Int.reduceAdd, Int.reduceSub, decide_true, decide_false]
          refine fin_as (.refl _) ?_
          rw [Tab.put_put]
          simp [Dk.set, Dk.get, Dk.rcells, hw.a0, hw.a1, stCells, Dk.lf]
end Go.Aw
