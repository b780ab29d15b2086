import Derived.Test.YtllfhndfbpkpnaaD05A
namespace Go.Aw
open Go
open Go.Proofs.Try (prog)
set_option linter.all false
set_option maxHeartbeats 4000000

def Dk.get (d : Dk) (k : Int) : Ar := if k = 0 then d.a0 else d.a1
def Dk.set (d : Dk) (k : Int) (a : Ar) : Dk := if k = 0 then { d with a0 := a } else { d with a1 := a }
theorem isV_cases (k : Int) : isV k = 1 ∨ (isV k = 0 ∧ (k = 0 ∨ k = 1)) := by
  unfold isV
  split
  · exact .inl rfl
  · exact .inr ⟨rfl, by omega⟩

theorem CallK.as {P : Program} {f : FuncId} {avs : List AV} {T T1 : Tab} {k : AV → Tab → Prop} {r : AV} (h : ACalls P f avs T (fun v T' => v = r ∧ T' = T1)) (hk : k r T1) : CallK P f avs T k :=
  .of h fun v T' h => by rw [h.1, h.2]; exact hk
theorem fin_as {T T1 : Tab} {r r' : AV} (h : Wk r r') (hT : T = T1) : finL r (fun v T' => v = r' ∧ T' = T1) T := by
  subst hT
  exact ⟨[], T, r', List.nodup_nil, by simp, fun _ => .inr (.inl rfl), by rw [frzt_nil]; exact h, rfl, rfl⟩

structure WrC (d d' : Dk) : Prop where
  a0 : d'.a0 = d.a0
  a1 : d'.a1 = d.a1
  room : d'.room = d.room
  left : d'.left ≤ d.left
theorem write_cases (d : Dk) (hd : d.Ok) : ∃ d', d'.Ok ∧ WrC d d' ∧ (d.write = (12, false, d') ∨ d.write = (12, true, d') ∨ d.write = (0, false, d')) := by
  have ho := Dk.write_ok hd
  refine ⟨d.write.2.2, ho, ?_, ?_⟩
  · unfold Dk.write
    repeat' split
    all_goals exact ⟨rfl, rfl, rfl, by simp only; omega⟩
  · unfold Dk.write
    repeat' split
    · exact .inl rfl
    · exact .inr (.inl rfl)
    · exact .inr (.inr rfl)
    · exact .inr (.inr rfl)

def Dk.append (d : Dk) (k : Int) (b : List UInt8) : Int × Dk :=
  if isV k = 1 then (1, d) else
  if d.free < b.length then (9, d) else
  if d.write.1 = 0 ∨ d.write.2.1 = true then (d.write.1, d.write.2.2.set k ⟨(d.get k).b ++ b, none, (d.get k).su⟩) else (d.write.1, d.write.2.2)

theorem ac_Append {d : Dk} (hd : d.Ok) (hl : d.left ≤ 9223372036854775807) {T : Tab} {id : Nat} (hT : At T id d) (k : Int) (b : List UInt8) (c : Option Nat) (hb : b.length < 9223372036854775808) :
    ACalls prog f_disk_Disk_Append [.ptr id 0, .i .i64 k, bts b c] T (fun v T' => v = .i .i64 (d.append k b).1 ∧ T' = T.put id (.row 8 (d.append k b).2.cells)) := by
  refine acalls_of mixed t_disk_Disk_Append (by simp) ?_
  unfold s_disk_Disk_Append
  have hself : T = T.put id (.row 8 d.cells) := (Tab.put_self hT).symm
  have r1 := hd.r1
  have r2 := hd.fits
  simp -implicitDefEqProofs -dsimp only [go_sem, Nat.reduceEqDiff, Nat.reduceAdd, Nat.reduceMul, Nat.reduceSub, Nat.reduceLT, Nat.reduceLeDiff, Nat.reduceBEq, reduceIte, reduceCtorEq, Int.reduceLT, Int.reduceLE, Int.reduceEq, Int.reduceNeg, Int.reduceToNat, Int.reduceAdd, Int.reduceSub, ↓g_call _ _ c_disk_Disk_is]
  refine CallK.pure (pc_is id 0 k) (aft_nil ?_)
  rcases isV_cases k with hk | ⟨hk, hk2⟩
  · rw [hk]
    simp -implicitDefEqProofs -dsimp only [go_sem, Nat.reduceEqDiff, Nat.reduceAdd, Nat.reduceMul, Nat.reduceSub, Nat.reduceLT, Nat.reduceLeDiff, Nat.reduceBEq, reduceIte, reduceCtorEq, Int.reduceLT, Int.reduceLE, Int.reduceEq, Int.reduceNeg, Int.reduceToNat, Int.reduceAdd, Int.reduceSub, decide_true, decide_false]
    refine fin_as ?_ ?_
    · rw [Dk.append, if_pos hk]; exact .refl _
    · rw [Dk.append, if_pos hk]; exact hself
  · rw [hk]
    simp -implicitDefEqProofs -dsimp only [go_sem, Nat.reduceEqDiff, Nat.reduceAdd, Nat.reduceMul, Nat.reduceSub, Nat.reduceLT, Nat.reduceLeDiff, Nat.reduceBEq, reduceIte, reduceCtorEq, Int.reduceLT, Int.reduceLE, Int.reduceEq, Int.reduceNeg, Int.reduceToNat, Int.reduceAdd, Int.reduceSub, bts, decide_true, decide_false, ↓g_call _ _ c_disk_Disk_Room]
    refine CallK.as (ac_Room hd hT) (aft_nil ?_)
    simp -implicitDefEqProofs -dsimp only [go_sem, Nat.reduceEqDiff, Nat.reduceAdd, Nat.reduceMul, Nat.reduceSub, Nat.reduceLT, Nat.reduceLeDiff, Nat.reduceBEq, reduceIte, reduceCtorEq, Int.reduceLT, Int.reduceLE, Int.reduceEq, Int.reduceNeg, Int.reduceToNat, Int.reduceAdd, Int.reduceSub]
    refine br_split (fun h1 => ?_) (fun h1 => ?_)
    · simp -implicitDefEqProofs -dsimp only [go_sem, Nat.reduceEqDiff, Nat.reduceAdd, Nat.reduceMul, Nat.reduceSub, Nat.reduceLT, Nat.reduceLeDiff, Nat.reduceBEq, reduceIte, reduceCtorEq, Int.reduceLT, Int.reduceLE, Int.reduceEq, Int.reduceNeg, Int.reduceToNat, Int.reduceAdd, Int.reduceSub, h1]
      refine fin_as ?_ ?_
      · rw [Dk.append, if_neg (by omega), if_pos (of_decide_eq_true h1)]; exact .refl _
      · rw [Dk.append, if_neg (by omega), if_pos (of_decide_eq_true h1)]; exact hself
    · have hfit := of_decide_eq_false h1
      have hfr : d.free = d.room - d.a0.b.length - d.a1.b.length := rfl
      have hap : d.append k b = if d.write.1 = 0 ∨ d.write.2.1 = true then (d.write.1, d.write.2.2.set k ⟨(d.get k).b ++ b, none, (d.get k).su⟩) else (d.write.1, d.write.2.2) := by
        rw [Dk.append, if_neg (by omega), if_neg hfit]
      obtain ⟨d', hd', hw, hwr⟩ := write_cases d hd
      have cWr := ac_write hd hl hT
      have hT' : T.put id (.row 8 d'.cells) id = .row 8 [.i .i64 d'.room, .fz d.a0.b.length (byteCells d.a0.b) d.a0.c, .i .i64 d.a0.su, .fz d.a1.b.length (byteCells d.a1.b) d.a1.c, .i .i64 d.a1.su, .b d'.lost, .b d'.armed, .i .i64 d'.left] := by
        rw [Tab.put_same]; simp only [Dk.cells, bts, hw.a0, hw.a1]
      have c0 : PCalls prog f_slices_Concat_byte_byte [.fz 2 [.fz d.a0.b.length (byteCells d.a0.b) d.a0.c, .fz b.length (byteCells b) c] (some 2)] (bts (d.a0.b ++ b) none) := pc_Concat d.a0.b b d.a0.c c (by omega) (by omega)
      have c1 : PCalls prog f_slices_Concat_byte_byte [.fz 2 [.fz d.a1.b.length (byteCells d.a1.b) d.a1.c, .fz b.length (byteCells b) c] (some 2)] (bts (d.a1.b ++ b) none) := pc_Concat d.a1.b b d.a1.c c (by omega) (by omega)
      simp -implicitDefEqProofs -dsimp only [go_sem, Nat.reduceEqDiff, Nat.reduceAdd, Nat.reduceMul, Nat.reduceSub, Nat.reduceLT, Nat.reduceLeDiff, Nat.reduceBEq, reduceIte, reduceCtorEq, Int.reduceLT, Int.reduceLE, Int.reduceEq, Int.reduceNeg, Int.reduceToNat, Int.reduceAdd, Int.reduceSub, h1, ↓g_call _ _ c_disk_Disk_write]
      refine CallK.as cWr (aft_nil ?_)
      rw [hap]
      rcases hwr with e | e | e <;> rw [e]
      · simp -implicitDefEqProofs -dsimp only [go_sem, Nat.reduceEqDiff, Nat.reduceAdd, Nat.reduceMul, Nat.reduceSub, Nat.reduceLT, Nat.reduceLeDiff, Nat.reduceBEq, reduceIte, reduceCtorEq, Int.reduceLT, Int.reduceLE, Int.reduceEq, Int.reduceNeg, Int.reduceToNat, Int.reduceAdd, Int.reduceSub, decide_true, decide_false]
        rw [if_neg (by simp)]
        exact fin_as (.refl _) rfl
      all_goals
        rw [if_pos (by simp)]
        simp -implicitDefEqProofs -dsimp only [go_sem, Nat.reduceEqDiff, Nat.reduceAdd, Nat.reduceMul, Nat.reduceSub, Nat.reduceLT, Nat.reduceLeDiff, Nat.reduceBEq, reduceIte, reduceCtorEq, Int.reduceLT, Int.reduceLE, Int.reduceEq, Int.reduceNeg, Int.reduceToNat, Int.reduceAdd, Int.reduceSub, decide_true, decide_false]
        rcases hk2 with rfl | rfl
        · simp -implicitDefEqProofs -dsimp only [go_sem, Nat.reduceEqDiff, Nat.reduceAdd, Nat.reduceMul, Nat.reduceSub, Nat.reduceLT, Nat.reduceLeDiff, Nat.reduceBEq, reduceIte, reduceCtorEq, Int.reduceLT, Int.reduceLE, Int.reduceEq, Int.reduceNeg, Int.reduceToNat, Int.reduceAdd, Int.reduceSub, decide_true, decide_false, hT', show ((2 : Nat) : Int) = 2 from rfl, ↓g_call _ _ c_slices_Concat_byte_byte]
          refine CallK.pure c0 (aft_nil ?_)
          simp -implicitDefEqProofs -dsimp only [go_sem, Nat.reduceEqDiff, Nat.reduceAdd, Nat.reduceMul, Nat.reduceSub, Nat.reduceLT, Nat.reduceLeDiff, Nat.reduceBEq, reduceIte, reduceCtorEq, Int.reduceLT, Int.reduceLE, Int.reduceEq, Int.reduceNeg, Int.reduceToNat, Int.reduceAdd, Int.reduceSub, bts]
          refine stS_row hT' rfl rfl (by simp) ?_
          refine aft_nil ?_
          simp -implicitDefEqProofs -dsimp only [go_sem, Nat.reduceEqDiff, Nat.reduceAdd, Nat.reduceMul, Nat.reduceSub, Nat.reduceLT, Nat.reduceLeDiff, Nat.reduceBEq, reduceIte, reduceCtorEq, Int.reduceLT, Int.reduceLE, Int.reduceEq, Int.reduceNeg, Int.reduceToNat, Int.reduceAdd, Int.reduceSub]
          refine fin_as (.refl _) ?_
          rw [Tab.put_put]
          simp [Dk.set, Dk.get, Dk.cells, bts, hw.a1, stCells]
        · simp -implicitDefEqProofs -dsimp only [go_sem, Nat.reduceEqDiff, Nat.reduceAdd, Nat.reduceMul, Nat.reduceSub, Nat.reduceLT, Nat.reduceLeDiff, Nat.reduceBEq, reduceIte, reduceCtorEq, Int.reduceLT, Int.reduceLE, Int.reduceEq, Int.reduceNeg, Int.reduceToNat, Int.reduceAdd, Int.reduceSub, decide_true, decide_false, hT', show ((2 : Nat) : Int) = 2 from rfl, ↓g_call _ _ c_slices_Concat_byte_byte]
          refine CallK.pure c1 (aft_nil ?_)
          simp -implicitDefEqProofs -dsimp only [go_sem, Nat.reduceEqDiff, Nat.reduceAdd, Nat.reduceMul, Nat.reduceSub, Nat.reduceLT, Nat.reduceLeDiff, Nat.reduceBEq, reduceIte, reduceCtorEq, Int.reduceLT, Int.reduceLE, Int.reduceEq, Int.reduceNeg, Int.reduceToNat, Int.reduceAdd, Int.reduceSub, bts]
          refine stS_row hT' rfl rfl (by simp) ?_
          refine aft_nil ?_
          simp -implicitDefEqProofs -dsimp only [go_sem, Nat.reduceEqDiff, Nat.reduceAdd, Nat.reduceMul, Nat.reduceSub, Nat.reduceLT, Nat.reduceLeDiff, Nat.reduceBEq, reduceIte, reduceCtorEq, Int.reduceLT, Int.reduceLE, Int.reduceEq, Int.reduceNeg, Int.reduceToNat, Int.reduceAdd, Int.reduceSub]
          refine fin_as (.refl _) ?_
          rw [Tab.put_put]
          simp [Dk.set, Dk.get, Dk.cells, bts, hw.a0, stCells]
end Go.Aw
