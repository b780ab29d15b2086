import Derived.Test.YtoeaikcebjideaaDoorE03G
import Derived.Test.YtoeaikcebjideaaDoorAwD
namespace Go.Aw
open Go
open Go.Proofs.Tryd (prog)
set_option linter.all false
set_option maxHeartbeats 4000000

theorem pc_fNew (w : List UInt8) (e : Int) : PCalls prog f_fault_New [.s w, .i .i64 e] (if e = 0 then .nilifc else fault w (errno e)) := by
  refine pcalls_of mixed t_fault_New (by simp) fun T => ?_
  unfold s_fault_New
  by_cases h : e = 0
  · subst h
    simp -implicitDefEqProofs -dsimp only [go_sem, Nat.reduceEqDiff, Nat.reduceAdd, Nat.reduceMul, Nat.reduceSub, Nat.reduceLT, Nat.reduceLeDiff, Nat.reduceBEq, reduceIte, reduceCtorEq, Int.reduceLT, Int.reduceLE, Int.reduceEq, Int.reduceNeg, Int.reduceToNat, Int.reduceAdd, Int.reduceSub, decide_true]
    exact finL_pure rfl
  · have d : decide (e = 0) = false := decide_eq_false h
    simp -implicitDefEqProofs -dsimp only [go_sem, Nat.reduceEqDiff, Nat.reduceAdd, Nat.reduceMul, Nat.reduceSub, Nat.reduceLT, Nat.reduceLeDiff, Nat.reduceBEq, reduceIte, reduceCtorEq, Int.reduceLT, Int.reduceLE, Int.reduceEq, Int.reduceNeg, Int.reduceToNat, Int.reduceAdd, Int.reduceSub, d, h]
    intro id hid
    refine aft_nil ?_
    simp -implicitDefEqProofs -dsimp only [go_sem, Nat.reduceEqDiff, Nat.reduceAdd, Nat.reduceMul, Nat.reduceSub, Nat.reduceLT, Nat.reduceLeDiff, Nat.reduceBEq, reduceIte, reduceCtorEq, Int.reduceLT, Int.reduceLE, Int.reduceEq, Int.reduceNeg, Int.reduceToNat, Int.reduceAdd, Int.reduceSub]
    refine ⟨[id], T, _, by simp, by simp [Tab.put_same], fun j => ?_, ?_, rfl, rfl⟩
    · simp only [kill]
      rw [Tab.put_put, Tab.put_self hid]; exact .inr (.inl rfl)
    · simp only [frzt, frzv, frz1, List.mem_singleton, if_true, Tab.put_same, List.drop_zero]
      exact .refl _

theorem c_errors_As : callable prog f_errors_As = true := by kernel_rfl
/-- An error, or none. -/
def erAv : Option Er → AV
  | none => .nilifc
  | some e => e.av
def erCode : Option Er → Int
  | none => 0
  | some e => e.code
theorem Er.ifc (e : Er) : ∃ t v, e.av = .ifc t v := by cases e <;> exact ⟨_, _, rfl⟩
theorem pc_Code (e : Option Er) : PCalls prog f_fault_Code [erAv e] (.i .i64 (erCode e)) := by
  refine pcalls_of mixed t_fault_Code (by simp) fun T => ?_
  unfold s_fault_Code
  cases e with
  | none =>
    simp -implicitDefEqProofs -dsimp only [go_sem, Nat.reduceEqDiff, Nat.reduceAdd, Nat.reduceMul, Nat.reduceSub, Nat.reduceLT, Nat.reduceLeDiff, Nat.reduceBEq, reduceIte, reduceCtorEq, Int.reduceLT, Int.reduceLE, Int.reduceEq, Int.reduceNeg, Int.reduceToNat, Int.reduceAdd, Int.reduceSub, erAv, erCode, eqAv]
    intro id hid
    refine aft_nil ?_
    simp -implicitDefEqProofs -dsimp only [go_sem, Nat.reduceEqDiff, Nat.reduceAdd, Nat.reduceMul, Nat.reduceSub, Nat.reduceLT, Nat.reduceLeDiff, Nat.reduceBEq, reduceIte, reduceCtorEq, Int.reduceLT, Int.reduceLE, Int.reduceEq, Int.reduceNeg, Int.reduceToNat, Int.reduceAdd, Int.reduceSub, eqAv]
    exact ((TabLe.refl T).put hid).fin
  | some e =>
    obtain ⟨t, v, he⟩ := e.ifc
    have ca := fun (T : Tab) id old hT => ac_errorsAs (T := T) (id := id) (old := old) e hT
    simp only [erAv, erCode, he] at ca ⊢
    simp -implicitDefEqProofs -dsimp only [go_sem, Nat.reduceEqDiff, Nat.reduceAdd, Nat.reduceMul, Nat.reduceSub, Nat.reduceLT, Nat.reduceLeDiff, Nat.reduceBEq, reduceIte, reduceCtorEq, Int.reduceLT, Int.reduceLE, Int.reduceEq, Int.reduceNeg, Int.reduceToNat, Int.reduceAdd, Int.reduceSub, eqAv]
    intro id hid
    refine aft_nil ?_
    simp -implicitDefEqProofs -dsimp only [go_sem, Nat.reduceEqDiff, Nat.reduceAdd, Nat.reduceMul, Nat.reduceSub, Nat.reduceLT, Nat.reduceLeDiff, Nat.reduceBEq, reduceIte, reduceCtorEq, Int.reduceLT, Int.reduceLE, Int.reduceEq, Int.reduceNeg, Int.reduceToNat, Int.reduceAdd, Int.reduceSub, eqAv, ↓g_call _ _ c_errors_As]
    refine CallK.as (ca _ id 0 (Tab.put_same ..)) (aft_nil ?_)
    simp -implicitDefEqProofs -dsimp only [go_sem, Nat.reduceEqDiff, Nat.reduceAdd, Nat.reduceMul, Nat.reduceSub, Nat.reduceLT, Nat.reduceLeDiff, Nat.reduceBEq, reduceIte, reduceCtorEq, Int.reduceLT, Int.reduceLE, Int.reduceEq, Int.reduceNeg, Int.reduceToNat, Int.reduceAdd, Int.reduceSub, Tab.put_same]
    rw [Tab.put_put]
    exact ((TabLe.refl T).put hid).fin

theorem pc_fIn (w : List UInt8) (e : Er) : PCalls prog f_fault_In [.s w, e.av] (fault w e.av) := by
  refine pcalls_of mixed t_fault_In (by simp) fun T => ?_
  obtain ⟨t, v, he⟩ := e.ifc
  rw [he]
  unfold s_fault_In
  simp -implicitDefEqProofs -dsimp only [go_sem, Nat.reduceEqDiff, Nat.reduceAdd, Nat.reduceMul, Nat.reduceSub, Nat.reduceLT, Nat.reduceLeDiff, Nat.reduceBEq, reduceIte, reduceCtorEq, Int.reduceLT, Int.reduceLE, Int.reduceEq, Int.reduceNeg, Int.reduceToNat, Int.reduceAdd, Int.reduceSub, eqAv]
  intro id hid
  refine aft_nil ?_
  simp -implicitDefEqProofs -dsimp only [go_sem, Nat.reduceEqDiff, Nat.reduceAdd, Nat.reduceMul, Nat.reduceSub, Nat.reduceLT, Nat.reduceLeDiff, Nat.reduceBEq, reduceIte, reduceCtorEq, Int.reduceLT, Int.reduceLE, Int.reduceEq, Int.reduceNeg, Int.reduceToNat, Int.reduceAdd, Int.reduceSub]
  refine ⟨[id], T, _, by simp, by simp [Tab.put_same], fun j => ?_, ?_, rfl, rfl⟩
  · simp only [kill]
    rw [Tab.put_put, Tab.put_self hid]; exact .inr (.inl rfl)
  · simp only [frzt, frzv, frz1, List.mem_singleton, if_true, Tab.put_same, List.drop_zero]
    exact .refl _
end Go.Aw
