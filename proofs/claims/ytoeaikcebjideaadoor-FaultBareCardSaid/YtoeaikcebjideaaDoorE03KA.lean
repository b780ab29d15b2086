import Derived.Test.YtoeaikcebjideaaDoorE03J
namespace Go.Aw
open Go
open Go.Proofs.Tryd (prog)
open Go.Proofs
set_option linter.all false
set_option maxHeartbeats 4000000

theorem c_errors_Is : callable prog f_errors_Is = true := by kernel_rfl
theorem ac_Is {T : Tab} (e : Er) (m : Int) : ACalls prog f_errors_Is [e.av, errno m] T (fun v T' => v = .b (decide (e.code = m)) ∧ T' = T) := by
  intro X lam w cargs hr hv
  simp only [vrs, errno] at hv
  obtain ⟨v1, us1, rfl, h1, v2, us2, rfl, h2, rfl⟩ := hv
  obtain ⟨k, hc⟩ := e.chain v1 h1
  simp only [vr] at h2
  obtain ⟨u1, rfl, rfl⟩ := h2
  refine (Is_calls v1 e.code m k w hc).mono ?_
  rintro ev w' ⟨rfl, rfl⟩
  exact ⟨_, .b (decide (e.code = m)), T, X, lam, rfl, ⟨rfl, rfl⟩, by simp [vr]; rfl, hr, .refl X T w'⟩
theorem pc_IsNil (m : Int) : PCalls prog f_fault_Is [.nilifc, .i .i64 m] (.b false) := by
  refine pcalls_of mixed t_fault_Is (by simp) fun T => ?_
  unfold s_fault_Is
  simp -implicitDefEqProofs -dsimp only [go_sem, Nat.reduceEqDiff, Nat.reduceAdd, Nat.reduceMul, Nat.reduceSub, Nat.reduceLT, Nat.reduceLeDiff, Nat.reduceBEq, reduceIte, reduceCtorEq, Int.reduceLT, Int.reduceLE, Int.reduceEq, Int.reduceNeg, Int.reduceToNat, Int.reduceAdd, Int.reduceSub]
  exact finL_pure rfl
theorem pc_Is (e : Er) (m : Int) : PCalls prog f_fault_Is [e.av, .i .i64 m] (.b (decide (e.code = m))) := by
  refine pcalls_of mixed t_fault_Is (by simp) fun T => ?_
  have ci := fun (T : Tab) => ac_Is (T := T) e m
  obtain ⟨te, ve, hev⟩ := e.ifc
  simp only [hev, errno, tErrno] at ci ⊢
  unfold s_fault_Is
  simp -implicitDefEqProofs -dsimp only [go_sem, Nat.reduceEqDiff, Nat.reduceAdd, Nat.reduceMul, Nat.reduceSub, Nat.reduceLT, Nat.reduceLeDiff, Nat.reduceBEq, reduceIte, reduceCtorEq, Int.reduceLT, Int.reduceLE, Int.reduceEq, Int.reduceNeg, Int.reduceToNat, Int.reduceAdd, Int.reduceSub, eqAv, ↓g_gdc, rcOk, true_and, ↓g_call _ _ c_errors_Is]
  refine CallK.as (ci _) (aft_nil ?_)
  simp -implicitDefEqProofs -dsimp only [go_sem, Nat.reduceEqDiff, Nat.reduceAdd, Nat.reduceMul, Nat.reduceSub, Nat.reduceLT, Nat.reduceLeDiff, Nat.reduceBEq, reduceIte, reduceCtorEq, Int.reduceLT, Int.reduceLE, Int.reduceEq, Int.reduceNeg, Int.reduceToNat, Int.reduceAdd, Int.reduceSub]
  exact finL_pure rfl

end Go.Aw
