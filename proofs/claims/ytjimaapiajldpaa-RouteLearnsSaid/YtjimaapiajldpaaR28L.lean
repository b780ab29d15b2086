import Derived.Test.YtjimaapiajldpaaR28K
namespace Go.Aw
open Go
open Go.Proofs.Try (prog)
set_option linter.all false
set_option maxHeartbeats 4000000

theorem pc_Reader_nil (k : List UInt8) (n : Int) : PCalls prog f_route_Route_Reader [.nilptr, .s k, .i .i64 n] (.tup [.i .i64 (-1), .b false]) := by
  refine pcalls_of mixed t_route_Route_Reader (by simp) fun T => ?_
  unfold s_route_Route_Reader
  simp -implicitDefEqProofs -dsimp only [go_sem, Nat.reduceEqDiff, Nat.reduceAdd, Nat.reduceMul, Nat.reduceSub, Nat.reduceLT, Nat.reduceLeDiff, Nat.reduceBEq, reduceIte, reduceCtorEq, Int.reduceLT, Int.reduceLE, Int.reduceEq, Int.reduceNeg, Int.reduceToNat, Int.reduceAdd, Int.reduceSub, ↓g_gdc, rcOk, true_and]
  exact finL_pure rfl
theorem pc_Writer_nil : PCalls prog f_route_Route_Writer [.nilptr, .agg [.i .i64 0, .i .u64 0, .b false, .fz 0 [] (some 0), .fz 0 [] (some 0)]] (.tup [.i .i64 (-1), .b false]) := by
  refine pcalls_of mixed t_route_Route_Writer (by simp) fun T => ?_
  unfold s_route_Route_Writer
  simp -implicitDefEqProofs -dsimp only [go_sem, Nat.reduceEqDiff, Nat.reduceAdd, Nat.reduceMul, Nat.reduceSub, Nat.reduceLT, Nat.reduceLeDiff, Nat.reduceBEq, reduceIte, reduceCtorEq, Int.reduceLT, Int.reduceLE, Int.reduceEq, Int.reduceNeg, Int.reduceToNat, Int.reduceAdd, Int.reduceSub, ↓g_gdc, rcOk, true_and]
  exact finL_pure rfl

/-- The example's route. -/
def exL : List Cf := cfs0 2 2
theorem exL_eq : cfsC exL = [.i .u64 1, .i .i64 0, .fz 2 [.i .i64 0, .i .i64 1] none, .fz 2 [.b true, .b true] none, .i .i64 (-1), .i .u64 2, .i .i64 1, .fz 2 [.i .i64 2, .i .i64 3] none, .fz 2 [.b true, .b true] none, .i .i64 (-1)] := rfl
theorem ac_Reader_a {T : Tab} {id idL : Nat} (hR : Rt T id idL exL) (n : Int) (m : Nat) (hm : m < 2) (h1 : IntKind.i64.wrap (Int.tmod n 2) = Int.tmod n 2) (h2 : IntKind.i64.wrap (Int.tmod n 2 + 2) = Int.tmod n 2 + 2) (h3 : IntKind.i64.wrap (Int.tmod (Int.tmod n 2 + 2) 2) = m) (h4 : Int.tmod (Int.tmod n 2 + 2) 2 = m) :
    ACalls prog f_route_Route_Reader [.ptr id 0, .s [97], .i .i64 n] T (fun r T' => r = .tup [.i .i64 m, .b true] ∧ T' = T) := by
  obtain ⟨t1, t2⟩ := hR
  have e2 : exL.length = 2 := rfl
  rw [exL_eq] at t2
  rw [e2] at t1
  refine acalls_of mixed t_route_Route_Reader (by simp) ?_
  unfold s_route_Route_Reader
  simp -implicitDefEqProofs -dsimp only [go_sem, Nat.reduceEqDiff, Nat.reduceAdd, Nat.reduceMul, Nat.reduceSub, Nat.reduceLT, Nat.reduceLeDiff, Nat.reduceBEq, reduceIte, reduceCtorEq, Int.reduceLT, Int.reduceLE, Int.reduceEq, Int.reduceNeg, Int.reduceToNat, Int.reduceAdd, Int.reduceSub, ↓g_gdc, ↓g_call _ _ c_keys_Right]
  refine CallK.pure pc_Right_a (aft_nil ?_)
  simp -implicitDefEqProofs -dsimp only [go_sem, Nat.reduceEqDiff, Nat.reduceAdd, Nat.reduceMul, Nat.reduceSub, Nat.reduceLT, Nat.reduceLeDiff, Nat.reduceBEq, reduceIte, reduceCtorEq, Int.reduceLT, Int.reduceLE, Int.reduceEq, Int.reduceNeg, Int.reduceToNat, Int.reduceAdd, Int.reduceSub, t1, show ((2 : Nat) : Int) = 2 from rfl, ↓g_call _ _ c_keys_Shard]
  refine CallK.pure pc_Shard_a (aft_rc (fun _ => ⟨?_, trivial⟩) ?_)
  · simp -implicitDefEqProofs -dsimp only [go_sem, Nat.reduceEqDiff, Nat.reduceAdd, Nat.reduceMul, Nat.reduceSub, Nat.reduceLT, Nat.reduceLeDiff, Nat.reduceBEq, reduceIte, reduceCtorEq, Int.reduceLT, Int.reduceLE, Int.reduceEq, Int.reduceNeg, Int.reduceToNat, Int.reduceAdd, Int.reduceSub, gvev, gdd, t1]
  have z1 : ((2 : Int) = 0) = False := by simp
  have z2 : m * 1 + 1 ≤ 2 := by omega
  have z3 : (0 : Int).toNat = 0 := rfl
  have z4 : ((m : Int) < 2) = True := by simp; omega
  simp -implicitDefEqProofs -dsimp only [go_sem, Nat.reduceEqDiff, Nat.reduceAdd, Nat.reduceMul, Nat.reduceSub, Nat.reduceLT, Nat.reduceLeDiff, Nat.reduceBEq, reduceIte, reduceCtorEq, Int.reduceLT, Int.reduceLE, Int.reduceEq, Int.reduceNeg, Int.reduceToNat, Int.reduceAdd, Int.reduceSub, t2, h1, h2, h3, h4, z1, z3, z4, Int.natCast_nonneg, Int.toNat_natCast, show ((2 : Nat) : Int) = 2 from rfl]
  have hm2 : m = 0 ∨ m = 1 := by omega
  rcases hm2 with rfl | rfl
  · simp -implicitDefEqProofs -dsimp only [go_sem, Nat.reduceEqDiff, Nat.reduceAdd, Nat.reduceMul, Nat.reduceSub, Nat.reduceLT, Nat.reduceLeDiff, Nat.reduceBEq, reduceIte, reduceCtorEq, Int.reduceLT, Int.reduceLE, Int.reduceEq, Int.reduceNeg, Int.reduceToNat, Int.reduceAdd, Int.reduceSub]
    exact fin_as (.refl _) rfl
  · simp -implicitDefEqProofs -dsimp only [go_sem, Nat.reduceEqDiff, Nat.reduceAdd, Nat.reduceMul, Nat.reduceSub, Nat.reduceLT, Nat.reduceLeDiff, Nat.reduceBEq, reduceIte, reduceCtorEq, Int.reduceLT, Int.reduceLE, Int.reduceEq, Int.reduceNeg, Int.reduceToNat, Int.reduceAdd, Int.reduceSub]
    exact fin_as (.refl _) rfl

theorem pc_awake : PCalls prog f_sautoirlaw28_awake [] (.b true) := by
  refine pcalls_of mixed t_sautoirlaw28_awake (by simp) fun T => ?_
  unfold s_sautoirlaw28_awake
  have hs : sok ((2 : Nat) : Int) ((2 : Nat) : Int) 5 = true := by decide
  have hN : ACalls prog f_route_New [.agg [.i .i64 2, .i .i64 2, .i .i64 5]] T (RnQ T 2 2) := ac_route_New (T := T) hs
  simp -implicitDefEqProofs -dsimp only [go_sem, Nat.reduceEqDiff, Nat.reduceAdd, Nat.reduceMul, Nat.reduceSub, Nat.reduceLT, Nat.reduceLeDiff, Nat.reduceBEq, reduceIte, reduceCtorEq, Int.reduceLT, Int.reduceLE, Int.reduceEq, Int.reduceNeg, Int.reduceToNat, Int.reduceAdd, Int.reduceSub, ↓g_call _ _ c_route_New]
  refine CallK.of hN (fun r T1 ⟨id, idL, e1, hR, hu, hle⟩ => aft_nil ?_)
  subst e1
  simp -implicitDefEqProofs -dsimp only [go_sem, Nat.reduceEqDiff, Nat.reduceAdd, Nat.reduceMul, Nat.reduceSub, Nat.reduceLT, Nat.reduceLeDiff, Nat.reduceBEq, reduceIte, reduceCtorEq, Int.reduceLT, Int.reduceLE, Int.reduceEq, Int.reduceNeg, Int.reduceToNat, Int.reduceAdd, Int.reduceSub, ↓g_call _ _ c_route_Route_Reader]
  refine CallK.as (ac_Reader_a (T := T1) hR 0 0 (by omega) (by decide) (by decide) (by decide) (by decide)) (aft_nil ?_)
  simp -implicitDefEqProofs -dsimp only [go_sem, Nat.reduceEqDiff, Nat.reduceAdd, Nat.reduceMul, Nat.reduceSub, Nat.reduceLT, Nat.reduceLeDiff, Nat.reduceBEq, reduceIte, reduceCtorEq, Int.reduceLT, Int.reduceLE, Int.reduceEq, Int.reduceNeg, Int.reduceToNat, Int.reduceAdd, Int.reduceSub, ↓g_call _ _ c_route_Route_Reader]
  refine CallK.as (ac_Reader_a (T := T1) hR 3 1 (by omega) (by decide) (by decide) (by decide) (by decide)) (aft_nil ?_)
  simp -implicitDefEqProofs -dsimp only [go_sem, Nat.reduceEqDiff, Nat.reduceAdd, Nat.reduceMul, Nat.reduceSub, Nat.reduceLT, Nat.reduceLeDiff, Nat.reduceBEq, reduceIte, reduceCtorEq, Int.reduceLT, Int.reduceLE, Int.reduceEq, Int.reduceNeg, Int.reduceToNat, Int.reduceAdd, Int.reduceSub, decide_true, decide_false, show ((0 : Nat) : Int) = 0 from rfl, show ((1 : Nat) : Int) = 1 from rfl]
  exact finL_of T hle ⟨rfl, rfl⟩

theorem pc_RouteNil (k : List UInt8) (n : Int) : PCalls prog f_sautoirlaw28_RouteNil [.s k, .i .i64 n] (.b true) := by
  refine pcalls_of mixed t_sautoirlaw28_RouteNil (by simp) fun T => ?_
  unfold s_sautoirlaw28_RouteNil
  simp -implicitDefEqProofs -dsimp only [go_sem, Nat.reduceEqDiff, Nat.reduceAdd, Nat.reduceMul, Nat.reduceSub, Nat.reduceLT, Nat.reduceLeDiff, Nat.reduceBEq, reduceIte, reduceCtorEq, Int.reduceLT, Int.reduceLE, Int.reduceEq, Int.reduceNeg, Int.reduceToNat, Int.reduceAdd, Int.reduceSub, ↓g_call _ _ c_route_Route_Conf]
  refine CallK.pure (pc_Conf_nil n) (aft_nil ?_)
  simp -implicitDefEqProofs -dsimp only [go_sem, Nat.reduceEqDiff, Nat.reduceAdd, Nat.reduceMul, Nat.reduceSub, Nat.reduceLT, Nat.reduceLeDiff, Nat.reduceBEq, reduceIte, reduceCtorEq, Int.reduceLT, Int.reduceLE, Int.reduceEq, Int.reduceNeg, Int.reduceToNat, Int.reduceAdd, Int.reduceSub, Cf.cells, Cf.nil, ↓g_call _ _ c_route_Route_Reader]
  refine CallK.pure (pc_Reader_nil k n) (aft_nil ?_)
  simp -implicitDefEqProofs -dsimp only [go_sem, Nat.reduceEqDiff, Nat.reduceAdd, Nat.reduceMul, Nat.reduceSub, Nat.reduceLT, Nat.reduceLeDiff, Nat.reduceBEq, reduceIte, reduceCtorEq, Int.reduceLT, Int.reduceLE, Int.reduceEq, Int.reduceNeg, Int.reduceToNat, Int.reduceAdd, Int.reduceSub, ↓g_call _ _ c_route_Route_Writer]
  refine CallK.pure pc_Writer_nil (aft_nil ?_)
  simp -implicitDefEqProofs -dsimp only [go_sem, Nat.reduceEqDiff, Nat.reduceAdd, Nat.reduceMul, Nat.reduceSub, Nat.reduceLT, Nat.reduceLeDiff, Nat.reduceBEq, reduceIte, reduceCtorEq, Int.reduceLT, Int.reduceLE, Int.reduceEq, Int.reduceNeg, Int.reduceToNat, Int.reduceAdd, Int.reduceSub, decide_true, decide_false, ↓g_gdc, ↓g_call _ _ c_route_Route_Learn]
  refine CallK.pure pc_Learn_nil (aft_nil ?_)
  simp -implicitDefEqProofs -dsimp only [go_sem, Nat.reduceEqDiff, Nat.reduceAdd, Nat.reduceMul, Nat.reduceSub, Nat.reduceLT, Nat.reduceLeDiff, Nat.reduceBEq, reduceIte, reduceCtorEq, Int.reduceLT, Int.reduceLE, Int.reduceEq, Int.reduceNeg, Int.reduceToNat, Int.reduceAdd, Int.reduceSub, decide_true, decide_false, ↓g_gdc, ↓g_call _ _ c_sautoirlaw28_awake]
  refine CallK.pure pc_awake (aft_nil ?_)
  simp -implicitDefEqProofs -dsimp only [go_sem, Nat.reduceEqDiff, Nat.reduceAdd, Nat.reduceMul, Nat.reduceSub, Nat.reduceLT, Nat.reduceLeDiff, Nat.reduceBEq, reduceIte, reduceCtorEq, Int.reduceLT, Int.reduceLE, Int.reduceEq, Int.reduceNeg, Int.reduceToNat, Int.reduceAdd, Int.reduceSub]
  exact finL_pure rfl
end Go.Aw
