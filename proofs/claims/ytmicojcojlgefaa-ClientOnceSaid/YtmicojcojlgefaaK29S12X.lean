import Derived.Test.YtmicojcojlgefaaK29S12Q
namespace Go.Aw
open Go
open Go.Proofs.Try (prog)
set_option linter.all false
set_option maxHeartbeats 4000000

/-! Entries. -/
structure En where
  ep : Int
  kd : Int
  t : Tx
  cl : Int
  sq : Int
  co : Int
def En.cells (e : En) (k1 k2 : Option Nat) : List AV :=
  [.i .u64 e.ep, .i .i64 e.kd, .i .i64 e.t.cl, .i .u64 e.t.sq, .b e.t.pl, .fz e.t.rs.length (e.t.rs.flatMap rdC) k1, .fz e.t.ws.length (e.t.ws.flatMap wtC) k2, .i .i64 e.cl, .i .u64 e.sq, .i .i64 e.co]
def En.our (e : En) : En := { e with t := e.t.our }

theorem pc_Ours12 (e : En) (k1 k2 : Option Nat) (hf : e.t.Wide) : PCalls prog f_sautoirlaw12_Ours [.agg (e.cells k1 k2)] (.agg (e.our.cells none none)) := by
  refine pcalls_of mixed t_sautoirlaw12_Ours (by simp) fun T => ?_
  have h := pc_OurTxn e.t k1 k2 hf
  simp only [Tx.cells] at h
  unfold s_sautoirlaw12_Ours
  simp -implicitDefEqProofs -dsimp only [go_sem, seval, En.cells, ↓g_call _ _ c_sautoirlaw12_OurTxn]
  refine CallK.pure h (aft_nil ?_)
  simp -implicitDefEqProofs -dsimp only [go_sem, seval]
  exact finL_pure rfl
def noOk (t : Tx) : Bool := decide (t.cl = 0) && decide (t.sq = 0) && !t.pl && decide ((t.rs.length : Int) + t.ws.length = 0)
theorem pc_none (t : Tx) (k1 k2 : Option Nat) (hf : t.Fine) : PCalls prog f_entry_Txn_none [.agg (t.cells k1 k2)] (.b (noOk t)) := by
  refine pcalls_of mixed t_entry_Txn_none (by simp) fun T => ?_
  have h1 := hf.r
  have h2 := hf.w
  have w1 : IntKind.i64.wrap ((t.rs.length : Int) + t.ws.length) = (t.rs.length : Int) + t.ws.length := wrap_i64 (by unfold I64; omega)
  unfold s_entry_Txn_none
  simp -implicitDefEqProofs -dsimp only [go_sem, seval, Tx.cells, w1, aggEq, scalarEq, Bool.and_true]
  (first | (apply br_split <;> intro h_1 <;> simp -implicitDefEqProofs -dsimp only [go_sem, seval, w1, decide_true, decide_false, h_1]) | (have h_1 := trivial)) <;>
    (first | (apply br_split <;> intro h_2 <;> simp -implicitDefEqProofs -dsimp only [go_sem, seval, w1, decide_true, decide_false, h_1, h_2]) | (have h_2 := trivial)) <;>
    (first | (apply br_split <;> intro h_3 <;> simp -implicitDefEqProofs -dsimp only [go_sem, seval, w1, decide_true, decide_false, h_1, h_2, h_3]) | (have h_3 := trivial)) <;>
    (first | (apply br_split <;> intro h_4 <;> simp -implicitDefEqProofs -dsimp only [go_sem, seval, w1, decide_true, decide_false, h_1, h_2, h_3, h_4]) | (have h_4 := trivial))
  all_goals
    refine finL_pure ?_
    simp only [noOk, *, Bool.not_true, Bool.not_false, Bool.true_and, Bool.false_and, Bool.and_false, Bool.and_true]

def coOk (c : Int) : Bool := decide (c = 0) || (decide (c = 8) || decide (c = 11))
def enOk (e : En) : Bool :=
  !decide (e.ep = 0) && (if decide (e.kd = 1) then txOk e.t && (decide (e.cl = 0) && decide (e.sq = 0)) && decide (e.co = 0)
    else decide (e.kd = 2) && (noOk e.t && idOk e.cl e.sq && coOk e.co))

theorem pc_enRight (e : En) (k1 k2 : Option Nat) (hf : e.t.Fine) : PCalls prog f_entry_Right [.agg (e.cells k1 k2)] (.b (enOk e)) := by
  refine pcalls_of mixed t_entry_Right (by simp) fun T => ?_
  have c1 := pc_RightTxn e.t k1 k2 hf
  have c2 := pc_none e.t k1 k2 hf
  simp only [Tx.cells] at c1 c2
  unfold s_entry_Right
  rcases h1 : decide (e.ep = 0) with _ | _
  case true =>
    simp -implicitDefEqProofs -dsimp only [go_sem, seval, En.cells, h1]
    exact finL_pure (by rw [enOk, h1]; rfl)
  rcases h2 : decide (e.kd = 1) with _ | _
  case true =>
    simp -implicitDefEqProofs -dsimp only [go_sem, seval, En.cells, h1, h2, ↓g_call _ _ c_entry_RightTxn]
    refine CallK.pure c1 (aft_nil ?_)
    rcases h3 : txOk e.t with _ | _
    · simp -implicitDefEqProofs -dsimp only [go_sem, seval, h3, decide_true, decide_false]
      exact finL_pure (by simp only [enOk, h1, h2, h3, if_true, Bool.false_and, Bool.and_false])
    rcases h4 : (decide (e.cl = 0) && decide (e.sq = 0)) with _ | _
    · simp -implicitDefEqProofs -dsimp only [go_sem, seval, h3, h4, aggEq, scalarEq, Bool.and_true, decide_true, decide_false]
      exact finL_pure (by simp only [enOk, h1, h2, h3, h4, if_true, Bool.false_and, Bool.and_false, Bool.true_and])
    · simp -implicitDefEqProofs -dsimp only [go_sem, seval, h3, h4, aggEq, scalarEq, Bool.and_true, decide_true, decide_false]
      exact finL_pure (by simp only [enOk, h1, h2, h3, h4, if_true, Bool.false_and, Bool.and_false, Bool.true_and, Bool.not_false])
  rcases h3 : decide (e.kd = 2) with _ | _
  · simp -implicitDefEqProofs -dsimp only [go_sem, seval, En.cells, h1, h2, h3]
    exact finL_pure (by simp only [enOk, h1, h2, h3, Bool.false_eq_true, if_false, Bool.false_and, Bool.and_false])
  simp -implicitDefEqProofs -dsimp only [go_sem, seval, En.cells, h1, h2, h3, ↓g_call _ _ c_entry_Txn_none]
  refine CallK.pure c2 (aft_nil ?_)
  rcases h4 : noOk e.t with _ | _
  · simp -implicitDefEqProofs -dsimp only [go_sem, seval, h4, decide_true, decide_false, ↓g_gdc, rcOk, true_and]
    exact finL_pure (by simp only [enOk, h1, h2, h3, h4, Bool.false_eq_true, if_false, Bool.false_and, Bool.and_false, Bool.true_and])
  simp -implicitDefEqProofs -dsimp only [go_sem, seval, h4, decide_true, decide_false, ↓g_gdc, rcOk, true_and, ↓g_call _ _ c_entry_RightID]
  refine CallK.pure (pc_RightID e.cl e.sq) (aft_nil ?_)
  rcases h5 : idOk e.cl e.sq with _ | _
  · simp -implicitDefEqProofs -dsimp only [go_sem, seval, h4, h5, decide_true, decide_false, ↓g_gdc, rcOk, true_and]
    exact finL_pure (by simp only [enOk, h1, h2, h3, h4, h5, Bool.false_eq_true, if_false, Bool.false_and, Bool.and_false, Bool.true_and])
  rcases h6 : decide (e.co = 0) with _ | _
  · rcases h7 : decide (e.co = 8) with _ | _
    all_goals
      simp -implicitDefEqProofs -dsimp only [go_sem, seval, h4, h5, h6, h7, decide_true, decide_false, ↓g_gdc, rcOk, true_and]
      exact finL_pure (by simp only [enOk, coOk, h1, h2, h3, h4, h5, h6, h7, Bool.false_eq_true, if_false, Bool.false_and, Bool.and_false, Bool.true_and, Bool.false_or, Bool.true_or, Bool.not_false])
  · simp -implicitDefEqProofs -dsimp only [go_sem, seval, h4, h5, h6, decide_true, decide_false, ↓g_gdc, rcOk, true_and]
    exact finL_pure (by simp only [enOk, coOk, h1, h2, h3, h4, h5, h6, Bool.false_eq_true, if_false, Bool.false_and, Bool.and_false, Bool.true_and, Bool.false_or, Bool.true_or, Bool.not_false])

end Go.Aw

namespace Go.Aw
open Go
open Go.Proofs.Try (prog)
set_option linter.all false
set_option maxHeartbeats 4000000

end Go.Aw

namespace Go.Aw
open Go
open Go.Proofs.Try (prog)
set_option linter.all false
set_option maxHeartbeats 4000000

end Go.Aw

