import Derived.Test.YteiamcnjlpbihaaL17S12Q
import Derived.Test.YteiamcnjlpbihaaL17S12R
namespace Go.Aw
open Go
open Go.Proofs.Try (prog)
set_option linter.all false
set_option maxHeartbeats 4000000

/-! Entries. -/
structure En where
  ep : Int
  kd : Int
  t : Tx
  cl : Int
  sq : Int
  co : Int
def En.cells (e : En) (k1 k2 : Option Nat) : List AV :=
  [.i .u64 e.ep, .i .i64 e.kd, .i .i64 e.t.cl, .i .u64 e.t.sq, .b e.t.pl, .fz e.t.rs.length (e.t.rs.flatMap rdC) k1, .fz e.t.ws.length (e.t.ws.flatMap wtC) k2, .i .i64 e.cl, .i .u64 e.sq, .i .i64 e.co]
def En.our (e : En) : En := { e with t := e.t.our }

theorem pc_Ours12 (e : En) (k1 k2 : Option Nat) (hf : e.t.Wide) : PCalls prog f_sautoirlaw12_Ours [.agg (e.cells k1 k2)] (.agg (e.our.cells none none)) := by
  refine pcalls_of mixed t_sautoirlaw12_Ours (by simp) fun T => ?_
  have h := pc_OurTxn e.t k1 k2 hf
  simp only [Tx.cells] at h
  unfold s_sautoirlaw12_Ours
  simp -implicitDefEqProofs -dsimp only [go_sem, seval, En.cells, ↓g_call _ _ c_sautoirlaw12_OurTxn]
  refine CallK.pure h (aft_nil ?_)
  simp -implicitDefEqProofs -dsimp only [go_sem, seval]
  exact finL_pure rfl
theorem pc_Plain12 (e : En) (k1 k2 : Option Nat) (hf : e.t.Fine) : PCalls prog f_sautoirlaw12_Plain [.agg (e.cells k1 k2)] (.agg (e.cells none none)) := by
  refine pcalls_of mixed t_sautoirlaw12_Plain (by simp) fun T => ?_
  have h := pc_PlainTxn e.t k1 k2 hf
  simp only [Tx.cells] at h
  unfold s_sautoirlaw12_Plain
  simp -implicitDefEqProofs -dsimp only [go_sem, seval, En.cells, ↓g_call _ _ c_sautoirlaw12_PlainTxn]
  refine CallK.pure h (aft_nil ?_)
  simp -implicitDefEqProofs -dsimp only [go_sem, seval]
  exact finL_pure rfl

def noOk (t : Tx) : Bool := decide (t.cl = 0) && decide (t.sq = 0) && !t.pl && decide ((t.rs.length : Int) + t.ws.length = 0)
theorem pc_none (t : Tx) (k1 k2 : Option Nat) (hf : t.Fine) : PCalls prog f_entry_Txn_none [.agg (t.cells k1 k2)] (.b (noOk t)) := by
  refine pcalls_of mixed t_entry_Txn_none (by simp) fun T => ?_
  have h1 := hf.r
  have h2 := hf.w
  have w1 : IntKind.i64.wrap ((t.rs.length : Int) + t.ws.length) = (t.rs.length : Int) + t.ws.length := wrap_i64 (by unfold I64; omega)
  unfold s_entry_Txn_none
  simp -implicitDefEqProofs -dsimp only [go_sem, seval, Tx.cells, w1, aggEq, scalarEq, Bool.and_true]
  (first | (apply br_split <;> intro h_1 <;> simp -implicitDefEqProofs -dsimp only [go_sem, seval, w1, decide_true, decide_false, h_1]) | (have h_1 := trivial)) <;>
    (first | (apply br_split <;> intro h_2 <;> simp -implicitDefEqProofs -dsimp only [go_sem, seval, w1, decide_true, decide_false, h_1, h_2]) | (have h_2 := trivial)) <;>
    (first | (apply br_split <;> intro h_3 <;> simp -implicitDefEqProofs -dsimp only [go_sem, seval, w1, decide_true, decide_false, h_1, h_2, h_3]) | (have h_3 := trivial)) <;>
    (first | (apply br_split <;> intro h_4 <;> simp -implicitDefEqProofs -dsimp only [go_sem, seval, w1, decide_true, decide_false, h_1, h_2, h_3, h_4]) | (have h_4 := trivial))
  all_goals
    refine finL_pure ?_
    simp only [noOk, *, Bool.not_true, Bool.not_false, Bool.true_and, Bool.false_and, Bool.and_false, Bool.and_true]

def coOk (c : Int) : Bool := decide (c = 0) || (decide (c = 8) || decide (c = 11))
def enOk (e : En) : Bool :=
  !decide (e.ep = 0) && (if decide (e.kd = 1) then txOk e.t && (decide (e.cl = 0) && decide (e.sq = 0)) && decide (e.co = 0)
    else decide (e.kd = 2) && (noOk e.t && idOk e.cl e.sq && coOk e.co))

theorem pc_enRight (e : En) (k1 k2 : Option Nat) (hf : e.t.Fine) : PCalls prog f_entry_Right [.agg (e.cells k1 k2)] (.b (enOk e)) := by
  refine pcalls_of mixed t_entry_Right (by simp) fun T => ?_
  have c1 := pc_RightTxn e.t k1 k2 hf
  have c2 := pc_none e.t k1 k2 hf
  simp only [Tx.cells] at c1 c2
  unfold s_entry_Right
  rcases h1 : decide (e.ep = 0) with _ | _
  case true =>
    simp -implicitDefEqProofs -dsimp only [go_sem, seval, En.cells, h1]
    exact finL_pure (by rw [enOk, h1]; rfl)
  rcases h2 : decide (e.kd = 1) with _ | _
  case true =>
    simp -implicitDefEqProofs -dsimp only [go_sem, seval, En.cells, h1, h2, ↓g_call _ _ c_entry_RightTxn]
    refine CallK.pure c1 (aft_nil ?_)
    rcases h3 : txOk e.t with _ | _
    · simp -implicitDefEqProofs -dsimp only [go_sem, seval, h3, decide_true, decide_false]
      exact finL_pure (by simp only [enOk, h1, h2, h3, if_true, Bool.false_and, Bool.and_false])
    rcases h4 : (decide (e.cl = 0) && decide (e.sq = 0)) with _ | _
    · simp -implicitDefEqProofs -dsimp only [go_sem, seval, h3, h4, aggEq, scalarEq, Bool.and_true, decide_true, decide_false]
      exact finL_pure (by simp only [enOk, h1, h2, h3, h4, if_true, Bool.false_and, Bool.and_false, Bool.true_and])
    · simp -implicitDefEqProofs -dsimp only [go_sem, seval, h3, h4, aggEq, scalarEq, Bool.and_true, decide_true, decide_false]
      exact finL_pure (by simp only [enOk, h1, h2, h3, h4, if_true, Bool.false_and, Bool.and_false, Bool.true_and, Bool.not_false])
  rcases h3 : decide (e.kd = 2) with _ | _
  · simp -implicitDefEqProofs -dsimp only [go_sem, seval, En.cells, h1, h2, h3]
    exact finL_pure (by simp only [enOk, h1, h2, h3, Bool.false_eq_true, if_false, Bool.false_and, Bool.and_false])
  simp -implicitDefEqProofs -dsimp only [go_sem, seval, En.cells, h1, h2, h3, ↓g_call _ _ c_entry_Txn_none]
  refine CallK.pure c2 (aft_nil ?_)
  rcases h4 : noOk e.t with _ | _
  · simp -implicitDefEqProofs -dsimp only [go_sem, seval, h4, decide_true, decide_false, ↓g_gdc, rcOk, true_and]
    exact finL_pure (by simp only [enOk, h1, h2, h3, h4, Bool.false_eq_true, if_false, Bool.false_and, Bool.and_false, Bool.true_and])
  simp -implicitDefEqProofs -dsimp only [go_sem, seval, h4, decide_true, decide_false, ↓g_gdc, rcOk, true_and, ↓g_call _ _ c_entry_RightID]
  refine CallK.pure (pc_RightID e.cl e.sq) (aft_nil ?_)
  rcases h5 : idOk e.cl e.sq with _ | _
  · simp -implicitDefEqProofs -dsimp only [go_sem, seval, h4, h5, decide_true, decide_false, ↓g_gdc, rcOk, true_and]
    exact finL_pure (by simp only [enOk, h1, h2, h3, h4, h5, Bool.false_eq_true, if_false, Bool.false_and, Bool.and_false, Bool.true_and])
  rcases h6 : decide (e.co = 0) with _ | _
  · rcases h7 : decide (e.co = 8) with _ | _
    all_goals
      simp -implicitDefEqProofs -dsimp only [go_sem, seval, h4, h5, h6, h7, decide_true, decide_false, ↓g_gdc, rcOk, true_and]
      exact finL_pure (by simp only [enOk, coOk, h1, h2, h3, h4, h5, h6, h7, Bool.false_eq_true, if_false, Bool.false_and, Bool.and_false, Bool.true_and, Bool.false_or, Bool.true_or, Bool.not_false])
  · simp -implicitDefEqProofs -dsimp only [go_sem, seval, h4, h5, h6, decide_true, decide_false, ↓g_gdc, rcOk, true_and]
    exact finL_pure (by simp only [enOk, coOk, h1, h2, h3, h4, h5, h6, Bool.false_eq_true, if_false, Bool.false_and, Bool.and_false, Bool.true_and, Bool.false_or, Bool.true_or, Bool.not_false])

theorem pc_rEnRight (e : En) (k1 k2 : Option Nat) (hf : e.t.Fine) (h01 : 0 ≤ e.t.sq) (h02 : 0 ≤ e.sq) : PCalls prog f_sautoirref12_Right [.agg (e.cells k1 k2)] (.b (enOk e)) := by
  refine pcalls_of mixed t_sautoirref12_Right (by simp) fun T => ?_
  have c1 := pc_rRightTxn e.t k1 k2 hf h01
  simp only [Tx.cells] at c1
  unfold s_sautoirref12_Right
  rcases h1 : decide (e.ep = 0) with _ | _
  case true =>
    simp -implicitDefEqProofs -dsimp only [go_sem, seval, En.cells, h1]
    exact finL_pure (by rw [enOk, h1]; rfl)
  rcases h2 : decide (e.kd = 1) with _ | _
  case true =>
    simp -implicitDefEqProofs -dsimp only [go_sem, seval, En.cells, h1, h2, ↓g_call _ _ c_sautoirref12_RightTxn]
    refine CallK.pure c1 (aft_nil ?_)
    rcases h3 : txOk e.t with _ | _
    · simp -implicitDefEqProofs -dsimp only [go_sem, seval, h3, decide_true, decide_false]
      exact finL_pure (by simp only [enOk, h1, h2, h3, if_true, Bool.false_and, Bool.and_false])
    rcases h4 : (decide (e.cl = 0) && decide (e.sq = 0)) with _ | _
    · simp -implicitDefEqProofs -dsimp only [go_sem, seval, h3, h4, aggEq, scalarEq, Bool.and_true, decide_true, decide_false]
      exact finL_pure (by simp only [enOk, h1, h2, h3, h4, if_true, Bool.false_and, Bool.and_false, Bool.true_and])
    · simp -implicitDefEqProofs -dsimp only [go_sem, seval, h3, h4, aggEq, scalarEq, Bool.and_true, decide_true, decide_false]
      exact finL_pure (by simp only [enOk, h1, h2, h3, h4, if_true, Bool.false_and, Bool.and_false, Bool.true_and, Bool.not_false])
  have hno : ∀ b, noOk e.t = b → noOk e.t = b := fun b h => h
  rcases h3 : decide (e.kd = 2) with _ | _
  · simp -implicitDefEqProofs -dsimp only [go_sem, seval, En.cells, h1, h2, h3, decide_true, decide_false]
    exact finL_pure (by simp only [enOk, h1, h2, h3, Bool.false_eq_true, if_false, Bool.false_and, Bool.and_false])
  have hend : ∀ b, (noOk e.t && idOk e.cl e.sq && coOk e.co) = b → finL (.b b) (fun v T' => v = .b (enOk e) ∧ T' = T) T := fun b h => finL_pure (by simp only [enOk, h1, h2, h3, h, Bool.false_eq_true, if_false, Bool.true_and, Bool.not_false])
  have n0 : decide ((e.t.rs.length : Int) + e.t.ws.length = 0) = (!decide (0 < (e.t.rs.length : Int)) && !decide (0 < (e.t.ws.length : Int))) := by
    by_cases a : e.t.rs.length = 0 <;> by_cases b : e.t.ws.length = 0
    · rw [a, b]; rfl
    · rw [decide_eq_false (by omega), decide_eq_true (p := (0 : Int) < (e.t.ws.length : Int)) (by omega)]; simp
    · rw [decide_eq_false (by omega), decide_eq_true (p := (0 : Int) < (e.t.rs.length : Int)) (by omega)]; simp
    · rw [decide_eq_false (by omega), decide_eq_true (p := (0 : Int) < (e.t.rs.length : Int)) (by omega)]; simp
  rcases h4 : (decide (e.t.cl = 0) && decide (e.t.sq = 0)) with _ | _
  · simp -implicitDefEqProofs -dsimp only [go_sem, seval, En.cells, h1, h2, h3, h4, aggEq, scalarEq, Bool.and_true, decide_true, decide_false]
    exact hend false (by simp only [noOk, h4, Bool.false_and])
  rcases h5 : e.t.pl with _ | _
  case true =>
    simp -implicitDefEqProofs -dsimp only [go_sem, seval, En.cells, h1, h2, h3, h4, h5, aggEq, scalarEq, Bool.and_true, decide_true, decide_false]
    exact hend false (by simp only [noOk, h4, h5, Bool.false_and, Bool.true_and, Bool.not_true])
  rcases h6 : decide (0 < (e.t.rs.length : Int)) with _ | _
  case true =>
    simp -implicitDefEqProofs -dsimp only [go_sem, seval, En.cells, h1, h2, h3, h4, h5, h6, aggEq, scalarEq, Bool.and_true, decide_true, decide_false]
    exact hend false (by simp only [noOk, n0, h4, h5, h6, Bool.false_and, Bool.true_and, Bool.not_true, Bool.and_false])
  rcases h7 : decide (0 < (e.t.ws.length : Int)) with _ | _
  case true =>
    simp -implicitDefEqProofs -dsimp only [go_sem, seval, En.cells, h1, h2, h3, h4, h5, h6, h7, aggEq, scalarEq, Bool.and_true, decide_true, decide_false]
    exact hend false (by simp only [noOk, n0, h4, h5, h6, h7, Bool.false_and, Bool.true_and, Bool.not_true, Bool.and_false])
  simp -implicitDefEqProofs -dsimp only [go_sem, seval, En.cells, h1, h2, h3, h4, h5, h6, h7, aggEq, scalarEq, Bool.and_true, decide_true, decide_false, ↓g_gdc, rcOk, true_and, ↓g_call _ _ c_sautoirref12_RightID]
  refine CallK.pure (pc_rRightID e.cl e.sq h02) (aft_nil ?_)
  have h8 : noOk e.t = true := by simp only [noOk, n0, h4, h5, h6, h7, Bool.false_and, Bool.true_and, Bool.not_true, Bool.not_false, Bool.and_false]
  rcases h9 : idOk e.cl e.sq with _ | _
  · simp -implicitDefEqProofs -dsimp only [go_sem, seval, h9, decide_true, decide_false, ↓g_gdc, rcOk, true_and]
    exact hend false (by simp only [h8, h9, Bool.false_and, Bool.and_false, Bool.true_and])
  rcases h10 : decide (e.co = 0) with _ | _
  · rcases h11 : decide (e.co = 8) with _ | _
    all_goals
      simp -implicitDefEqProofs -dsimp only [go_sem, seval, h9, h10, h11, decide_true, decide_false, ↓g_gdc, rcOk, true_and]
      exact hend _ (by simp only [coOk, h8, h9, h10, h11, Bool.false_and, Bool.and_false, Bool.true_and, Bool.false_or, Bool.true_or])
  · simp -implicitDefEqProofs -dsimp only [go_sem, seval, h9, h10, decide_true, decide_false, ↓g_gdc, rcOk, true_and]
    exact hend _ (by simp only [coOk, h8, h9, h10, Bool.false_and, Bool.and_false, Bool.true_and, Bool.false_or, Bool.true_or])

theorem pc_putID (b : List UInt8) (c : Option Nat) (cl sq : Nat) (hb : b.length ≤ 1000000) (hc : cl < 9223372036854775808) (hs : sq < 18446744073709551616) : PCalls prog f_entry_putID [bts b c, .agg [.i .i64 cl, .i .u64 sq]] (bts (b ++ enc cl ++ enc sq) none) := by
  refine pcalls_of mixed t_entry_putID (by simp) fun T => ?_
  unfold s_entry_putID
  have h1 := enc_len10 (m := cl) (by omega)
  have c1 := pc_oPut b c cl (by omega) (by omega)
  have c2 := pc_oPut (b ++ enc cl) none sq (by rw [List.length_append]; omega) hs
  simp only [bts] at c1 c2
  simp -implicitDefEqProofs -dsimp only [go_sem, seval, bts, wrap_u64n (n := cl) (by omega), ↓g_call _ _ c_octet_Put]
  refine CallK.pure c1 (aft_nil ?_)
  simp -implicitDefEqProofs -dsimp only [go_sem, seval, ↓g_call _ _ c_octet_Put]
  refine CallK.pure c2 (aft_nil ?_)
  simp -implicitDefEqProofs -dsimp only [go_sem, seval]
  exact finL_pure rfl

/-- The chapter's example. -/
def exEn : En := ⟨1, 2, ⟨0, 0, false, [], []⟩, 0, 1, 0⟩
theorem pc_ePut_ex : PCalls prog f_entry_Put [.agg [.i .u64 1, .i .i64 2, .i .i64 0, .i .u64 0, .b false, .fz 0 [] (some 0), .fz 0 [] (some 0), .i .i64 0, .i .u64 1, .i .i64 0]] (.tup [bts [1, 2, 0, 1, 0] none, .i .i64 0]) := by
  refine pcalls_of mixed t_entry_Put (by simp) fun T => ?_
  have h := pc_enRight exEn (some 0) (some 0) ⟨by decide, by decide, by simp [exEn], by simp [exEn], by simp [exEn]⟩
  have h' : enOk exEn = true := by decide
  rw [h'] at h
  simp only [En.cells, exEn, List.length_nil, List.flatMap_nil] at h
  have c1 := pc_oPut [] (some 0) 1 (by decide) (by decide)
  have c2 := pc_oPut [1] none 2 (by decide) (by decide)
  have c3 := pc_putID [1, 2] none 0 1 (by decide) (by decide) (by decide)
  have c4 := pc_oPut [1, 2, 0, 1] none 0 (by decide) (by decide)
  have e1 : enc 1 = [1] := by rw [enc_small (by omega)]; rfl
  have e2 : enc 2 = [2] := by rw [enc_small (by omega)]; rfl
  have e0 : enc 0 = [0] := by rw [enc_small (by omega)]; rfl
  rw [e1] at c1
  rw [e2] at c2
  rw [e0, e1] at c3
  rw [e0] at c4
  simp only [bts, List.nil_append, List.cons_append, List.length_nil, byteCells, List.map_nil] at c1 c2 c3 c4
  have u1 : IntKind.u64.wrap 2 = 2 := by decide +kernel
  have u2 : IntKind.u64.wrap 0 = 0 := by decide +kernel
  unfold s_entry_Put
  simp -implicitDefEqProofs -dsimp only [go_sem, seval, ↓g_call _ _ c_entry_Right]
  refine CallK.pure h (aft_nil ?_)
  simp -implicitDefEqProofs -dsimp only [go_sem, seval, u1, ↓g_call _ _ c_octet_Put]
  refine CallK.pure c1 (aft_nil ?_)
  simp -implicitDefEqProofs -dsimp only [go_sem, seval, ↓g_call _ _ c_octet_Put]
  refine CallK.pure c2 (aft_nil ?_)
  simp -implicitDefEqProofs -dsimp only [go_sem, seval, u2, decide_true, decide_false, ↓g_call _ _ c_entry_putID]
  refine CallK.pure c3 (aft_nil ?_)
  simp -implicitDefEqProofs -dsimp only [go_sem, seval, ↓g_call _ _ c_octet_Put]
  refine CallK.pure c4 (aft_nil ?_)
  simp -implicitDefEqProofs -dsimp only [go_sem, seval, bts, byteCells]
  exact finL_pure rfl

end Go.Aw
