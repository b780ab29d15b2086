import Derived.Test.YtmicojcojlgefaaC29K
import Derived.Test.YtmicojcojlgefaaK29M17Arg
namespace Go.Aw
open Go
open Go.Proofs.Try (prog)
set_option linter.all false
set_option maxHeartbeats 8000000
set_option maxRecDepth 8000

/-! The laws: which ops may be asked; a client that is not there. -/
theorem pc_ClientMay (o : Cp) (h : o.Wide) (cl sq : Int) : PCalls prog f_sautoirlaw29_ClientMay [.agg o.cells, .agg [.i .i64 cl, .i .u64 sq]] (.b true) := by
  refine pcalls_of mixed t_sautoirlaw29_ClientMay (by simp) fun T => ?_
  have hf := h.our
  have c1 := pc_cOurs o h
  have c2 := pc_cPlain o.our hf
  have c3 := pc_cMay o.our hf
  have c4 := pc_rMay o.our hf
  have c5 := pc_Txn o.our cl sq hf
  have c6 := pc_PlainTxn (txn o.our cl sq) none none (txn_fine hf cl sq)
  have c7 := pc_rTxn o.our cl sq
  have c8 := pc_SameTxn_refl (txn o.our cl sq) none none none none (txn_fine hf cl sq)
  have hbb : ∀ b : Bool, decide (b = b) = true := fun b => decide_eq_true rfl
  have cA := pc_awake29
  generalize txn o.our cl sq = t at *
  generalize mayF o.our = mb at *
  generalize o.our = u at *
  simp only [Cp.cells] at c1 c2 c3 c4 c5 c7
  simp only [Tx.cells] at c5 c6 c7 c8
  unfold s_sautoirlaw29_ClientMay
  simp -implicitDefEqProofs -dsimp only [go_sem, seval, Cp.cells, ↓g_call _ _ c_sautoirlaw29_Ours]
  refine CallK.pure c1 (aft_nil ?_)
  simp -implicitDefEqProofs -dsimp only [go_sem, seval, ↓g_call _ _ c_sautoirlaw29_Plain]
  refine CallK.pure c2 (aft_nil ?_)
  simp -implicitDefEqProofs -dsimp only [go_sem, seval, ↓g_call _ _ c_client_May]
  refine CallK.pure c3 (aft_nil ?_)
  simp -implicitDefEqProofs -dsimp only [go_sem, seval, ↓g_call _ _ c_sautoirref29_May]
  refine CallK.pure c4 (aft_nil ?_)
  simp -implicitDefEqProofs -dsimp only [go_sem, seval, eqAv, hbb, ↓g_gdc, rcOk, true_and, ↓g_call _ _ c_client_Op_Txn]
  refine CallK.pure c5 (aft_nil ?_)
  simp -implicitDefEqProofs -dsimp only [go_sem, seval, ↓g_gdc, rcOk, true_and, ↓g_call _ _ c_sautoirlaw12_PlainTxn]
  refine CallK.pure c6 (aft_nil ?_)
  simp -implicitDefEqProofs -dsimp only [go_sem, seval, ↓g_gdc, rcOk, true_and, ↓g_call _ _ c_sautoirref29_Txn]
  refine CallK.pure c7 (aft_nil ?_)
  simp -implicitDefEqProofs -dsimp only [go_sem, seval, ↓g_gdc, rcOk, true_and, ↓g_call _ _ c_sautoirref12_SameTxn]
  refine CallK.pure c8 (aft_nil ?_)
  simp -implicitDefEqProofs -dsimp only [go_sem, seval, ↓g_gdc, rcOk, true_and, ↓g_call _ _ c_sautoirlaw29_awake]
  refine CallK.pure cA (aft_nil ?_)
  simp -implicitDefEqProofs -dsimp only [go_sem, seval]
  exact finL_pure rfl
structure Ev where
  k : Int
  o : Cp
  l : Lt Rf
structure Ev.Arg (e : Ev) : Prop where
  o : e.o.Wide
  l : e.l.Arg
end Go.Aw

