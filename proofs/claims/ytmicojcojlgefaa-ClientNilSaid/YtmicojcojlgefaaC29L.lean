import Derived.Test.YtmicojcojlgefaaC29K
import Derived.Test.YtmicojcojlgefaaK29M17Arg
namespace Go.Aw
open Go
open Go.Proofs.Try (prog)
set_option linter.all false
set_option maxHeartbeats 8000000
set_option maxRecDepth 8000

/-! The laws: which ops may be asked; a client that is not there. -/
structure Ev where
  k : Int
  o : Cp
  l : Lt Rf
def evC (e : Ev) : List AV := [.i .i64 e.k, .i .i64 e.o.k, .s e.o.key, .s e.o.v, .fz e.o.rs.length (e.o.rs.flatMap rdC) none, .fz e.o.ws.length (e.o.ws.flatMap wtC) none] ++ e.l.cells rfL
structure Ev.Arg (e : Ev) : Prop where
  o : e.o.Wide
  l : e.l.Arg
theorem pc_ClientNil (e : Ev) (h : e.Arg) : PCalls prog f_sautoirlaw29_ClientNil [.agg (evC e)] (.b true) := by
  refine pcalls_of mixed t_sautoirlaw29_ClientNil (by simp) fun T => ?_
  obtain ⟨k, o, l⟩ := e
  have ho := h.o
  have hl := h.l
  simp only at ho hl
  have c1 := pc_cOurs o ho
  have c2 := pc_Call_nil o.our
  have c3 := pc_Waits_nil
  have c4 := pc_Last_nil
  have c5 := pc_Tick_nil
  have c6 := pc_LOurs l hl.wide
  have c7 := pc_Hear_nil l.ours
  have c8 := pc_Knows_nil 0
  have cA := pc_awake29
  simp only [Cp.cells] at c1
  have e1 : evC ⟨k, o, l⟩ = [.i .i64 k, .i .i64 o.k, .s o.key, .s o.v, .fz o.rs.length (o.rs.flatMap rdC) none, .fz o.ws.length (o.ws.flatMap wtC) none] ++ l.cells rfL := rfl
  have d1 : ((evC ⟨k, o, l⟩).drop 1).take 5 = [.i .i64 o.k, .s o.key, .s o.v, .fz o.rs.length (o.rs.flatMap rdC) none, .fz o.ws.length (o.ws.flatMap wtC) none] := rfl
  have d2 : ((evC ⟨k, o, l⟩).drop 6).take 26 = l.cells rfL := rfl
  have d3 : (evC ⟨k, o, l⟩).length = 32 := rfl
  generalize l.ours = m at *
  generalize o.our = u at *
  generalize l.cells rfL = L1 at *
  generalize evC ⟨k, o, l⟩ = E at *
  clear e1
  simp only [Cp.cells] at c2
  unfold s_sautoirlaw29_ClientNil
  simp -implicitDefEqProofs -dsimp only [go_sem, seval, d1, d2, d3, ↓g_call _ _ c_sautoirlaw29_Ours]
  refine CallK.pure c1 (aft_nil ?_)
  simp -implicitDefEqProofs -dsimp only [go_sem, seval, Cp.cells, ↓g_call _ _ c_client_Client_Call]
  refine CallK.pure c2 (aft_nil ?_)
  simp -implicitDefEqProofs -dsimp only [go_sem, seval, ↓g_call _ _ c_client_Client_Waits]
  refine CallK.pure c3 (aft_nil ?_)
  simp -implicitDefEqProofs -dsimp only [go_sem, seval, ↓g_call _ _ c_client_Client_Last]
  refine CallK.pure c4 (aft_nil ?_)
  simp -implicitDefEqProofs -dsimp only [go_sem, seval, decide_true, ↓g_gdc, rcOk, true_and, ↓g_call _ _ c_client_Client_Tick]
  refine CallK.pure c5 (aft_nil ?_)
  simp -implicitDefEqProofs -dsimp only [go_sem, seval, d2, d3, decide_true, ↓g_gdc, rcOk, true_and, Int.add_zero, show IntKind.i64.wrap 0 = 0 by decide +kernel, ↓g_call _ _ c_sautoirlaw17_Ours]
  refine CallK.pure c6 (aft_nil ?_)
  simp -implicitDefEqProofs -dsimp only [go_sem, seval, ↓g_gdc, rcOk, true_and, ↓g_call _ _ c_client_Client_Hear]
  refine CallK.pure c7 (aft_nil ?_)
  simp -implicitDefEqProofs -dsimp only [go_sem, seval, ↓g_gdc, rcOk, true_and, ↓g_call _ _ c_client_Client_Knows]
  refine CallK.pure c8 (aft_nil ?_)
  simp -implicitDefEqProofs -dsimp only [go_sem, seval, decide_true, ↓g_gdc, rcOk, true_and, ↓g_call _ _ c_sautoirlaw29_awake]
  refine CallK.pure cA (aft_nil ?_)
  simp -implicitDefEqProofs -dsimp only [go_sem, seval]
  exact finL_pure rfl
end Go.Aw

