import Derived.Test.YtmicojcojlgefaaK29S12Q
namespace Go.Aw
open Go
open Go.Proofs.Try (prog)
set_option linter.all false
set_option maxHeartbeats 4000000
structure En where
 ep : Int
 kd : Int
 t : Tx
 cl : Int
 sq : Int
 co : Int
def En.cells (e : En) (k1 k2 : Option Nat) : List AV :=
 [.i .u64 e.ep, .i .i64 e.kd, .i .i64 e.t.cl, .i .u64 e.t.sq, .b e.t.pl, .fz e.t.rs.length (e.t.rs.flatMap rdC) k1, .fz e.t.ws.length (e.t.ws.flatMap wtC) k2, .i .i64 e.cl, .i .u64 e.sq, .i .i64 e.co]
def En.our (e : En) : En := { e with t := e.t.our }
def qyb (t : Tx) : Bool := decide (t.cl = 0) && decide (t.sq = 0) && !t.pl && decide ((t.rs.length : Int) + t.ws.length = 0)
theorem qtn (t : Tx) (k1 k2 : Option Nat) (hf : t.Fine) : PCalls prog q4v [.agg (t.cells k1 k2)] (.b (qyb t)) := by
 refine K4 U6 qfw (by simp) fun T => ?_
 have h1 := hf.r
 have h2 := hf.w
 have w1 : IntKind.i64.wrap ((t.rs.length : Int) + t.ws.length) = (t.rs.length : Int) + t.ws.length := q15 (by unfold I64; omega)
 unfold q9p
 simp -implicitDefEqProofs -dsimp only [go_sem, seval, Tx.cells, w1, Y7, N8, Bool.and_true]
 (first | (apply J7 <;> intro h_1 <;> simp -implicitDefEqProofs -dsimp only [go_sem, seval, w1, decide_true, decide_false, h_1]) | (have h_1 := trivial)) <;>
  (first | (apply J7 <;> intro h_2 <;> simp -implicitDefEqProofs -dsimp only [go_sem, seval, w1, decide_true, decide_false, h_1, h_2]) | (have h_2 := trivial)) <;>
  (first | (apply J7 <;> intro h_3 <;> simp -implicitDefEqProofs -dsimp only [go_sem, seval, w1, decide_true, decide_false, h_1, h_2, h_3]) | (have h_3 := trivial)) <;>
  (first | (apply J7 <;> intro h_4 <;> simp -implicitDefEqProofs -dsimp only [go_sem, seval, w1, decide_true, decide_false, h_1, h_2, h_3, h_4]) | (have h_4 := trivial))
 all_goals
  refine K2 ?_
  simp only [qyb, *, Bool.not_true, Bool.not_false, Bool.true_and, Bool.false_and, Bool.and_false, Bool.and_true]
def z0g (c : Int) : Bool := decide (c = 0) || (decide (c = 8) || decide (c = 11))
def qq9 (e : En) : Bool :=
 !decide (e.ep = 0) && (if decide (e.kd = 1) then qfe e.t && (decide (e.cl = 0) && decide (e.sq = 0)) && decide (e.co = 0)
  else decide (e.kd = 2) && (qyb e.t && qo6 e.cl e.sq && z0g e.co))
theorem qo9 (e : En) (k1 k2 : Option Nat) (hf : e.t.Fine) : PCalls prog q6y [.agg (e.cells k1 k2)] (.b (qq9 e)) := by
 refine K4 U6 qjh (by simp) fun T => ?_
 have c1 := q9h e.t k1 k2 hf
 have c2 := qtn e.t k1 k2 hf
 simp only [Tx.cells] at c1 c2
 unfold qe3
 rcases h1 : decide (e.ep = 0) with _ | _
 case true =>
  simp -implicitDefEqProofs -dsimp only [go_sem, seval, En.cells, h1]
  exact K2 (by rw [qq9, h1]; rfl)
 rcases h2 : decide (e.kd = 1) with _ | _
 case true =>
  simp -implicitDefEqProofs -dsimp only [go_sem, seval, En.cells, h1, h2, ↓J0 _ _ Q9]
  refine cpn c1 ?_
  rcases h3 : qfe e.t with _ | _
  ·simp -implicitDefEqProofs -dsimp only [go_sem, seval, h3, decide_true, decide_false]
   exact K2 (by simp only [qq9, h1, h2, h3, if_true, Bool.false_and, Bool.and_false])
  rcases h4 : (decide (e.cl = 0) && decide (e.sq = 0)) with _ | _
  ·simp -implicitDefEqProofs -dsimp only [go_sem, seval, h3, h4, Y7, N8, Bool.and_true, decide_true, decide_false]
   exact K2 (by simp only [qq9, h1, h2, h3, h4, if_true, Bool.false_and, Bool.and_false, Bool.true_and])
  ·simp -implicitDefEqProofs -dsimp only [go_sem, seval, h3, h4, Y7, N8, Bool.and_true, decide_true, decide_false]
   exact K2 (by simp only [qq9, h1, h2, h3, h4, if_true, Bool.false_and, Bool.and_false, Bool.true_and, Bool.not_false])
 rcases h3 : decide (e.kd = 2) with _ | _
 ·simp -implicitDefEqProofs -dsimp only [go_sem, seval, En.cells, h1, h2, h3]
  exact K2 (by simp only [qq9, h1, h2, h3, Bool.false_eq_true, if_false, Bool.false_and, Bool.and_false])
 simp -implicitDefEqProofs -dsimp only [go_sem, seval, En.cells, h1, h2, h3, ↓J0 _ _ qfx]
 refine cpn c2 ?_
 rcases h4 : qyb e.t with _ | _
 ·simp -implicitDefEqProofs -dsimp only [go_sem, seval, h4, decide_true, decide_false, ↓O0, Y4, true_and]
  exact K2 (by simp only [qq9, h1, h2, h3, h4, Bool.false_eq_true, if_false, Bool.false_and, Bool.and_false, Bool.true_and])
 simp -implicitDefEqProofs -dsimp only [go_sem, seval, h4, decide_true, decide_false, ↓O0, Y4, true_and, ↓J0 _ _ U8]
 refine cpn (q0v e.cl e.sq) ?_
 rcases h5 : qo6 e.cl e.sq with _ | _
 ·simp -implicitDefEqProofs -dsimp only [go_sem, seval, h4, h5, decide_true, decide_false, ↓O0, Y4, true_and]
  exact K2 (by simp only [qq9, h1, h2, h3, h4, h5, Bool.false_eq_true, if_false, Bool.false_and, Bool.and_false, Bool.true_and])
 rcases h6 : decide (e.co = 0) with _ | _
 ·rcases h7 : decide (e.co = 8) with _ | _
  all_goals
   simp -implicitDefEqProofs -dsimp only [go_sem, seval, h4, h5, h6, h7, decide_true, decide_false, ↓O0, Y4, true_and]
   exact K2 (by simp only [qq9, z0g, h1, h2, h3, h4, h5, h6, h7, Bool.false_eq_true, if_false, Bool.false_and, Bool.and_false, Bool.true_and, Bool.false_or, Bool.true_or, Bool.not_false])
 ·simp -implicitDefEqProofs -dsimp only [go_sem, seval, h4, h5, h6, decide_true, decide_false, ↓O0, Y4, true_and]
  exact K2 (by simp only [qq9, z0g, h1, h2, h3, h4, h5, h6, Bool.false_eq_true, if_false, Bool.false_and, Bool.and_false, Bool.true_and, Bool.false_or, Bool.true_or, Bool.not_false])
end Go.Aw
