import Derived.Test.YtchdmofoaokpjaaGreatDoorM30N17E12Q
import Derived.Test.YtchdmofoaokpjaaGreatDoorM30N17E12R
namespace Go.Aw
open Go
open Go.Proofs.Tryz (prog)
set_option linter.all false
set_option maxHeartbeats 4000000
structure En where
 ep : Int
 kd : Int
 t : Tx
 cl : Int
 sq : Int
 co : Int
def En.cells (e : En) (k1 k2 : Option Nat) : List AV :=
 [.i .u64 e.ep, .i .i64 e.kd, .i .i64 e.t.cl, .i .u64 e.t.sq, .b e.t.pl, .fz e.t.rs.length (e.t.rs.flatMap rdC) k1, .fz e.t.ws.length (e.t.ws.flatMap wtC) k2, .i .i64 e.cl, .i .u64 e.sq, .i .i64 e.co]
def En.our (e : En) : En := { e with t := e.t.our }
def z2v (t : Tx) : Bool := decide (t.cl = 0) && decide (t.sq = 0) && !t.pl && decide ((t.rs.length : Int) + t.ws.length = 0)
theorem z2w (t : Tx) (k1 k2 : Option Nat) (hf : t.Fine) : PCalls prog q58 [.agg (t.cells k1 k2)] (.b (z2v t)) := by
 refine K6 U1 qhz (by simp) fun T => ?_
 have h1 := hf.r
 have h2 := hf.w
 have w1 : IntKind.i64.wrap ((t.rs.length : Int) + t.ws.length) = (t.rs.length : Int) + t.ws.length := q1m (by unfold I64; omega)
 unfold qau
 simp -implicitDefEqProofs -dsimp only [go_sem, seval, Tx.cells, w1, q06, Q7, Bool.and_true]
 (first | (apply K0 <;> intro h_1 <;> simp -implicitDefEqProofs -dsimp only [go_sem, seval, w1, decide_true, decide_false, h_1]) | (have h_1 := trivial)) <;>
  (first | (apply K0 <;> intro h_2 <;> simp -implicitDefEqProofs -dsimp only [go_sem, seval, w1, decide_true, decide_false, h_1, h_2]) | (have h_2 := trivial)) <;>
  (first | (apply K0 <;> intro h_3 <;> simp -implicitDefEqProofs -dsimp only [go_sem, seval, w1, decide_true, decide_false, h_1, h_2, h_3]) | (have h_3 := trivial)) <;>
  (first | (apply K0 <;> intro h_4 <;> simp -implicitDefEqProofs -dsimp only [go_sem, seval, w1, decide_true, decide_false, h_1, h_2, h_3, h_4]) | (have h_4 := trivial))
 all_goals
  refine J9 ?_
  simp only [z2v, *, Bool.not_true, Bool.not_false, Bool.true_and, Bool.false_and, Bool.and_false, Bool.and_true]
def z7g (c : Int) : Bool := decide (c = 0) || (decide (c = 8) || decide (c = 11))
def qh8 (e : En) : Bool :=
 !decide (e.ep = 0) && (if decide (e.kd = 1) then qrd e.t && (decide (e.cl = 0) && decide (e.sq = 0)) && decide (e.co = 0)
  else decide (e.kd = 2) && (z2v e.t && qkq e.cl e.sq && z7g e.co))
theorem q9m (e : En) (k1 k2 : Option Nat) (hf : e.t.Fine) : PCalls prog q4c [.agg (e.cells k1 k2)] (.b (qh8 e)) := by
 refine K6 U1 qn8 (by simp) fun T => ?_
 have c1 := qe2 e.t k1 k2 hf
 have c2 := z2w e.t k1 k2 hf
 simp only [Tx.cells] at c1 c2
 unfold qfa
 rcases h1 : decide (e.ep = 0) with _ | _
 case true =>
  simp -implicitDefEqProofs -dsimp only [go_sem, seval, En.cells, h1]
  exact J9 (by rw [qh8, h1]; rfl)
 rcases h2 : decide (e.kd = 1) with _ | _
 case true =>
  simp -implicitDefEqProofs -dsimp only [go_sem, seval, En.cells, h1, h2, ↓J0 _ _ V3]
  refine cpn c1 ?_
  rcases h3 : qrd e.t with _ | _
  ·simp -implicitDefEqProofs -dsimp only [go_sem, seval, h3, decide_true, decide_false]
   exact J9 (by simp only [qh8, h1, h2, h3, if_true, Bool.false_and, Bool.and_false])
  rcases h4 : (decide (e.cl = 0) && decide (e.sq = 0)) with _ | _
  ·simp -implicitDefEqProofs -dsimp only [go_sem, seval, h3, h4, q06, Q7, Bool.and_true, decide_true, decide_false]
   exact J9 (by simp only [qh8, h1, h2, h3, h4, if_true, Bool.false_and, Bool.and_false, Bool.true_and])
  ·simp -implicitDefEqProofs -dsimp only [go_sem, seval, h3, h4, q06, Q7, Bool.and_true, decide_true, decide_false]
   exact J9 (by simp only [qh8, h1, h2, h3, h4, if_true, Bool.false_and, Bool.and_false, Bool.true_and, Bool.not_false])
 rcases h3 : decide (e.kd = 2) with _ | _
 ·simp -implicitDefEqProofs -dsimp only [go_sem, seval, En.cells, h1, h2, h3]
  exact J9 (by simp only [qh8, h1, h2, h3, Bool.false_eq_true, if_false, Bool.false_and, Bool.and_false])
 simp -implicitDefEqProofs -dsimp only [go_sem, seval, En.cells, h1, h2, h3, ↓J0 _ _ qi0]
 refine cpn c2 ?_
 rcases h4 : z2v e.t with _ | _
 ·simp -implicitDefEqProofs -dsimp only [go_sem, seval, h4, decide_true, decide_false, ↓Q0, G8, true_and]
  exact J9 (by simp only [qh8, h1, h2, h3, h4, Bool.false_eq_true, if_false, Bool.false_and, Bool.and_false, Bool.true_and])
 simp -implicitDefEqProofs -dsimp only [go_sem, seval, h4, decide_true, decide_false, ↓Q0, G8, true_and, ↓J0 _ _ Y0]
 refine cpn (q1f e.cl e.sq) ?_
 rcases h5 : qkq e.cl e.sq with _ | _
 ·simp -implicitDefEqProofs -dsimp only [go_sem, seval, h4, h5, decide_true, decide_false, ↓Q0, G8, true_and]
  exact J9 (by simp only [qh8, h1, h2, h3, h4, h5, Bool.false_eq_true, if_false, Bool.false_and, Bool.and_false, Bool.true_and])
 rcases h6 : decide (e.co = 0) with _ | _
 ·rcases h7 : decide (e.co = 8) with _ | _
  all_goals
   simp -implicitDefEqProofs -dsimp only [go_sem, seval, h4, h5, h6, h7, decide_true, decide_false, ↓Q0, G8, true_and]
   exact J9 (by simp only [qh8, z7g, h1, h2, h3, h4, h5, h6, h7, Bool.false_eq_true, if_false, Bool.false_and, Bool.and_false, Bool.true_and, Bool.false_or, Bool.true_or, Bool.not_false])
 ·simp -implicitDefEqProofs -dsimp only [go_sem, seval, h4, h5, h6, decide_true, decide_false, ↓Q0, G8, true_and]
  exact J9 (by simp only [qh8, z7g, h1, h2, h3, h4, h5, h6, Bool.false_eq_true, if_false, Bool.false_and, Bool.and_false, Bool.true_and, Bool.false_or, Bool.true_or, Bool.not_false])
theorem qt5 (b : List UInt8) (c : Option Nat) (cl sq : Nat) (hb : b.length <= 1000000) (hc : cl < 9223372036854775808) (hs : sq < 18446744073709551616) : PCalls prog q63 [bts b c, .agg [.i .i64 cl, .i .u64 sq]] (bts (b ++ enc cl ++ enc sq) none) := by
 refine K6 U1 qn6 (by simp) fun T => ?_
 unfold qf2
 have h1 := K5 (m := cl) (by omega)
 have c1 := I0 b c cl (by omega) (by omega)
 have c2 := I0 (b ++ enc cl) none sq (by rw [List.length_append]; omega) hs
 simp only [bts] at c1 c2
 simp -implicitDefEqProofs -dsimp only [go_sem, seval, bts, q0m (n := cl) (by omega), ↓J0 _ _ O4]
 refine cpn c1 ?_
 simp -implicitDefEqProofs -dsimp only [go_sem, seval, ↓J0 _ _ O4]
 refine cpn c2 ?_
 simp -implicitDefEqProofs -dsimp only [go_sem, seval]
 exact J9 rfl
end Go.Aw
namespace Go.Aw
open Go
open Go.Proofs.Tryz (prog)
set_option linter.all false
set_option maxHeartbeats 4000000
end Go.Aw
