import Derived.Test.YtchdmofoaokpjaaGreatDoorM30N17E12Q
import Derived.Test.YtchdmofoaokpjaaGreatDoorM30N17E12R
namespace Go.Aw
open Go
open Go.Proofs.Tryz (prog)
set_option linter.all false
set_option maxHeartbeats 4000000
structure En where
 ep : Int
 kd : Int
 t : Tx
 cl : Int
 sq : Int
 co : Int
def En.cells (e : En) (k1 k2 : Option Nat) : List AV :=
 [.i .u64 e.ep, .i .i64 e.kd, .i .i64 e.t.cl, .i .u64 e.t.sq, .b e.t.pl, .fz e.t.rs.length (e.t.rs.flatMap rdC) k1, .fz e.t.ws.length (e.t.ws.flatMap wtC) k2, .i .i64 e.cl, .i .u64 e.sq, .i .i64 e.co]
def En.our (e : En) : En := { e with t := e.t.our }
theorem qyv (e : En) (k1 k2 : Option Nat) (hf : e.t.Wide) : PCalls prog q3l [.agg (e.cells k1 k2)] (.agg (e.our.cells none none)) := by
 refine K6 U1 qev (by simp) fun T => ?_
 have h := qqn e.t k1 k2 hf
 simp only [Tx.cells] at h
 unfold q8s
 simp -implicitDefEqProofs -dsimp only [go_sem, seval, En.cells, ↓J0 _ _ q7o]
 refine cpn h ?_
 simp -implicitDefEqProofs -dsimp only [go_sem, seval]
 exact J9 rfl
def z58 (t : Tx) : Bool := decide (t.cl = 0) && decide (t.sq = 0) && !t.pl && decide ((t.rs.length : Int) + t.ws.length = 0)
theorem z59 (t : Tx) (k1 k2 : Option Nat) (hf : t.Fine) : PCalls prog q5x [.agg (t.cells k1 k2)] (.b (z58 t)) := by
 refine K6 U1 qja (by simp) fun T => ?_
 have h1 := hf.r
 have h2 := hf.w
 have w1 : IntKind.i64.wrap ((t.rs.length : Int) + t.ws.length) = (t.rs.length : Int) + t.ws.length := q0c (by unfold I64; omega)
 unfold qbz
 simp -implicitDefEqProofs -dsimp only [go_sem, seval, Tx.cells, w1, q05, U0, Bool.and_true]
 (first | (apply K0 <;> intro h_1 <;> simp -implicitDefEqProofs -dsimp only [go_sem, seval, w1, decide_true, decide_false, h_1]) | (have h_1 := trivial)) <;>
  (first | (apply K0 <;> intro h_2 <;> simp -implicitDefEqProofs -dsimp only [go_sem, seval, w1, decide_true, decide_false, h_1, h_2]) | (have h_2 := trivial)) <;>
  (first | (apply K0 <;> intro h_3 <;> simp -implicitDefEqProofs -dsimp only [go_sem, seval, w1, decide_true, decide_false, h_1, h_2, h_3]) | (have h_3 := trivial)) <;>
  (first | (apply K0 <;> intro h_4 <;> simp -implicitDefEqProofs -dsimp only [go_sem, seval, w1, decide_true, decide_false, h_1, h_2, h_3, h_4]) | (have h_4 := trivial))
 all_goals
  refine J9 ?_
  simp only [z58, *, Bool.not_true, Bool.not_false, Bool.true_and, Bool.false_and, Bool.and_false, Bool.and_true]
def z9z (c : Int) : Bool := decide (c = 0) || (decide (c = 8) || decide (c = 11))
def qim (e : En) : Bool :=
 !decide (e.ep = 0) && (if decide (e.kd = 1) then qsq e.t && (decide (e.cl = 0) && decide (e.sq = 0)) && decide (e.co = 0)
  else decide (e.kd = 2) && (z58 e.t && qm6 e.cl e.sq && z9z e.co))
theorem qaq (e : En) (k1 k2 : Option Nat) (hf : e.t.Fine) : PCalls prog q4x [.agg (e.cells k1 k2)] (.b (qim e)) := by
 refine K6 U1 qol (by simp) fun T => ?_
 have c1 := qfi e.t k1 k2 hf
 have c2 := z59 e.t k1 k2 hf
 simp only [Tx.cells] at c1 c2
 unfold qgo
 rcases h1 : decide (e.ep = 0) with _ | _
 case true =>
  simp -implicitDefEqProofs -dsimp only [go_sem, seval, En.cells, h1]
  exact J9 (by rw [qim, h1]; rfl)
 rcases h2 : decide (e.kd = 1) with _ | _
 case true =>
  simp -implicitDefEqProofs -dsimp only [go_sem, seval, En.cells, h1, h2, ↓J0 _ _ V4]
  refine cpn c1 ?_
  rcases h3 : qsq e.t with _ | _
  ·simp -implicitDefEqProofs -dsimp only [go_sem, seval, h3, decide_true, decide_false]
   exact J9 (by simp only [qim, h1, h2, h3, if_true, Bool.false_and, Bool.and_false])
  rcases h4 : (decide (e.cl = 0) && decide (e.sq = 0)) with _ | _
  ·simp -implicitDefEqProofs -dsimp only [go_sem, seval, h3, h4, q05, U0, Bool.and_true, decide_true, decide_false]
   exact J9 (by simp only [qim, h1, h2, h3, h4, if_true, Bool.false_and, Bool.and_false, Bool.true_and])
  ·simp -implicitDefEqProofs -dsimp only [go_sem, seval, h3, h4, q05, U0, Bool.and_true, decide_true, decide_false]
   exact J9 (by simp only [qim, h1, h2, h3, h4, if_true, Bool.false_and, Bool.and_false, Bool.true_and, Bool.not_false])
 rcases h3 : decide (e.kd = 2) with _ | _
 ·simp -implicitDefEqProofs -dsimp only [go_sem, seval, En.cells, h1, h2, h3]
  exact J9 (by simp only [qim, h1, h2, h3, Bool.false_eq_true, if_false, Bool.false_and, Bool.and_false])
 simp -implicitDefEqProofs -dsimp only [go_sem, seval, En.cells, h1, h2, h3, ↓J0 _ _ qjb]
 refine cpn c2 ?_
 rcases h4 : z58 e.t with _ | _
 ·simp -implicitDefEqProofs -dsimp only [go_sem, seval, h4, decide_true, decide_false, ↓Q2, I2, true_and]
  exact J9 (by simp only [qim, h1, h2, h3, h4, Bool.false_eq_true, if_false, Bool.false_and, Bool.and_false, Bool.true_and])
 simp -implicitDefEqProofs -dsimp only [go_sem, seval, h4, decide_true, decide_false, ↓Q2, I2, true_and, ↓J0 _ _ Y4]
 refine cpn (q1j e.cl e.sq) ?_
 rcases h5 : qm6 e.cl e.sq with _ | _
 ·simp -implicitDefEqProofs -dsimp only [go_sem, seval, h4, h5, decide_true, decide_false, ↓Q2, I2, true_and]
  exact J9 (by simp only [qim, h1, h2, h3, h4, h5, Bool.false_eq_true, if_false, Bool.false_and, Bool.and_false, Bool.true_and])
 rcases h6 : decide (e.co = 0) with _ | _
 ·rcases h7 : decide (e.co = 8) with _ | _
  all_goals
   simp -implicitDefEqProofs -dsimp only [go_sem, seval, h4, h5, h6, h7, decide_true, decide_false, ↓Q2, I2, true_and]
   exact J9 (by simp only [qim, z9z, h1, h2, h3, h4, h5, h6, h7, Bool.false_eq_true, if_false, Bool.false_and, Bool.and_false, Bool.true_and, Bool.false_or, Bool.true_or, Bool.not_false])
 ·simp -implicitDefEqProofs -dsimp only [go_sem, seval, h4, h5, h6, decide_true, decide_false, ↓Q2, I2, true_and]
  exact J9 (by simp only [qim, z9z, h1, h2, h3, h4, h5, h6, Bool.false_eq_true, if_false, Bool.false_and, Bool.and_false, Bool.true_and, Bool.false_or, Bool.true_or, Bool.not_false])
theorem quj (b : List UInt8) (c : Option Nat) (cl sq : Nat) (hb : b.length <= 1000000) (hc : cl < 9223372036854775808) (hs : sq < 18446744073709551616) : PCalls prog q6u [bts b c, .agg [.i .i64 cl, .i .u64 sq]] (bts (b ++ enc cl ++ enc sq) none) := by
 refine K6 U1 qoj (by simp) fun T => ?_
 unfold qgg
 have h1 := K5 (m := cl) (by omega)
 have c1 := I4 b c cl (by omega) (by omega)
 have c2 := I4 (b ++ enc cl) none sq (by rw [List.length_append]; omega) hs
 simp only [bts] at c1 c2
 simp -implicitDefEqProofs -dsimp only [go_sem, seval, bts, q0q (n := cl) (by omega), ↓J0 _ _ O4]
 refine cpn c1 ?_
 simp -implicitDefEqProofs -dsimp only [go_sem, seval, ↓J0 _ _ O4]
 refine cpn c2 ?_
 simp -implicitDefEqProofs -dsimp only [go_sem, seval]
 exact J9 rfl
end Go.Aw
namespace Go.Aw
open Go
open Go.Proofs.Tryz (prog)
set_option linter.all false
set_option maxHeartbeats 4000000
end Go.Aw
