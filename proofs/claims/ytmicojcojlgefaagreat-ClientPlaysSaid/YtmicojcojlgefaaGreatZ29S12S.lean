import Derived.Test.YtmicojcojlgefaaGreatZ29S12Q
namespace Go.Aw
open Go
open Go.Proofs.Tryz (prog)
set_option linter.all false
set_option maxHeartbeats 4000000
structure En where
 ep : Int
 kd : Int
 t : Tx
 cl : Int
 sq : Int
 co : Int
def En.cells (e : En) (k1 k2 : Option Nat) : List AV :=
 [.i .u64 e.ep, .i .i64 e.kd, .i .i64 e.t.cl, .i .u64 e.t.sq, .b e.t.pl, .fz e.t.rs.length (e.t.rs.flatMap rdC) k1, .fz e.t.ws.length (e.t.ws.flatMap wtC) k2, .i .i64 e.cl, .i .u64 e.sq, .i .i64 e.co]
def En.our (e : En) : En := { e with t := e.t.our }
theorem z11 (e : En) (k1 k2 : Option Nat) (hf : e.t.Wide) : PCalls prog q55 [.agg (e.cells k1 k2)] (.agg (e.our.cells none none)) := by
 refine K5 Q7 ql5 (by simp) fun T => ?_
 have h := qqg e.t k1 k2 hf
 simp only [Tx.cells] at h
 unfold qcz
 simp -implicitDefEqProofs -dsimp only [go_sem, seval, En.cells, ↓J0 _ _ q74]
 refine cpn h ?_
 simp -implicitDefEqProofs -dsimp only [go_sem, seval]
 exact K1 rfl
theorem qyd (e : En) (k1 k2 : Option Nat) (hf : e.t.Fine) : PCalls prog q45 [.agg (e.cells k1 k2)] (.agg (e.cells none none)) := by
 refine K5 Q7 qj2 (by simp) fun T => ?_
 have h := qln e.t k1 k2 hf
 simp only [Tx.cells] at h
 unfold qbm
 simp -implicitDefEqProofs -dsimp only [go_sem, seval, En.cells, ↓J0 _ _ q5e]
 refine cpn h ?_
 simp -implicitDefEqProofs -dsimp only [go_sem, seval]
 exact K1 rfl
def qye (t : Tx) : Bool := decide (t.cl = 0) && decide (t.sq = 0) && !t.pl && decide ((t.rs.length : Int) + t.ws.length = 0)
theorem z6a (t : Tx) (k1 k2 : Option Nat) (hf : t.Fine) : PCalls prog q9b [.agg (t.cells k1 k2)] (.b (qye t)) := by
 refine K5 Q7 qow (by simp) fun T => ?_
 have h1 := hf.r
 have h2 := hf.w
 have w1 : IntKind.i64.wrap ((t.rs.length : Int) + t.ws.length) = (t.rs.length : Int) + t.ws.length := q02 (by unfold I64; omega)
 unfold qgl
 simp -implicitDefEqProofs -dsimp only [go_sem, seval, Tx.cells, w1, U2, K6, Bool.and_true]
 (first | (apply J2 <;> intro h_1 <;> simp -implicitDefEqProofs -dsimp only [go_sem, seval, w1, decide_true, decide_false, h_1]) | (have h_1 := trivial)) <;>
  (first | (apply J2 <;> intro h_2 <;> simp -implicitDefEqProofs -dsimp only [go_sem, seval, w1, decide_true, decide_false, h_1, h_2]) | (have h_2 := trivial)) <;>
  (first | (apply J2 <;> intro h_3 <;> simp -implicitDefEqProofs -dsimp only [go_sem, seval, w1, decide_true, decide_false, h_1, h_2, h_3]) | (have h_3 := trivial)) <;>
  (first | (apply J2 <;> intro h_4 <;> simp -implicitDefEqProofs -dsimp only [go_sem, seval, w1, decide_true, decide_false, h_1, h_2, h_3, h_4]) | (have h_4 := trivial))
 all_goals
  refine K1 ?_
  simp only [qye, *, Bool.not_true, Bool.not_false, Bool.true_and, Bool.false_and, Bool.and_false, Bool.and_true]
def z76 (c : Int) : Bool := decide (c = 0) || (decide (c = 8) || decide (c = 11))
def qoz (e : En) : Bool :=
 !decide (e.ep = 0) && (if decide (e.kd = 1) then qgd e.t && (decide (e.cl = 0) && decide (e.sq = 0)) && decide (e.co = 0)
  else decide (e.kd = 2) && (qye e.t && qp6 e.cl e.sq && z76 e.co))
theorem qyf (e : En) (k1 k2 : Option Nat) (hf : e.t.Fine) : PCalls prog qca [.agg (e.cells k1 k2)] (.b (qoz e)) := by
 refine K5 Q7 qsx (by simp) fun T => ?_
 have c1 := qge e.t k1 k2 hf
 have c2 := z6a e.t k1 k2 hf
 simp only [Tx.cells] at c1 c2
 unfold qmz
 rcases h1 : decide (e.ep = 0) with _ | _
 case true =>
  simp -implicitDefEqProofs -dsimp only [go_sem, seval, En.cells, h1]
  exact K1 (by rw [qoz, h1]; rfl)
 rcases h2 : decide (e.kd = 1) with _ | _
 case true =>
  simp -implicitDefEqProofs -dsimp only [go_sem, seval, En.cells, h1, h2, ↓J0 _ _ V7]
  refine cpn c1 ?_
  rcases h3 : qgd e.t with _ | _
  ·simp -implicitDefEqProofs -dsimp only [go_sem, seval, h3, decide_true, decide_false]
   exact K1 (by simp only [qoz, h1, h2, h3, if_true, Bool.false_and, Bool.and_false])
  rcases h4 : (decide (e.cl = 0) && decide (e.sq = 0)) with _ | _
  ·simp -implicitDefEqProofs -dsimp only [go_sem, seval, h3, h4, U2, K6, Bool.and_true, decide_true, decide_false]
   exact K1 (by simp only [qoz, h1, h2, h3, h4, if_true, Bool.false_and, Bool.and_false, Bool.true_and])
  ·simp -implicitDefEqProofs -dsimp only [go_sem, seval, h3, h4, U2, K6, Bool.and_true, decide_true, decide_false]
   exact K1 (by simp only [qoz, h1, h2, h3, h4, if_true, Bool.false_and, Bool.and_false, Bool.true_and, Bool.not_false])
 rcases h3 : decide (e.kd = 2) with _ | _
 ·simp -implicitDefEqProofs -dsimp only [go_sem, seval, En.cells, h1, h2, h3]
  exact K1 (by simp only [qoz, h1, h2, h3, Bool.false_eq_true, if_false, Bool.false_and, Bool.and_false])
 simp -implicitDefEqProofs -dsimp only [go_sem, seval, En.cells, h1, h2, h3, ↓J0 _ _ qox]
 refine cpn c2 ?_
 rcases h4 : qye e.t with _ | _
 ·simp -implicitDefEqProofs -dsimp only [go_sem, seval, h4, decide_true, decide_false, ↓N1, U6, true_and]
  exact K1 (by simp only [qoz, h1, h2, h3, h4, Bool.false_eq_true, if_false, Bool.false_and, Bool.and_false, Bool.true_and])
 simp -implicitDefEqProofs -dsimp only [go_sem, seval, h4, decide_true, decide_false, ↓N1, U6, true_and, ↓J0 _ _ Z2]
 refine cpn (q2f e.cl e.sq) ?_
 rcases h5 : qp6 e.cl e.sq with _ | _
 ·simp -implicitDefEqProofs -dsimp only [go_sem, seval, h4, h5, decide_true, decide_false, ↓N1, U6, true_and]
  exact K1 (by simp only [qoz, h1, h2, h3, h4, h5, Bool.false_eq_true, if_false, Bool.false_and, Bool.and_false, Bool.true_and])
 rcases h6 : decide (e.co = 0) with _ | _
 ·rcases h7 : decide (e.co = 8) with _ | _
  all_goals
   simp -implicitDefEqProofs -dsimp only [go_sem, seval, h4, h5, h6, h7, decide_true, decide_false, ↓N1, U6, true_and]
   exact K1 (by simp only [qoz, z76, h1, h2, h3, h4, h5, h6, h7, Bool.false_eq_true, if_false, Bool.false_and, Bool.and_false, Bool.true_and, Bool.false_or, Bool.true_or, Bool.not_false])
 ·simp -implicitDefEqProofs -dsimp only [go_sem, seval, h4, h5, h6, decide_true, decide_false, ↓N1, U6, true_and]
  exact K1 (by simp only [qoz, z76, h1, h2, h3, h4, h5, h6, Bool.false_eq_true, if_false, Bool.false_and, Bool.and_false, Bool.true_and, Bool.false_or, Bool.true_or, Bool.not_false])
theorem qw8 (e : En) (k1 k2 : Option Nat) (hf : e.t.Fine) (h01 : 0 <= e.t.sq) (h02 : 0 <= e.sq) : PCalls prog q4c [.agg (e.cells k1 k2)] (.b (qoz e)) := by
 refine K5 Q7 qjz (by simp) fun T => ?_
 have c1 := qei e.t k1 k2 hf h01
 simp only [Tx.cells] at c1
 unfold qc3
 rcases h1 : decide (e.ep = 0) with _ | _
 case true =>
  simp -implicitDefEqProofs -dsimp only [go_sem, seval, En.cells, h1]
  exact K1 (by rw [qoz, h1]; rfl)
 rcases h2 : decide (e.kd = 1) with _ | _
 case true =>
  simp -implicitDefEqProofs -dsimp only [go_sem, seval, En.cells, h1, h2, ↓J0 _ _ q2y]
  refine cpn c1 ?_
  rcases h3 : qgd e.t with _ | _
  ·simp -implicitDefEqProofs -dsimp only [go_sem, seval, h3, decide_true, decide_false]
   exact K1 (by simp only [qoz, h1, h2, h3, if_true, Bool.false_and, Bool.and_false])
  rcases h4 : (decide (e.cl = 0) && decide (e.sq = 0)) with _ | _
  ·simp -implicitDefEqProofs -dsimp only [go_sem, seval, h3, h4, U2, K6, Bool.and_true, decide_true, decide_false]
   exact K1 (by simp only [qoz, h1, h2, h3, h4, if_true, Bool.false_and, Bool.and_false, Bool.true_and])
  ·simp -implicitDefEqProofs -dsimp only [go_sem, seval, h3, h4, U2, K6, Bool.and_true, decide_true, decide_false]
   exact K1 (by simp only [qoz, h1, h2, h3, h4, if_true, Bool.false_and, Bool.and_false, Bool.true_and, Bool.not_false])
 have hno : ∀ b, qye e.t = b -> qye e.t = b := fun b h => h
 rcases h3 : decide (e.kd = 2) with _ | _
 ·simp -implicitDefEqProofs -dsimp only [go_sem, seval, En.cells, h1, h2, h3, decide_true, decide_false]
  exact K1 (by simp only [qoz, h1, h2, h3, Bool.false_eq_true, if_false, Bool.false_and, Bool.and_false])
 have hend : ∀ b, (qye e.t && qp6 e.cl e.sq && z76 e.co) = b -> qnz (.b b) (fun v T' => v = .b (qoz e) /\ T' = T) T := fun b h => K1 (by simp only [qoz, h1, h2, h3, h, Bool.false_eq_true, if_false, Bool.true_and, Bool.not_false])
 have n0 : decide ((e.t.rs.length : Int) + e.t.ws.length = 0) = (!decide (0 < (e.t.rs.length : Int)) && !decide (0 < (e.t.ws.length : Int))) := by
  by_cases a : e.t.rs.length = 0 <;> by_cases b : e.t.ws.length = 0
  ·rw [a, b]; rfl
  ·rw [decide_eq_false (by omega), decide_eq_true (p := (0 : Int) < (e.t.ws.length : Int)) (by omega)]; simp
  ·rw [decide_eq_false (by omega), decide_eq_true (p := (0 : Int) < (e.t.rs.length : Int)) (by omega)]; simp
  ·rw [decide_eq_false (by omega), decide_eq_true (p := (0 : Int) < (e.t.rs.length : Int)) (by omega)]; simp
 rcases h4 : (decide (e.t.cl = 0) && decide (e.t.sq = 0)) with _ | _
 ·simp -implicitDefEqProofs -dsimp only [go_sem, seval, En.cells, h1, h2, h3, h4, U2, K6, Bool.and_true, decide_true, decide_false]
  exact hend false (by simp only [qye, h4, Bool.false_and])
 rcases h5 : e.t.pl with _ | _
 case true =>
  simp -implicitDefEqProofs -dsimp only [go_sem, seval, En.cells, h1, h2, h3, h4, h5, U2, K6, Bool.and_true, decide_true, decide_false]
  exact hend false (by simp only [qye, h4, h5, Bool.false_and, Bool.true_and, Bool.not_true])
 rcases h6 : decide (0 < (e.t.rs.length : Int)) with _ | _
 case true =>
  simp -implicitDefEqProofs -dsimp only [go_sem, seval, En.cells, h1, h2, h3, h4, h5, h6, U2, K6, Bool.and_true, decide_true, decide_false]
  exact hend false (by simp only [qye, n0, h4, h5, h6, Bool.false_and, Bool.true_and, Bool.not_true, Bool.and_false])
 rcases h7 : decide (0 < (e.t.ws.length : Int)) with _ | _
 case true =>
  simp -implicitDefEqProofs -dsimp only [go_sem, seval, En.cells, h1, h2, h3, h4, h5, h6, h7, U2, K6, Bool.and_true, decide_true, decide_false]
  exact hend false (by simp only [qye, n0, h4, h5, h6, h7, Bool.false_and, Bool.true_and, Bool.not_true, Bool.and_false])
 simp -implicitDefEqProofs -dsimp only [go_sem, seval, En.cells, h1, h2, h3, h4, h5, h6, h7, U2, K6, Bool.and_true, decide_true, decide_false, ↓N1, U6, true_and, ↓J0 _ _ N7]
 refine cpn (qlo e.cl e.sq h02) ?_
 have h8 : qye e.t = true := by simp only [qye, n0, h4, h5, h6, h7, Bool.false_and, Bool.true_and, Bool.not_true, Bool.not_false, Bool.and_false]
 rcases h9 : qp6 e.cl e.sq with _ | _
 ·simp -implicitDefEqProofs -dsimp only [go_sem, seval, h9, decide_true, decide_false, ↓N1, U6, true_and]
  exact hend false (by simp only [h8, h9, Bool.false_and, Bool.and_false, Bool.true_and])
 rcases h10 : decide (e.co = 0) with _ | _
 ·rcases h11 : decide (e.co = 8) with _ | _
  all_goals
   simp -implicitDefEqProofs -dsimp only [go_sem, seval, h9, h10, h11, decide_true, decide_false, ↓N1, U6, true_and]
   exact hend _ (by simp only [z76, h8, h9, h10, h11, Bool.false_and, Bool.and_false, Bool.true_and, Bool.false_or, Bool.true_or])
 ·simp -implicitDefEqProofs -dsimp only [go_sem, seval, h9, h10, decide_true, decide_false, ↓N1, U6, true_and]
  exact hend _ (by simp only [z76, h8, h9, h10, Bool.false_and, Bool.and_false, Bool.true_and, Bool.false_or, Bool.true_or])
end Go.Aw
