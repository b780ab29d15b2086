import Derived.Test.YteiamcnjlpbihaaGreatDoorN17E12Q
import Derived.Test.YteiamcnjlpbihaaGreatDoorN17E12R
namespace Go.Aw
open Go
open Go.Proofs.Tryz (prog)
set_option linter.all false
set_option maxHeartbeats 4000000
structure En where
 ep : Int
 kd : Int
 t : Tx
 cl : Int
 sq : Int
 co : Int
def En.cells (e : En) (k1 k2 : Option Nat) : List AV :=
 [.i .u64 e.ep, .i .i64 e.kd, .i .i64 e.t.cl, .i .u64 e.t.sq, .b e.t.pl, .fz e.t.rs.length (e.t.rs.flatMap rdC) k1, .fz e.t.ws.length (e.t.ws.flatMap wtC) k2, .i .i64 e.cl, .i .u64 e.sq, .i .i64 e.co]
def En.our (e : En) : En := { e with t := e.t.our }
theorem z5w (e : En) (k1 k2 : Option Nat) (hf : e.t.Wide) : PCalls prog q5n [.agg (e.cells k1 k2)] (.agg (e.our.cells none none)) := by
 refine K7 U3 ql5 (by simp) fun T => ?_
 have h := qy5 e.t k1 k2 hf
 simp only [Tx.cells] at h
 unfold qcr
 simp -implicitDefEqProofs -dsimp only [go_sem, seval, En.cells, ↓J0 _ _ qb8]
 refine cpn h ?_
 simp -implicitDefEqProofs -dsimp only [go_sem, seval]
 exact J9 rfl
theorem z3c (e : En) (k1 k2 : Option Nat) (hf : e.t.Fine) : PCalls prog q4o [.agg (e.cells k1 k2)] (.agg (e.cells none none)) := by
 refine K7 U3 qjk (by simp) fun T => ?_
 have h := qs1 e.t k1 k2 hf
 simp only [Tx.cells] at h
 unfold qbv
 simp -implicitDefEqProofs -dsimp only [go_sem, seval, En.cells, ↓J0 _ _ qa5]
 refine cpn h ?_
 simp -implicitDefEqProofs -dsimp only [go_sem, seval]
 exact J9 rfl
def qz2 (t : Tx) : Bool := decide (t.cl = 0) && decide (t.sq = 0) && !t.pl && decide ((t.rs.length : Int) + t.ws.length = 0)
theorem zc5 (t : Tx) (k1 k2 : Option Nat) (hf : t.Fine) : PCalls prog q8z [.agg (t.cells k1 k2)] (.b (qz2 t)) := by
 refine K7 U3 qq6 (by simp) fun T => ?_
 have h1 := hf.r
 have h2 := hf.w
 have w1 : IntKind.i64.wrap ((t.rs.length : Int) + t.ws.length) = (t.rs.length : Int) + t.ws.length := q2l (by unfold I64; omega)
 unfold qh0
 simp -implicitDefEqProofs -dsimp only [go_sem, seval, Tx.cells, w1, Z4, O2, Bool.and_true]
 (first | (apply J2 <;> intro h_1 <;> simp -implicitDefEqProofs -dsimp only [go_sem, seval, w1, decide_true, decide_false, h_1]) | (have h_1 := trivial)) <;>
  (first | (apply J2 <;> intro h_2 <;> simp -implicitDefEqProofs -dsimp only [go_sem, seval, w1, decide_true, decide_false, h_1, h_2]) | (have h_2 := trivial)) <;>
  (first | (apply J2 <;> intro h_3 <;> simp -implicitDefEqProofs -dsimp only [go_sem, seval, w1, decide_true, decide_false, h_1, h_2, h_3]) | (have h_3 := trivial)) <;>
  (first | (apply J2 <;> intro h_4 <;> simp -implicitDefEqProofs -dsimp only [go_sem, seval, w1, decide_true, decide_false, h_1, h_2, h_3, h_4]) | (have h_4 := trivial))
 all_goals
  refine J9 ?_
  simp only [qz2, *, Bool.not_true, Bool.not_false, Bool.true_and, Bool.false_and, Bool.and_false, Bool.and_true]
def zap (c : Int) : Bool := decide (c = 0) || (decide (c = 8) || decide (c = 11))
def qeo (e : En) : Bool :=
 !decide (e.ep = 0) && (if decide (e.kd = 1) then qqi e.t && (decide (e.cl = 0) && decide (e.sq = 0)) && decide (e.co = 0)
  else decide (e.kd = 2) && (qz2 e.t && qj0 e.cl e.sq && zap e.co))
theorem qfi (e : En) (k1 k2 : Option Nat) (hf : e.t.Fine) : PCalls prog q7x [.agg (e.cells k1 k2)] (.b (qeo e)) := by
 refine K7 U3 qvp (by simp) fun T => ?_
 have c1 := qm1 e.t k1 k2 hf
 have c2 := zc5 e.t k1 k2 hf
 simp only [Tx.cells] at c1 c2
 unfold qnw
 rcases h1 : decide (e.ep = 0) with _ | _
 case true =>
  simp -implicitDefEqProofs -dsimp only [go_sem, seval, En.cells, h1]
  exact J9 (by rw [qeo, h1]; rfl)
 rcases h2 : decide (e.kd = 1) with _ | _
 case true =>
  simp -implicitDefEqProofs -dsimp only [go_sem, seval, En.cells, h1, h2, ↓J0 _ _ Z8]
  refine cpn c1 ?_
  rcases h3 : qqi e.t with _ | _
  ·simp -implicitDefEqProofs -dsimp only [go_sem, seval, h3, decide_true, decide_false]
   exact J9 (by simp only [qeo, h1, h2, h3, if_true, Bool.false_and, Bool.and_false])
  rcases h4 : (decide (e.cl = 0) && decide (e.sq = 0)) with _ | _
  ·simp -implicitDefEqProofs -dsimp only [go_sem, seval, h3, h4, Z4, O2, Bool.and_true, decide_true, decide_false]
   exact J9 (by simp only [qeo, h1, h2, h3, h4, if_true, Bool.false_and, Bool.and_false, Bool.true_and])
  ·simp -implicitDefEqProofs -dsimp only [go_sem, seval, h3, h4, Z4, O2, Bool.and_true, decide_true, decide_false]
   exact J9 (by simp only [qeo, h1, h2, h3, h4, if_true, Bool.false_and, Bool.and_false, Bool.true_and, Bool.not_false])
 rcases h3 : decide (e.kd = 2) with _ | _
 ·simp -implicitDefEqProofs -dsimp only [go_sem, seval, En.cells, h1, h2, h3]
  exact J9 (by simp only [qeo, h1, h2, h3, Bool.false_eq_true, if_false, Bool.false_and, Bool.and_false])
 simp -implicitDefEqProofs -dsimp only [go_sem, seval, En.cells, h1, h2, h3, ↓J0 _ _ qq7]
 refine cpn c2 ?_
 rcases h4 : qz2 e.t with _ | _
 ·simp -implicitDefEqProofs -dsimp only [go_sem, seval, h4, decide_true, decide_false, ↓Q1, G6, true_and]
  exact J9 (by simp only [qeo, h1, h2, h3, h4, Bool.false_eq_true, if_false, Bool.false_and, Bool.and_false, Bool.true_and])
 simp -implicitDefEqProofs -dsimp only [go_sem, seval, h4, decide_true, decide_false, ↓Q1, G6, true_and, ↓J0 _ _ G8]
 refine cpn (q2t e.cl e.sq) ?_
 rcases h5 : qj0 e.cl e.sq with _ | _
 ·simp -implicitDefEqProofs -dsimp only [go_sem, seval, h4, h5, decide_true, decide_false, ↓Q1, G6, true_and]
  exact J9 (by simp only [qeo, h1, h2, h3, h4, h5, Bool.false_eq_true, if_false, Bool.false_and, Bool.and_false, Bool.true_and])
 rcases h6 : decide (e.co = 0) with _ | _
 ·rcases h7 : decide (e.co = 8) with _ | _
  all_goals
   simp -implicitDefEqProofs -dsimp only [go_sem, seval, h4, h5, h6, h7, decide_true, decide_false, ↓Q1, G6, true_and]
   exact J9 (by simp only [qeo, zap, h1, h2, h3, h4, h5, h6, h7, Bool.false_eq_true, if_false, Bool.false_and, Bool.and_false, Bool.true_and, Bool.false_or, Bool.true_or, Bool.not_false])
 ·simp -implicitDefEqProofs -dsimp only [go_sem, seval, h4, h5, h6, decide_true, decide_false, ↓Q1, G6, true_and]
  exact J9 (by simp only [qeo, zap, h1, h2, h3, h4, h5, h6, Bool.false_eq_true, if_false, Bool.false_and, Bool.and_false, Bool.true_and, Bool.false_or, Bool.true_or, Bool.not_false])
theorem z0l (e : En) (k1 k2 : Option Nat) (hf : e.t.Fine) (h01 : 0 <= e.t.sq) (h02 : 0 <= e.sq) : PCalls prog q4s [.agg (e.cells k1 k2)] (.b (qeo e)) := by
 refine K7 U3 qju (by simp) fun T => ?_
 have c1 := qpr e.t k1 k2 hf h01
 simp only [Tx.cells] at c1
 unfold qbz
 rcases h1 : decide (e.ep = 0) with _ | _
 case true =>
  simp -implicitDefEqProofs -dsimp only [go_sem, seval, En.cells, h1]
  exact J9 (by rw [qeo, h1]; rfl)
 rcases h2 : decide (e.kd = 1) with _ | _
 case true =>
  simp -implicitDefEqProofs -dsimp only [go_sem, seval, En.cells, h1, h2, ↓J0 _ _ qa7]
  refine cpn c1 ?_
  rcases h3 : qqi e.t with _ | _
  ·simp -implicitDefEqProofs -dsimp only [go_sem, seval, h3, decide_true, decide_false]
   exact J9 (by simp only [qeo, h1, h2, h3, if_true, Bool.false_and, Bool.and_false])
  rcases h4 : (decide (e.cl = 0) && decide (e.sq = 0)) with _ | _
  ·simp -implicitDefEqProofs -dsimp only [go_sem, seval, h3, h4, Z4, O2, Bool.and_true, decide_true, decide_false]
   exact J9 (by simp only [qeo, h1, h2, h3, h4, if_true, Bool.false_and, Bool.and_false, Bool.true_and])
  ·simp -implicitDefEqProofs -dsimp only [go_sem, seval, h3, h4, Z4, O2, Bool.and_true, decide_true, decide_false]
   exact J9 (by simp only [qeo, h1, h2, h3, h4, if_true, Bool.false_and, Bool.and_false, Bool.true_and, Bool.not_false])
 have hno : ∀ b, qz2 e.t = b -> qz2 e.t = b := fun b h => h
 rcases h3 : decide (e.kd = 2) with _ | _
 ·simp -implicitDefEqProofs -dsimp only [go_sem, seval, En.cells, h1, h2, h3, decide_true, decide_false]
  exact J9 (by simp only [qeo, h1, h2, h3, Bool.false_eq_true, if_false, Bool.false_and, Bool.and_false])
 have hend : ∀ b, (qz2 e.t && qj0 e.cl e.sq && zap e.co) = b -> qta (.b b) (fun v T' => v = .b (qeo e) /\ T' = T) T := fun b h => J9 (by simp only [qeo, h1, h2, h3, h, Bool.false_eq_true, if_false, Bool.true_and, Bool.not_false])
 have n0 : decide ((e.t.rs.length : Int) + e.t.ws.length = 0) = (!decide (0 < (e.t.rs.length : Int)) && !decide (0 < (e.t.ws.length : Int))) := by
  by_cases a : e.t.rs.length = 0 <;> by_cases b : e.t.ws.length = 0
  ·rw [a, b]; rfl
  ·rw [decide_eq_false (by omega), decide_eq_true (p := (0 : Int) < (e.t.ws.length : Int)) (by omega)]; simp
  ·rw [decide_eq_false (by omega), decide_eq_true (p := (0 : Int) < (e.t.rs.length : Int)) (by omega)]; simp
  ·rw [decide_eq_false (by omega), decide_eq_true (p := (0 : Int) < (e.t.rs.length : Int)) (by omega)]; simp
 rcases h4 : (decide (e.t.cl = 0) && decide (e.t.sq = 0)) with _ | _
 ·simp -implicitDefEqProofs -dsimp only [go_sem, seval, En.cells, h1, h2, h3, h4, Z4, O2, Bool.and_true, decide_true, decide_false]
  exact hend false (by simp only [qz2, h4, Bool.false_and])
 rcases h5 : e.t.pl with _ | _
 case true =>
  simp -implicitDefEqProofs -dsimp only [go_sem, seval, En.cells, h1, h2, h3, h4, h5, Z4, O2, Bool.and_true, decide_true, decide_false]
  exact hend false (by simp only [qz2, h4, h5, Bool.false_and, Bool.true_and, Bool.not_true])
 rcases h6 : decide (0 < (e.t.rs.length : Int)) with _ | _
 case true =>
  simp -implicitDefEqProofs -dsimp only [go_sem, seval, En.cells, h1, h2, h3, h4, h5, h6, Z4, O2, Bool.and_true, decide_true, decide_false]
  exact hend false (by simp only [qz2, n0, h4, h5, h6, Bool.false_and, Bool.true_and, Bool.not_true, Bool.and_false])
 rcases h7 : decide (0 < (e.t.ws.length : Int)) with _ | _
 case true =>
  simp -implicitDefEqProofs -dsimp only [go_sem, seval, En.cells, h1, h2, h3, h4, h5, h6, h7, Z4, O2, Bool.and_true, decide_true, decide_false]
  exact hend false (by simp only [qz2, n0, h4, h5, h6, h7, Bool.false_and, Bool.true_and, Bool.not_true, Bool.and_false])
 simp -implicitDefEqProofs -dsimp only [go_sem, seval, En.cells, h1, h2, h3, h4, h5, h6, h7, Z4, O2, Bool.and_true, decide_true, decide_false, ↓Q1, G6, true_and, ↓J0 _ _ O3]
 refine cpn (qm2 e.cl e.sq h02) ?_
 have h8 : qz2 e.t = true := by simp only [qz2, n0, h4, h5, h6, h7, Bool.false_and, Bool.true_and, Bool.not_true, Bool.not_false, Bool.and_false]
 rcases h9 : qj0 e.cl e.sq with _ | _
 ·simp -implicitDefEqProofs -dsimp only [go_sem, seval, h9, decide_true, decide_false, ↓Q1, G6, true_and]
  exact hend false (by simp only [h8, h9, Bool.false_and, Bool.and_false, Bool.true_and])
 rcases h10 : decide (e.co = 0) with _ | _
 ·rcases h11 : decide (e.co = 8) with _ | _
  all_goals
   simp -implicitDefEqProofs -dsimp only [go_sem, seval, h9, h10, h11, decide_true, decide_false, ↓Q1, G6, true_and]
   exact hend _ (by simp only [zap, h8, h9, h10, h11, Bool.false_and, Bool.and_false, Bool.true_and, Bool.false_or, Bool.true_or])
 ·simp -implicitDefEqProofs -dsimp only [go_sem, seval, h9, h10, decide_true, decide_false, ↓Q1, G6, true_and]
  exact hend _ (by simp only [zap, h8, h9, h10, Bool.false_and, Bool.and_false, Bool.true_and, Bool.false_or, Bool.true_or])
theorem z1s (b : List UInt8) (c : Option Nat) (cl sq : Nat) (hb : b.length <= 1000000) (hc : cl < 9223372036854775808) (hs : sq < 18446744073709551616) : PCalls prog q9z [bts b c, .agg [.i .i64 cl, .i .u64 sq]] (bts (b ++ enc cl ++ enc sq) none) := by
 refine K7 U3 qvl (by simp) fun T => ?_
 unfold qnk
 have h1 := K5 (m := cl) (by omega)
 have c1 := q0h b c cl (by omega) (by omega)
 have c2 := q0h (b ++ enc cl) none sq (by rw [List.length_append]; omega) hs
 simp only [bts] at c1 c2
 simp -implicitDefEqProofs -dsimp only [go_sem, seval, bts, q0r (n := cl) (by omega), ↓J0 _ _ U1]
 refine cpn c1 ?_
 simp -implicitDefEqProofs -dsimp only [go_sem, seval, ↓J0 _ _ U1]
 refine cpn c2 ?_
 simp -implicitDefEqProofs -dsimp only [go_sem, seval]
 exact J9 rfl
end Go.Aw
namespace Go.Aw
open Go
open Go.Proofs.Tryz (prog)
set_option linter.all false
set_option maxHeartbeats 4000000
end Go.Aw
