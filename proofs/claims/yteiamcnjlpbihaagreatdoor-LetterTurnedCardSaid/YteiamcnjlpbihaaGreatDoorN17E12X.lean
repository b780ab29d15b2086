import Derived.Test.YteiamcnjlpbihaaGreatDoorN17E12Q
import Derived.Test.YteiamcnjlpbihaaGreatDoorN17E12R
namespace Go.Aw
open Go
open Go.Proofs.Tryz (prog)
set_option linter.all false
set_option maxHeartbeats 4000000
structure En where
 ep : Int
 kd : Int
 t : Tx
 cl : Int
 sq : Int
 co : Int
def En.cells (e : En) (k1 k2 : Option Nat) : List AV :=
 [.i .u64 e.ep, .i .i64 e.kd, .i .i64 e.t.cl, .i .u64 e.t.sq, .b e.t.pl, .fz e.t.rs.length (e.t.rs.flatMap rdC) k1, .fz e.t.ws.length (e.t.ws.flatMap wtC) k2, .i .i64 e.cl, .i .u64 e.sq, .i .i64 e.co]
def En.our (e : En) : En := { e with t := e.t.our }
theorem z12 (e : En) (k1 k2 : Option Nat) (hf : e.t.Wide) : PCalls prog q50 [.agg (e.cells k1 k2)] (.agg (e.our.cells none none)) := by
 refine K6 U7 qid (by simp) fun T => ?_
 have h := qtl e.t k1 k2 hf
 simp only [Tx.cells] at h
 unfold qb8
 simp -implicitDefEqProofs -dsimp only [go_sem, seval, En.cells, ↓J0 _ _ q9r]
 refine cpn h ?_
 simp -implicitDefEqProofs -dsimp only [go_sem, seval]
 exact J9 rfl
theorem qyg (e : En) (k1 k2 : Option Nat) (hf : e.t.Fine) : PCalls prog q42 [.agg (e.cells k1 k2)] (.agg (e.cells none none)) := by
 refine K6 U7 qgt (by simp) fun T => ?_
 have h := qo8 e.t k1 k2 hf
 simp only [Tx.cells] at h
 unfold qac
 simp -implicitDefEqProofs -dsimp only [go_sem, seval, En.cells, ↓J0 _ _ q8q]
 refine cpn h ?_
 simp -implicitDefEqProofs -dsimp only [go_sem, seval]
 exact J9 rfl
def qu9 (t : Tx) : Bool := decide (t.cl = 0) && decide (t.sq = 0) && !t.pl && decide ((t.rs.length : Int) + t.ws.length = 0)
theorem z7r (t : Tx) (k1 k2 : Option Nat) (hf : t.Fine) : PCalls prog q7r [.agg (t.cells k1 k2)] (.b (qu9 t)) := by
 refine K6 U7 qmd (by simp) fun T => ?_
 have h1 := hf.r
 have h2 := hf.w
 have w1 : IntKind.i64.wrap ((t.rs.length : Int) + t.ws.length) = (t.rs.length : Int) + t.ws.length := q13 (by unfold I64; omega)
 unfold qen
 simp -implicitDefEqProofs -dsimp only [go_sem, seval, Tx.cells, w1, Y3, N4, Bool.and_true]
 (first | (apply J2 <;> intro h_1 <;> simp -implicitDefEqProofs -dsimp only [go_sem, seval, w1, decide_true, decide_false, h_1]) | (have h_1 := trivial)) <;>
  (first | (apply J2 <;> intro h_2 <;> simp -implicitDefEqProofs -dsimp only [go_sem, seval, w1, decide_true, decide_false, h_1, h_2]) | (have h_2 := trivial)) <;>
  (first | (apply J2 <;> intro h_3 <;> simp -implicitDefEqProofs -dsimp only [go_sem, seval, w1, decide_true, decide_false, h_1, h_2, h_3]) | (have h_3 := trivial)) <;>
  (first | (apply J2 <;> intro h_4 <;> simp -implicitDefEqProofs -dsimp only [go_sem, seval, w1, decide_true, decide_false, h_1, h_2, h_3, h_4]) | (have h_4 := trivial))
 all_goals
  refine J9 ?_
  simp only [qu9, *, Bool.not_true, Bool.not_false, Bool.true_and, Bool.false_and, Bool.and_false, Bool.and_true]
def z69 (c : Int) : Bool := decide (c = 0) || (decide (c = 8) || decide (c = 11))
def qdb (e : En) : Bool :=
 !decide (e.ep = 0) && (if decide (e.kd = 1) then qo7 e.t && (decide (e.cl = 0) && decide (e.sq = 0)) && decide (e.co = 0)
  else decide (e.kd = 2) && (qu9 e.t && qhx e.cl e.sq && z69 e.co))
theorem qd7 (e : En) (k1 k2 : Option Nat) (hf : e.t.Fine) : PCalls prog q6u [.agg (e.cells k1 k2)] (.b (qdb e)) := by
 refine K6 U7 qr6 (by simp) fun T => ?_
 have c1 := qj1 e.t k1 k2 hf
 have c2 := z7r e.t k1 k2 hf
 simp only [Tx.cells] at c1 c2
 unfold qk7
 rcases h1 : decide (e.ep = 0) with _ | _
 case true =>
  simp -implicitDefEqProofs -dsimp only [go_sem, seval, En.cells, h1]
  exact J9 (by rw [qdb, h1]; rfl)
 rcases h2 : decide (e.kd = 1) with _ | _
 case true =>
  simp -implicitDefEqProofs -dsimp only [go_sem, seval, En.cells, h1, h2, ↓J0 _ _ Y6]
  refine cpn c1 ?_
  rcases h3 : qo7 e.t with _ | _
  ·simp -implicitDefEqProofs -dsimp only [go_sem, seval, h3, decide_true, decide_false]
   exact J9 (by simp only [qdb, h1, h2, h3, if_true, Bool.false_and, Bool.and_false])
  rcases h4 : (decide (e.cl = 0) && decide (e.sq = 0)) with _ | _
  ·simp -implicitDefEqProofs -dsimp only [go_sem, seval, h3, h4, Y3, N4, Bool.and_true, decide_true, decide_false]
   exact J9 (by simp only [qdb, h1, h2, h3, h4, if_true, Bool.false_and, Bool.and_false, Bool.true_and])
  ·simp -implicitDefEqProofs -dsimp only [go_sem, seval, h3, h4, Y3, N4, Bool.and_true, decide_true, decide_false]
   exact J9 (by simp only [qdb, h1, h2, h3, h4, if_true, Bool.false_and, Bool.and_false, Bool.true_and, Bool.not_false])
 rcases h3 : decide (e.kd = 2) with _ | _
 ·simp -implicitDefEqProofs -dsimp only [go_sem, seval, En.cells, h1, h2, h3]
  exact J9 (by simp only [qdb, h1, h2, h3, Bool.false_eq_true, if_false, Bool.false_and, Bool.and_false])
 simp -implicitDefEqProofs -dsimp only [go_sem, seval, En.cells, h1, h2, h3, ↓J0 _ _ qme]
 refine cpn c2 ?_
 rcases h4 : qu9 e.t with _ | _
 ·simp -implicitDefEqProofs -dsimp only [go_sem, seval, h4, decide_true, decide_false, ↓O9, Z3, true_and]
  exact J9 (by simp only [qdb, h1, h2, h3, h4, Bool.false_eq_true, if_false, Bool.false_and, Bool.and_false, Bool.true_and])
 simp -implicitDefEqProofs -dsimp only [go_sem, seval, h4, decide_true, decide_false, ↓O9, Z3, true_and, ↓J0 _ _ Z4]
 refine cpn (q2a e.cl e.sq) ?_
 rcases h5 : qhx e.cl e.sq with _ | _
 ·simp -implicitDefEqProofs -dsimp only [go_sem, seval, h4, h5, decide_true, decide_false, ↓O9, Z3, true_and]
  exact J9 (by simp only [qdb, h1, h2, h3, h4, h5, Bool.false_eq_true, if_false, Bool.false_and, Bool.and_false, Bool.true_and])
 rcases h6 : decide (e.co = 0) with _ | _
 ·rcases h7 : decide (e.co = 8) with _ | _
  all_goals
   simp -implicitDefEqProofs -dsimp only [go_sem, seval, h4, h5, h6, h7, decide_true, decide_false, ↓O9, Z3, true_and]
   exact J9 (by simp only [qdb, z69, h1, h2, h3, h4, h5, h6, h7, Bool.false_eq_true, if_false, Bool.false_and, Bool.and_false, Bool.true_and, Bool.false_or, Bool.true_or, Bool.not_false])
 ·simp -implicitDefEqProofs -dsimp only [go_sem, seval, h4, h5, h6, decide_true, decide_false, ↓O9, Z3, true_and]
  exact J9 (by simp only [qdb, z69, h1, h2, h3, h4, h5, h6, Bool.false_eq_true, if_false, Bool.false_and, Bool.and_false, Bool.true_and, Bool.false_or, Bool.true_or, Bool.not_false])
theorem qvx (e : En) (k1 k2 : Option Nat) (hf : e.t.Fine) (h01 : 0 <= e.t.sq) (h02 : 0 <= e.sq) : PCalls prog q46 [.agg (e.cells k1 k2)] (.b (qdb e)) := by
 refine K6 U7 qh3 (by simp) fun T => ?_
 have c1 := qlw e.t k1 k2 hf h01
 simp only [Tx.cells] at c1
 unfold qag
 rcases h1 : decide (e.ep = 0) with _ | _
 case true =>
  simp -implicitDefEqProofs -dsimp only [go_sem, seval, En.cells, h1]
  exact J9 (by rw [qdb, h1]; rfl)
 rcases h2 : decide (e.kd = 1) with _ | _
 case true =>
  simp -implicitDefEqProofs -dsimp only [go_sem, seval, En.cells, h1, h2, ↓J0 _ _ q8s]
  refine cpn c1 ?_
  rcases h3 : qo7 e.t with _ | _
  ·simp -implicitDefEqProofs -dsimp only [go_sem, seval, h3, decide_true, decide_false]
   exact J9 (by simp only [qdb, h1, h2, h3, if_true, Bool.false_and, Bool.and_false])
  rcases h4 : (decide (e.cl = 0) && decide (e.sq = 0)) with _ | _
  ·simp -implicitDefEqProofs -dsimp only [go_sem, seval, h3, h4, Y3, N4, Bool.and_true, decide_true, decide_false]
   exact J9 (by simp only [qdb, h1, h2, h3, h4, if_true, Bool.false_and, Bool.and_false, Bool.true_and])
  ·simp -implicitDefEqProofs -dsimp only [go_sem, seval, h3, h4, Y3, N4, Bool.and_true, decide_true, decide_false]
   exact J9 (by simp only [qdb, h1, h2, h3, h4, if_true, Bool.false_and, Bool.and_false, Bool.true_and, Bool.not_false])
 have hno : ∀ b, qu9 e.t = b -> qu9 e.t = b := fun b h => h
 rcases h3 : decide (e.kd = 2) with _ | _
 ·simp -implicitDefEqProofs -dsimp only [go_sem, seval, En.cells, h1, h2, h3, decide_true, decide_false]
  exact J9 (by simp only [qdb, h1, h2, h3, Bool.false_eq_true, if_false, Bool.false_and, Bool.and_false])
 have hend : ∀ b, (qu9 e.t && qhx e.cl e.sq && z69 e.co) = b -> qor (.b b) (fun v T' => v = .b (qdb e) /\ T' = T) T := fun b h => J9 (by simp only [qdb, h1, h2, h3, h, Bool.false_eq_true, if_false, Bool.true_and, Bool.not_false])
 have n0 : decide ((e.t.rs.length : Int) + e.t.ws.length = 0) = (!decide (0 < (e.t.rs.length : Int)) && !decide (0 < (e.t.ws.length : Int))) := by
  by_cases a : e.t.rs.length = 0 <;> by_cases b : e.t.ws.length = 0
  ·rw [a, b]; rfl
  ·rw [decide_eq_false (by omega), decide_eq_true (p := (0 : Int) < (e.t.ws.length : Int)) (by omega)]; simp
  ·rw [decide_eq_false (by omega), decide_eq_true (p := (0 : Int) < (e.t.rs.length : Int)) (by omega)]; simp
  ·rw [decide_eq_false (by omega), decide_eq_true (p := (0 : Int) < (e.t.rs.length : Int)) (by omega)]; simp
 rcases h4 : (decide (e.t.cl = 0) && decide (e.t.sq = 0)) with _ | _
 ·simp -implicitDefEqProofs -dsimp only [go_sem, seval, En.cells, h1, h2, h3, h4, Y3, N4, Bool.and_true, decide_true, decide_false]
  exact hend false (by simp only [qu9, h4, Bool.false_and])
 rcases h5 : e.t.pl with _ | _
 case true =>
  simp -implicitDefEqProofs -dsimp only [go_sem, seval, En.cells, h1, h2, h3, h4, h5, Y3, N4, Bool.and_true, decide_true, decide_false]
  exact hend false (by simp only [qu9, h4, h5, Bool.false_and, Bool.true_and, Bool.not_true])
 rcases h6 : decide (0 < (e.t.rs.length : Int)) with _ | _
 case true =>
  simp -implicitDefEqProofs -dsimp only [go_sem, seval, En.cells, h1, h2, h3, h4, h5, h6, Y3, N4, Bool.and_true, decide_true, decide_false]
  exact hend false (by simp only [qu9, n0, h4, h5, h6, Bool.false_and, Bool.true_and, Bool.not_true, Bool.and_false])
 rcases h7 : decide (0 < (e.t.ws.length : Int)) with _ | _
 case true =>
  simp -implicitDefEqProofs -dsimp only [go_sem, seval, En.cells, h1, h2, h3, h4, h5, h6, h7, Y3, N4, Bool.and_true, decide_true, decide_false]
  exact hend false (by simp only [qu9, n0, h4, h5, h6, h7, Bool.false_and, Bool.true_and, Bool.not_true, Bool.and_false])
 simp -implicitDefEqProofs -dsimp only [go_sem, seval, En.cells, h1, h2, h3, h4, h5, h6, h7, Y3, N4, Bool.and_true, decide_true, decide_false, ↓O9, Z3, true_and, ↓J0 _ _ N9]
 refine cpn (qj2 e.cl e.sq h02) ?_
 have h8 : qu9 e.t = true := by simp only [qu9, n0, h4, h5, h6, h7, Bool.false_and, Bool.true_and, Bool.not_true, Bool.not_false, Bool.and_false]
 rcases h9 : qhx e.cl e.sq with _ | _
 ·simp -implicitDefEqProofs -dsimp only [go_sem, seval, h9, decide_true, decide_false, ↓O9, Z3, true_and]
  exact hend false (by simp only [h8, h9, Bool.false_and, Bool.and_false, Bool.true_and])
 rcases h10 : decide (e.co = 0) with _ | _
 ·rcases h11 : decide (e.co = 8) with _ | _
  all_goals
   simp -implicitDefEqProofs -dsimp only [go_sem, seval, h9, h10, h11, decide_true, decide_false, ↓O9, Z3, true_and]
   exact hend _ (by simp only [z69, h8, h9, h10, h11, Bool.false_and, Bool.and_false, Bool.true_and, Bool.false_or, Bool.true_or])
 ·simp -implicitDefEqProofs -dsimp only [go_sem, seval, h9, h10, decide_true, decide_false, ↓O9, Z3, true_and]
  exact hend _ (by simp only [z69, h8, h9, h10, Bool.false_and, Bool.and_false, Bool.true_and, Bool.false_or, Bool.true_or])
theorem qx0 (b : List UInt8) (c : Option Nat) (cl sq : Nat) (hb : b.length <= 1000000) (hc : cl < 9223372036854775808) (hs : sq < 18446744073709551616) : PCalls prog q8k [bts b c, .agg [.i .i64 cl, .i .u64 sq]] (bts (b ++ enc cl ++ enc sq) none) := by
 refine K6 U7 qr2 (by simp) fun T => ?_
 unfold qjv
 have h1 := K7 (m := cl) (by omega)
 have c1 := q05 b c cl (by omega) (by omega)
 have c2 := q05 (b ++ enc cl) none sq (by rw [List.length_append]; omega) hs
 simp only [bts] at c1 c2
 simp -implicitDefEqProofs -dsimp only [go_sem, seval, bts, q18 (n := cl) (by omega), ↓J0 _ _ Q7]
 refine cpn c1 ?_
 simp -implicitDefEqProofs -dsimp only [go_sem, seval, ↓J0 _ _ Q7]
 refine cpn c2 ?_
 simp -implicitDefEqProofs -dsimp only [go_sem, seval]
 exact J9 rfl
end Go.Aw
namespace Go.Aw
open Go
open Go.Proofs.Tryz (prog)
set_option linter.all false
set_option maxHeartbeats 4000000
end Go.Aw
