import Derived.Test.YtnkagdjmjakeiaaGreatDoorV22G21B
import Derived.Test.YtnkagdjmjakeiaaGreatDoorV22F04H
import Derived.Test.YtnkagdjmjakeiaaGreatDoorAwD
namespace Go.Aw
open Go
open Go.Proofs.Tryz (prog)
set_option linter.all false
set_option maxHeartbeats 4000000
structure Cm where
 k : Int
 sh : Int
 ep : Int
 nd : Int
def Cm.cells (c : Cm) : List AV := [.i .i64 c.k, .i .i64 c.sh, .i .u64 c.ep, .i .i64 c.nd]
def Cm.ok (c : Cm) : Bool := decide (1 <= c.k /\ c.k <= 4 /\ 0 <= c.sh /\ c.sh <= 3 /\ 0 < c.ep /\ 0 <= c.nd /\ c.nd <= 7)
theorem qvs {T : Tab} {x y : Bool} (h : x = y) : qdr (.b x) (fun v T' => v = .b y /\ T' = T) T := by subst h; exact K0 rfl
theorem qhg (c : Cm) : U4 prog q2m [.agg c.cells] (.b c.ok) := by
 refine K9 O2 qfp (by simp) fun T => ?_
 unfold qa9
 simp -implicitDefEqProofs -dsimp only [go_sem, seval, Cm.cells, decide_true, decide_false]
 (first | (apply J8 <;> intro h_1 <;> simp -implicitDefEqProofs -dsimp only [go_sem, seval, decide_true, decide_false, h_1]) | (have h_1 := trivial)) <;>
  (first | (apply J8 <;> intro h_2 <;> simp -implicitDefEqProofs -dsimp only [go_sem, seval, decide_true, decide_false, h_1, h_2]) | (have h_2 := trivial)) <;>
  (first | (apply J8 <;> intro h_3 <;> simp -implicitDefEqProofs -dsimp only [go_sem, seval, decide_true, decide_false, h_1, h_2, h_3]) | (have h_3 := trivial)) <;>
  (first | (apply J8 <;> intro h_4 <;> simp -implicitDefEqProofs -dsimp only [go_sem, seval, decide_true, decide_false, h_1, h_2, h_3, h_4]) | (have h_4 := trivial)) <;>
  (first | (apply J8 <;> intro h_5 <;> simp -implicitDefEqProofs -dsimp only [go_sem, seval, decide_true, decide_false, h_1, h_2, h_3, h_4, h_5]) | (have h_5 := trivial)) <;>
  (first | (apply J8 <;> intro h_6 <;> simp -implicitDefEqProofs -dsimp only [go_sem, seval, decide_true, decide_false, h_1, h_2, h_3, h_4, h_5, h_6]) | (have h_6 := trivial)) <;>
  (first | (apply J8 <;> intro h_7 <;> simp -implicitDefEqProofs -dsimp only [go_sem, seval, decide_true, decide_false, h_1, h_2, h_3, h_4, h_5, h_6, h_7]) | (have h_7 := trivial))
 all_goals
  refine qvs ?_
  rw [Cm.ok, Bool.eq_iff_iff, decide_eq_true_iff]
  simp only [decide_eq_true_eq, decide_eq_false_iff_not, Bool.false_eq_true, true_iff, false_iff, iff_true] at *
  omega
def wr4 (c : Cm) : List UInt8 := enc c.k.toNat ++ enc c.sh.toNat ++ enc c.ep.toNat ++ enc c.nd.toNat
def qq8 (c : Cm) : AV := if c.ok = true then .tup [.s (wr4 c), .i .i64 0] else .tup [.s [], .i .i64 1]
theorem q2x {n : Nat} (h : n < 18446744073709551616) : (enc n).length <= 10 := qh0 h
theorem qdk {n : Int} (h0 : 0 <= n) (h : n < 18446744073709551616) : IntKind.u64.wrap n = (n.toNat : Int) := by rw [IntWalk.u64_in _ (by omega)]; omega
theorem qg7 (c : Cm) (he : c.ep < 18446744073709551616) : U4 prog q40 [.agg c.cells] (qq8 c) := by
 refine K9 O2 qib (by simp) fun T => ?_
 unfold qd1
 have cr := qhg c
 simp only [Cm.cells] at cr
 simp -implicitDefEqProofs -dsimp only [go_sem, seval, Cm.cells, ↓J1 _ _ q63]
 refine cpn cr ?_
 rcases hok : c.ok with _ | _
 ·simp -implicitDefEqProofs -dsimp only [go_sem, seval, hok, Bool.not_false]
  rw [qq8, hok]
  exact K0 rfl
 have hh := of_decide_eq_true hok
 have w1 := qdk (n := c.k) (by omega) (by omega)
 have w2 := qdk (n := c.sh) (by omega) (by omega)
 have w3 : c.ep = (c.ep.toNat : Int) := by omega
 have w4 := qdk (n := c.nd) (by omega) (by omega)
 have l1 := q2x (n := c.k.toNat) (by omega)
 have l2 := q2x (n := c.sh.toNat) (by omega)
 have l3 := q2x (n := c.ep.toNat) (by omega)
 have c1 := qg5 [] (some 0) c.k.toNat (by simp) (by omega)
 have c2 := qg5 ([] ++ enc c.k.toNat) none c.sh.toNat (by simp only [List.length_append, List.length_nil]; omega) (by omega)
 have c3 := qg5 ([] ++ enc c.k.toNat ++ enc c.sh.toNat) none c.ep.toNat (by simp only [List.length_append, List.length_nil]; omega) (by omega)
 have c4 := qg5 ([] ++ enc c.k.toNat ++ enc c.sh.toNat ++ enc c.ep.toNat) none c.nd.toNat (by simp only [List.length_append, List.length_nil]; omega) (by omega)
 rw [<- w3] at c3
 simp -implicitDefEqProofs -dsimp only [go_sem, seval, hok, Bool.not_true, w1, w2, ↓J1 _ _ q64]
 refine cpn c1 ?_
 simp -implicitDefEqProofs -dsimp only [go_sem, seval, w2, ↓J1 _ _ q64]
 refine cpn c2 ?_
 simp -implicitDefEqProofs -dsimp only [go_sem, seval, w4, ↓J1 _ _ q64]
 refine cpn c3 ?_
 simp -implicitDefEqProofs -dsimp only [go_sem, seval, w4, ↓J1 _ _ q64]
 refine cpn c4 ?_
 simp -implicitDefEqProofs -dsimp only [go_sem, seval, bts, q3j, qao]
 rw [qq8, hok]
 exact K0 rfl
end Go.Aw
