import Derived.Test.YtnkagdjmjakeiaaGreatDoorV22T16F
namespace Go.Aw
open Go
open Go.Proofs.Tryz (prog)
set_option linter.all false
set_option maxHeartbeats 4000000
theorem qij (c : Cf) (k1 k2 : Option Nat) (h1 : c.ch.length <= 1000000000) (h2 : c.fu.length <= 1000000000) : Q4 prog q2w [.agg (c.cells k1 k2)] (.agg (c.cells none none)) := by
 refine K8 O1 qhk (by simp) fun T => ?_
 unfold qbb
 simp -implicitDefEqProofs -dsimp only [go_sem, seval, Cf.cells, ↓J0 _ _ K1]
 refine CallK.of (qa6 (xs := q5k c.ch) (q3a _) h1) (fun v1 T1 o1 => ?_)
 refine J3 ?_
 obtain ⟨p1, p2, p3, p4, p5, p6⟩ := o1.form
 simp -implicitDefEqProofs -dsimp only [go_sem, seval, ↓J0 _ _ K0, p1, p2, p3, p4, p5, p6]
 refine CallK.of (q8q (xs := q1v c.fu) (q06 _) h2) (fun v2 T2 o2 => ?_)
 refine J3 ?_
 obtain ⟨q1, q2, q3, q4, q5, q6⟩ := o2.form
 simp -implicitDefEqProofs -dsimp only [go_sem, seval, p1, p2, p3, p4, p5, p6, q1, q2, q3, q4, q5, q6]
 have how : Owns T [⟨1, v2, c.fu.length, q1v c.fu⟩, ⟨1, v1, c.ch.length, q5k c.ch⟩] T2 := ⟨T1, ⟨T, rfl, o1⟩, o2⟩
 refine q7l how fun S hS => ?_
 obtain ⟨c1, e1⟩ := hS _ (List.mem_cons_of_mem _ (List.mem_cons_self ..))
 obtain ⟨c2, e2⟩ := hS _ (List.mem_cons_self ..)
 simp only at e1 e2
 simp only [qoc, qi1, List.map_cons, List.map_nil, e1, e2, qqs]
 exact Wk.agg Wks.cf
end Go.Aw
namespace Go.Aw
open Go
open Go.Proofs.Tryz (prog)
set_option linter.all false
set_option maxHeartbeats 4000000
def sok (s l v : Int) : Bool := decide (1 <= s /\ s <= 4 /\ 1 <= v /\ v <= 8 /\ 1 <= l /\ l <= v /\ s * l <= v)
theorem qnx {s l : Int} (h1 : 1 <= s) (h2 : s <= 4) (h3 : 1 <= l) (h4 : l <= 8) : IntKind.i64.wrap (s * l) = s * l := by
 have a1 : s * l <= 4 * 8 := Int.mul_le_mul h2 h4 (by omega) (by omega)
 have a2 : 0 <= s * l := Int.mul_nonneg (by omega) (by omega)
 exact V8 (by unfold I64; omega)
def stC (s l v : Int) : List AV := [.i .i64 s, .i .i64 l, .i .i64 v]
theorem qea (s l v : Int) : Q4 prog q1r [.agg (stC s l v)] (.b (sok s l v)) := by
 refine K8 O1 qdk (by simp) fun T => ?_
 unfold q6p
 simp -implicitDefEqProofs -dsimp only [go_sem, seval, stC]
 have no : ¬ (1 <= s /\ s <= 4 /\ 1 <= v /\ v <= 8 /\ 1 <= l /\ l <= v /\ s * l <= v) -> qel (.b false) (fun x T' => x = .b (sok s l v) /\ T' = T) T := fun h => by
  rw [sok, decide_eq_false h]; exact J9 rfl
 refine J4 (fun h1 => ?_) (fun h1 => ?_)
 ·simp -implicitDefEqProofs -dsimp only [go_sem, seval, h1]
  exact no (by have := of_decide_eq_true h1; omega)
 have d1 := of_decide_eq_false h1
 simp -implicitDefEqProofs -dsimp only [go_sem, seval, h1]
 refine J4 (fun h2 => ?_) (fun h2 => ?_)
 ·simp -implicitDefEqProofs -dsimp only [go_sem, seval, h2]
  exact no (by have := of_decide_eq_true h2; omega)
 have d2 := of_decide_eq_false h2
 simp -implicitDefEqProofs -dsimp only [go_sem, seval, h2]
 refine J4 (fun h3 => ?_) (fun h3 => ?_)
 ·simp -implicitDefEqProofs -dsimp only [go_sem, seval, h3]
  exact no (by have := of_decide_eq_true h3; omega)
 have d3 := of_decide_eq_false h3
 simp -implicitDefEqProofs -dsimp only [go_sem, seval, h3]
 refine J4 (fun h4 => ?_) (fun h4 => ?_)
 ·simp -implicitDefEqProofs -dsimp only [go_sem, seval, h4]
  exact no (by have := of_decide_eq_true h4; omega)
 have d4 := of_decide_eq_false h4
 simp -implicitDefEqProofs -dsimp only [go_sem, seval, h4]
 refine J4 (fun h5 => ?_) (fun h5 => ?_)
 ·simp -implicitDefEqProofs -dsimp only [go_sem, seval, h5]
  exact no (by have := of_decide_eq_true h5; omega)
 have d5 := of_decide_eq_false h5
 simp -implicitDefEqProofs -dsimp only [go_sem, seval, h5]
 refine J4 (fun h6 => ?_) (fun h6 => ?_)
 ·simp -implicitDefEqProofs -dsimp only [go_sem, seval, h6]
  exact no (by have := of_decide_eq_true h6; omega)
 have d6 := of_decide_eq_false h6
 simp -implicitDefEqProofs -dsimp only [go_sem, seval, h6, qnx (s := s) (l := l) (by omega) (by omega) (by omega) (by omega)]
 refine J9 ?_
 congr 1
 rw [sok, decide_eq_decide]
 constructor
 ·intro h; exact ⟨by omega, by omega, by omega, by omega, by omega, by omega, h⟩
 ·intro h; exact h.2.2.2.2.2.2
theorem qmy (s l v : Int) : Q4 prog Y9 [.agg (stC s l v)] (.b (sok s l v)) := by
 refine K8 O1 q73 (by simp) fun T => ?_
 unfold q2x
 have no : ¬ (1 <= s /\ s <= 4 /\ 1 <= v /\ v <= 8 /\ 1 <= l /\ l <= v /\ s * l <= v) -> qel (.b false) (fun x T' => x = .b (sok s l v) /\ T' = T) T := fun h => by
  rw [sok, decide_eq_false h]; exact J9 rfl
 simp -implicitDefEqProofs -dsimp only [go_sem, seval, stC]
 refine J4 (fun h1 => ?_) (fun h1 => ?_)
 ·simp -implicitDefEqProofs -dsimp only [go_sem, seval, h1]
  exact no (by have := of_decide_eq_true h1; omega)
 have d1 := of_decide_eq_false h1
 simp -implicitDefEqProofs -dsimp only [go_sem, seval, h1]
 refine J4 (fun h2 => ?_) (fun h2 => ?_)
 ·simp -implicitDefEqProofs -dsimp only [go_sem, seval, h2]
  exact no (by have := of_decide_eq_true h2; omega)
 have d2 := of_decide_eq_false h2
 simp -implicitDefEqProofs -dsimp only [go_sem, seval, h2]
 refine J4 (fun h3 => ?_) (fun h3 => ?_)
 ·simp -implicitDefEqProofs -dsimp only [go_sem, seval, h3]
  exact no (by have := of_decide_eq_true h3; omega)
 have d3 := of_decide_eq_false h3
 simp -implicitDefEqProofs -dsimp only [go_sem, seval, h3]
 refine J4 (fun h4 => ?_) (fun h4 => ?_)
 ·simp -implicitDefEqProofs -dsimp only [go_sem, seval, h4]
  refine no ?_
  have := of_decide_eq_true h4
  rintro ⟨q1, q2, q3, q4, q5, q6, q7⟩
  omega
 have d4 := of_decide_eq_false h4
 simp -implicitDefEqProofs -dsimp only [go_sem, seval, h4]
 refine J4 (fun h5 => ?_) (fun h5 => ?_)
 ·simp -implicitDefEqProofs -dsimp only [go_sem, seval, h5]
  exact no (by have := of_decide_eq_true h5; omega)
 have d5 := of_decide_eq_false h5
 simp -implicitDefEqProofs -dsimp only [go_sem, seval, h5]
 refine J4 (fun h6 => ?_) (fun h6 => ?_)
 ·simp -implicitDefEqProofs -dsimp only [go_sem, seval, h6]
  exact no (by have := of_decide_eq_true h6; omega)
 have d6 := of_decide_eq_false h6
 simp -implicitDefEqProofs -dsimp only [go_sem, seval, h6, qnx (s := s) (l := l) (by omega) (by omega) (by omega) (by omega)]
 refine J9 ?_
 congr 1
 rw [sok, decide_eq_decide]
 constructor
 ·intro h
  have hsl : l <= s * l := by
   have := Int.mul_le_mul_of_nonneg_right (show (1 : Int) <= s by omega) (show (0 : Int) <= l by omega)
   omega
  exact ⟨by omega, by omega, by omega, by omega, by omega, by omega, h⟩
 ·intro h; exact h.2.2.2.2.2.2
theorem qtw (s l v : Int) : Q4 prog q0h [.agg (stC s l v)] (.agg (stC s l v)) := by
 refine K8 O1 qak (by simp) fun T => ?_
 unfold q4y
 simp -implicitDefEqProofs -dsimp only [go_sem, seval, stC]
 exact J9 rfl
end Go.Aw
