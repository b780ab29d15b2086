import Derived.Test.YtnkagdjmjakeiaaGreatDoorV22T16G
namespace Go.Aw
open Go
open Go.Proofs.Tryz (prog)
set_option linter.all false
set_option maxHeartbeats 4000000
theorem qex (c : Cf) (k1 k2 : Option Nat) (h1 : c.ch.length <= 1000000000) (h2 : c.fu.length <= 1000000000) : U4 prog q1m [.agg (c.cells k1 k2)] (.agg (c.cells none none)) := by
 refine K9 O2 qdx (by simp) fun T => ?_
 unfold q8b
 simp -implicitDefEqProofs -dsimp only [go_sem, seval, Cf.cells, ↓J1 _ _ J9]
 refine CallK.of (q7g (xs := q38 c.ch) (q20 _) h1) (fun v1 T1 o1 => ?_)
 refine J5 ?_
 obtain ⟨p1, p2, p3, p4, p5, p6⟩ := o1.form
 simp -implicitDefEqProofs -dsimp only [go_sem, seval, ↓J1 _ _ J6, p1, p2, p3, p4, p5, p6]
 refine CallK.of (q6a (xs := G4 c.fu) (G7 _) h2) (fun v2 T2 o2 => ?_)
 refine J5 ?_
 obtain ⟨q1, q2, q3, q4, q5, q6⟩ := o2.form
 simp -implicitDefEqProofs -dsimp only [go_sem, seval, p1, p2, p3, p4, p5, p6, q1, q2, q3, q4, q5, q6]
 have how : Owns T [⟨1, v2, c.fu.length, G4 c.fu⟩, ⟨1, v1, c.ch.length, q38 c.ch⟩] T2 := ⟨T1, ⟨T, rfl, o1⟩, o2⟩
 refine q9z how fun S hS => ?_
 obtain ⟨c1, e1⟩ := hS _ (List.mem_cons_of_mem _ (List.mem_cons_self ..))
 obtain ⟨c2, e2⟩ := hS _ (List.mem_cons_self ..)
 simp only at e1 e2
 simp only [ql8, qf0, List.map_cons, List.map_nil, e1, e2, qq4]
 exact Wk.agg Wks.cf
end Go.Aw
namespace Go.Aw
open Go
open Go.Proofs.Tryz (prog)
set_option linter.all false
set_option maxHeartbeats 4000000
def sok (s l v : Int) : Bool := decide (1 <= s /\ s <= 4 /\ 1 <= v /\ v <= 8 /\ 1 <= l /\ l <= v /\ s * l <= v)
theorem qjt {s l : Int} (h1 : 1 <= s) (h2 : s <= 4) (h3 : 1 <= l) (h4 : l <= 8) : IntKind.i64.wrap (s * l) = s * l := by
 have a1 : s * l <= 4 * 8 := Int.mul_le_mul h2 h4 (by omega) (by omega)
 have a2 : 0 <= s * l := Int.mul_nonneg (by omega) (by omega)
 exact q2k (by unfold I64; omega)
def stC (s l v : Int) : List AV := [.i .i64 s, .i .i64 l, .i .i64 v]
theorem qap (s l v : Int) : U4 prog q0v [.agg (stC s l v)] (.b (sok s l v)) := by
 refine K9 O2 qa4 (by simp) fun T => ?_
 unfold q4m
 simp -implicitDefEqProofs -dsimp only [go_sem, seval, stC]
 have no : ¬ (1 <= s /\ s <= 4 /\ 1 <= v /\ v <= 8 /\ 1 <= l /\ l <= v /\ s * l <= v) -> qdr (.b false) (fun x T' => x = .b (sok s l v) /\ T' = T) T := fun h => by
  rw [sok, decide_eq_false h]; exact K0 rfl
 refine J8 (fun h1 => ?_) (fun h1 => ?_)
 ·simp -implicitDefEqProofs -dsimp only [go_sem, seval, h1]
  exact no (by have := of_decide_eq_true h1; omega)
 have d1 := of_decide_eq_false h1
 simp -implicitDefEqProofs -dsimp only [go_sem, seval, h1]
 refine J8 (fun h2 => ?_) (fun h2 => ?_)
 ·simp -implicitDefEqProofs -dsimp only [go_sem, seval, h2]
  exact no (by have := of_decide_eq_true h2; omega)
 have d2 := of_decide_eq_false h2
 simp -implicitDefEqProofs -dsimp only [go_sem, seval, h2]
 refine J8 (fun h3 => ?_) (fun h3 => ?_)
 ·simp -implicitDefEqProofs -dsimp only [go_sem, seval, h3]
  exact no (by have := of_decide_eq_true h3; omega)
 have d3 := of_decide_eq_false h3
 simp -implicitDefEqProofs -dsimp only [go_sem, seval, h3]
 refine J8 (fun h4 => ?_) (fun h4 => ?_)
 ·simp -implicitDefEqProofs -dsimp only [go_sem, seval, h4]
  exact no (by have := of_decide_eq_true h4; omega)
 have d4 := of_decide_eq_false h4
 simp -implicitDefEqProofs -dsimp only [go_sem, seval, h4]
 refine J8 (fun h5 => ?_) (fun h5 => ?_)
 ·simp -implicitDefEqProofs -dsimp only [go_sem, seval, h5]
  exact no (by have := of_decide_eq_true h5; omega)
 have d5 := of_decide_eq_false h5
 simp -implicitDefEqProofs -dsimp only [go_sem, seval, h5]
 refine J8 (fun h6 => ?_) (fun h6 => ?_)
 ·simp -implicitDefEqProofs -dsimp only [go_sem, seval, h6]
  exact no (by have := of_decide_eq_true h6; omega)
 have d6 := of_decide_eq_false h6
 simp -implicitDefEqProofs -dsimp only [go_sem, seval, h6, qjt (s := s) (l := l) (by omega) (by omega) (by omega) (by omega)]
 refine K0 ?_
 congr 1
 rw [sok, decide_eq_decide]
 constructor
 ·intro h; exact ⟨by omega, by omega, by omega, by omega, by omega, by omega, h⟩
 ·intro h; exact h.2.2.2.2.2.2
theorem qj0 (s l v : Int) : U4 prog V6 [.agg (stC s l v)] (.b (sok s l v)) := by
 refine K9 O2 q4w (by simp) fun T => ?_
 unfold q1n
 have no : ¬ (1 <= s /\ s <= 4 /\ 1 <= v /\ v <= 8 /\ 1 <= l /\ l <= v /\ s * l <= v) -> qdr (.b false) (fun x T' => x = .b (sok s l v) /\ T' = T) T := fun h => by
  rw [sok, decide_eq_false h]; exact K0 rfl
 simp -implicitDefEqProofs -dsimp only [go_sem, seval, stC]
 refine J8 (fun h1 => ?_) (fun h1 => ?_)
 ·simp -implicitDefEqProofs -dsimp only [go_sem, seval, h1]
  exact no (by have := of_decide_eq_true h1; omega)
 have d1 := of_decide_eq_false h1
 simp -implicitDefEqProofs -dsimp only [go_sem, seval, h1]
 refine J8 (fun h2 => ?_) (fun h2 => ?_)
 ·simp -implicitDefEqProofs -dsimp only [go_sem, seval, h2]
  exact no (by have := of_decide_eq_true h2; omega)
 have d2 := of_decide_eq_false h2
 simp -implicitDefEqProofs -dsimp only [go_sem, seval, h2]
 refine J8 (fun h3 => ?_) (fun h3 => ?_)
 ·simp -implicitDefEqProofs -dsimp only [go_sem, seval, h3]
  exact no (by have := of_decide_eq_true h3; omega)
 have d3 := of_decide_eq_false h3
 simp -implicitDefEqProofs -dsimp only [go_sem, seval, h3]
 refine J8 (fun h4 => ?_) (fun h4 => ?_)
 ·simp -implicitDefEqProofs -dsimp only [go_sem, seval, h4]
  refine no ?_
  have := of_decide_eq_true h4
  rintro ⟨q1, q2, q3, q4, q5, q6, q7⟩
  omega
 have d4 := of_decide_eq_false h4
 simp -implicitDefEqProofs -dsimp only [go_sem, seval, h4]
 refine J8 (fun h5 => ?_) (fun h5 => ?_)
 ·simp -implicitDefEqProofs -dsimp only [go_sem, seval, h5]
  exact no (by have := of_decide_eq_true h5; omega)
 have d5 := of_decide_eq_false h5
 simp -implicitDefEqProofs -dsimp only [go_sem, seval, h5]
 refine J8 (fun h6 => ?_) (fun h6 => ?_)
 ·simp -implicitDefEqProofs -dsimp only [go_sem, seval, h6]
  exact no (by have := of_decide_eq_true h6; omega)
 have d6 := of_decide_eq_false h6
 simp -implicitDefEqProofs -dsimp only [go_sem, seval, h6, qjt (s := s) (l := l) (by omega) (by omega) (by omega) (by omega)]
 refine K0 ?_
 congr 1
 rw [sok, decide_eq_decide]
 constructor
 ·intro h
  have hsl : l <= s * l := by
   have := Int.mul_le_mul_of_nonneg_right (show (1 : Int) <= s by omega) (show (0 : Int) <= l by omega)
   omega
  exact ⟨by omega, by omega, by omega, by omega, by omega, by omega, h⟩
 ·intro h; exact h.2.2.2.2.2.2
theorem qpj (s l v : Int) : U4 prog Z2 [.agg (stC s l v)] (.agg (stC s l v)) := by
 refine K9 O2 q7t (by simp) fun T => ?_
 unfold q3k
 simp -implicitDefEqProofs -dsimp only [go_sem, seval, stC]
 exact K0 rfl
end Go.Aw
