import Derived.Test.YtnkagdjmjakeiaaGreatDoorV22T16D
namespace Go.Aw
open Go
open Go.Proofs.Tryz (prog)
set_option linter.all false
set_option maxHeartbeats 4000000
theorem qn0 {v : Int} : ∀ {l : List Int} {k j : Nat}, ixF v l k = some j -> k <= j /\ j < k + l.length
 | [], k, j, h => by simp [ixF] at h
 | y :: l, k, j, h => by
  simp only [ixF] at h
  split at h
  ·injection h with h; subst h; simp
  ·have := qn0 h
   simp only [List.length_cons]
   omega
theorem qvh (v : Int) (l : List Int) : -1 <= ixI v l /\ ixI v l < l.length := by
 unfold ixI
 cases h : ixF v l 0 with
 | none => simp; omega
 | some j => have := qn0 h; simp; omega
def Cf.place (c : Cf) (n : Int) : Int := if c.right then ixI n c.ch else -1
def Cf.at (c : Cf) (k : Int) : Int := if c.right = true /\ 0 <= k /\ k < c.ch.length then (c.ch[k.toNat]?).getD 0 else -1
theorem qjl (c : Cf) (k1 k2 : Option Nat) (n : Int) (hl : Len c.ch.length) : U4 prog q03 [.agg (c.cells k1 k2), .i .i64 n] (.i .i64 (c.place n)) := by
 refine K9 O2 qbb (by simp) fun T => ?_
 unfold q5k
 simp -implicitDefEqProofs -dsimp only [go_sem, seval, Cf.cells, ↓J1 _ _ J4]
 (first | (apply J8 <;> intro h_1 <;> simp -implicitDefEqProofs -dsimp only [go_sem, seval, Cf.cells, ↓J1 _ _ J4, ↓J1 _ _ N1, h_1]) | (refine CallK.pure (N0 c k1 k2 hl) (J5 ?_); simp -implicitDefEqProofs -dsimp only [go_sem, seval, Cf.cells, ↓J1 _ _ J4, ↓J1 _ _ N1]; have h_1 := trivial) | (refine CallK.pure (q2w c.ch n _ hl) (J5 ?_); simp -implicitDefEqProofs -dsimp only [go_sem, seval, Cf.cells, ↓J1 _ _ J4, ↓J1 _ _ N1]; have h_1 := trivial) | (have h_1 := trivial)) <;>
  (first | (apply J8 <;> intro h_2 <;> simp -implicitDefEqProofs -dsimp only [go_sem, seval, Cf.cells, ↓J1 _ _ J4, ↓J1 _ _ N1, h_1, h_2]) | (refine CallK.pure (N0 c k1 k2 hl) (J5 ?_); simp -implicitDefEqProofs -dsimp only [go_sem, seval, Cf.cells, ↓J1 _ _ J4, ↓J1 _ _ N1, h_1]; have h_2 := trivial) | (refine CallK.pure (q2w c.ch n _ hl) (J5 ?_); simp -implicitDefEqProofs -dsimp only [go_sem, seval, Cf.cells, ↓J1 _ _ J4, ↓J1 _ _ N1, h_1]; have h_2 := trivial) | (have h_2 := trivial)) <;>
  (first | (apply J8 <;> intro h_3 <;> simp -implicitDefEqProofs -dsimp only [go_sem, seval, Cf.cells, ↓J1 _ _ J4, ↓J1 _ _ N1, h_1, h_2, h_3]) | (refine CallK.pure (N0 c k1 k2 hl) (J5 ?_); simp -implicitDefEqProofs -dsimp only [go_sem, seval, Cf.cells, ↓J1 _ _ J4, ↓J1 _ _ N1, h_1, h_2]; have h_3 := trivial) | (refine CallK.pure (q2w c.ch n _ hl) (J5 ?_); simp -implicitDefEqProofs -dsimp only [go_sem, seval, Cf.cells, ↓J1 _ _ J4, ↓J1 _ _ N1, h_1, h_2]; have h_3 := trivial) | (have h_3 := trivial))
 all_goals
  refine K0 ?_
  simp only [Bool.not_eq_true', Bool.not_eq_false'] at h_2
  simp [Cf.place, h_2]
theorem qy4 (c : Cf) (k1 k2 : Option Nat) (n : Int) (hl : Len c.ch.length) : U4 prog q36 [.agg (c.cells k1 k2), .i .i64 n] (.i .i64 (c.at n)) := by
 refine K9 O2 qe2 (by simp) fun T => ?_
 unfold q8e
 simp -implicitDefEqProofs -dsimp only [go_sem, seval, Cf.cells, ↓J1 _ _ J4]
 (first | (apply J8 <;> intro h_1 <;> simp -implicitDefEqProofs -dsimp only [go_sem, seval, Cf.cells, ↓J1 _ _ J4, h_1]) | (refine CallK.pure (N0 c k1 k2 hl) (J5 ?_); simp -implicitDefEqProofs -dsimp only [go_sem, seval, Cf.cells, ↓J1 _ _ J4]; have h_1 := trivial) | (have h_1 := trivial)) <;>
  (first | (apply J8 <;> intro h_2 <;> simp -implicitDefEqProofs -dsimp only [go_sem, seval, Cf.cells, ↓J1 _ _ J4, h_1, h_2]) | (refine CallK.pure (N0 c k1 k2 hl) (J5 ?_); simp -implicitDefEqProofs -dsimp only [go_sem, seval, Cf.cells, ↓J1 _ _ J4, h_1]; have h_2 := trivial) | (have h_2 := trivial)) <;>
  (first | (apply J8 <;> intro h_3 <;> simp -implicitDefEqProofs -dsimp only [go_sem, seval, Cf.cells, ↓J1 _ _ J4, h_1, h_2, h_3]) | (refine CallK.pure (N0 c k1 k2 hl) (J5 ?_); simp -implicitDefEqProofs -dsimp only [go_sem, seval, Cf.cells, ↓J1 _ _ J4, h_1, h_2]; have h_3 := trivial) | (have h_3 := trivial)) <;>
  (first | (apply J8 <;> intro h_4 <;> simp -implicitDefEqProofs -dsimp only [go_sem, seval, Cf.cells, ↓J1 _ _ J4, h_1, h_2, h_3, h_4]) | (refine CallK.pure (N0 c k1 k2 hl) (J5 ?_); simp -implicitDefEqProofs -dsimp only [go_sem, seval, Cf.cells, ↓J1 _ _ J4, h_1, h_2, h_3]; have h_4 := trivial) | (have h_4 := trivial))
 ·refine K0 ?_
  simp only [Bool.not_eq_true'] at h_2
  simp [Cf.at, h_2]
 ·refine K0 ?_
  have := of_decide_eq_true h_3
  rw [Cf.at, if_neg (by omega)]
 ·refine K0 ?_
  have := of_decide_eq_true h_4
  rw [Cf.at, if_neg (by omega)]
 ·have e3 := of_decide_eq_false h_3
  have e4 := of_decide_eq_false h_4
  simp only [Bool.not_eq_false'] at h_2
  have hb : 0 <= n /\ n < (c.ch.length : Int) := by omega
  have hx : c.ch[n.toNat]? = some c.ch[n.toNat] := List.getElem?_eq_getElem (by omega)
  simp -implicitDefEqProofs -dsimp only [go_sem, seval, hb, qb3, hx]
  refine K0 ?_
  rw [Cf.at, if_pos ⟨h_2, hb⟩, hx]
  rfl
theorem qr6 (c : Cf) (k1 k2 : Option Nat) (hl : Len c.ch.length) : U4 prog q1v [.agg (c.cells k1 k2)] (.i .i64 (c.at (c.ch.length - 1))) := by
 refine K9 O2 qc6 (by simp) fun T => ?_
 unfold q6d
 have hl' := hl
 unfold Len at hl'
 simp -implicitDefEqProofs -dsimp only [go_sem, seval, Cf.cells, ↓J1 _ _ qe3, q2k (n := (c.ch.length : Int) - 1) (by unfold I64; omega)]
 refine cpn (qy4 c k1 k2 _ hl) ?_
 simp -implicitDefEqProofs -dsimp only [go_sem, seval]
 exact K0 rfl
theorem Cf.place_lt (c : Cf) (n : Int) : -1 <= c.place n /\ c.place n < c.ch.length := by
 unfold Cf.place
 have := qvh n c.ch
 split <;> omega
def Cf.has (c : Cf) (n : Int) : Bool := c.right && decide (0 <= n) && (decide (n = c.ln) || ctn c.ch n)
theorem qq7 (c : Cf) (k1 k2 : Option Nat) (n : Int) (hl : Len c.ch.length) : U4 prog q10 [.agg (c.cells k1 k2), .i .i64 n] (.b (c.has n)) := by
 refine K9 O2 qdb (by simp) fun T => ?_
 unfold q7e
 simp -implicitDefEqProofs -dsimp only [go_sem, seval, Cf.cells, ↓J1 _ _ J4]
 (first | (apply J8 <;> intro h_1 <;> simp -implicitDefEqProofs -dsimp only [go_sem, seval, Cf.cells, ↓J1 _ _ J4, ↓J1 _ _ J0, h_1]) | (refine CallK.pure (N0 c k1 k2 hl) (J5 ?_); simp -implicitDefEqProofs -dsimp only [go_sem, seval, Cf.cells, ↓J1 _ _ J4, ↓J1 _ _ J0]; have h_1 := trivial) | (refine CallK.pure (K2 c.ch n _ _ rfl hl) (J5 ?_); simp -implicitDefEqProofs -dsimp only [go_sem, seval, Cf.cells, ↓J1 _ _ J4, ↓J1 _ _ J0]; have h_1 := trivial) | (have h_1 := trivial)) <;>
  (first | (apply J8 <;> intro h_2 <;> simp -implicitDefEqProofs -dsimp only [go_sem, seval, Cf.cells, ↓J1 _ _ J4, ↓J1 _ _ J0, h_1, h_2]) | (refine CallK.pure (N0 c k1 k2 hl) (J5 ?_); simp -implicitDefEqProofs -dsimp only [go_sem, seval, Cf.cells, ↓J1 _ _ J4, ↓J1 _ _ J0, h_1]; have h_2 := trivial) | (refine CallK.pure (K2 c.ch n _ _ rfl hl) (J5 ?_); simp -implicitDefEqProofs -dsimp only [go_sem, seval, Cf.cells, ↓J1 _ _ J4, ↓J1 _ _ J0, h_1]; have h_2 := trivial) | (have h_2 := trivial)) <;>
  (first | (apply J8 <;> intro h_3 <;> simp -implicitDefEqProofs -dsimp only [go_sem, seval, Cf.cells, ↓J1 _ _ J4, ↓J1 _ _ J0, h_1, h_2, h_3]) | (refine CallK.pure (N0 c k1 k2 hl) (J5 ?_); simp -implicitDefEqProofs -dsimp only [go_sem, seval, Cf.cells, ↓J1 _ _ J4, ↓J1 _ _ J0, h_1, h_2]; have h_3 := trivial) | (refine CallK.pure (K2 c.ch n _ _ rfl hl) (J5 ?_); simp -implicitDefEqProofs -dsimp only [go_sem, seval, Cf.cells, ↓J1 _ _ J4, ↓J1 _ _ J0, h_1, h_2]; have h_3 := trivial) | (have h_3 := trivial)) <;>
  (first | (apply J8 <;> intro h_4 <;> simp -implicitDefEqProofs -dsimp only [go_sem, seval, Cf.cells, ↓J1 _ _ J4, ↓J1 _ _ J0, h_1, h_2, h_3, h_4]) | (refine CallK.pure (N0 c k1 k2 hl) (J5 ?_); simp -implicitDefEqProofs -dsimp only [go_sem, seval, Cf.cells, ↓J1 _ _ J4, ↓J1 _ _ J0, h_1, h_2, h_3]; have h_4 := trivial) | (refine CallK.pure (K2 c.ch n _ _ rfl hl) (J5 ?_); simp -implicitDefEqProofs -dsimp only [go_sem, seval, Cf.cells, ↓J1 _ _ J4, ↓J1 _ _ J0, h_1, h_2, h_3]; have h_4 := trivial) | (have h_4 := trivial)) <;>
  (first | (apply J8 <;> intro h_5 <;> simp -implicitDefEqProofs -dsimp only [go_sem, seval, Cf.cells, ↓J1 _ _ J4, ↓J1 _ _ J0, h_1, h_2, h_3, h_4, h_5]) | (refine CallK.pure (N0 c k1 k2 hl) (J5 ?_); simp -implicitDefEqProofs -dsimp only [go_sem, seval, Cf.cells, ↓J1 _ _ J4, ↓J1 _ _ J0, h_1, h_2, h_3, h_4]; have h_5 := trivial) | (refine CallK.pure (K2 c.ch n _ _ rfl hl) (J5 ?_); simp -implicitDefEqProofs -dsimp only [go_sem, seval, Cf.cells, ↓J1 _ _ J4, ↓J1 _ _ J0, h_1, h_2, h_3, h_4]; have h_5 := trivial) | (have h_5 := trivial)) <;>
  (first | (apply J8 <;> intro h_6 <;> simp -implicitDefEqProofs -dsimp only [go_sem, seval, Cf.cells, ↓J1 _ _ J4, ↓J1 _ _ J0, h_1, h_2, h_3, h_4, h_5, h_6]) | (refine CallK.pure (N0 c k1 k2 hl) (J5 ?_); simp -implicitDefEqProofs -dsimp only [go_sem, seval, Cf.cells, ↓J1 _ _ J4, ↓J1 _ _ J0, h_1, h_2, h_3, h_4, h_5]; have h_6 := trivial) | (refine CallK.pure (K2 c.ch n _ _ rfl hl) (J5 ?_); simp -implicitDefEqProofs -dsimp only [go_sem, seval, Cf.cells, ↓J1 _ _ J4, ↓J1 _ _ J0, h_1, h_2, h_3, h_4, h_5]; have h_6 := trivial) | (have h_6 := trivial))
 all_goals
  refine K0 ?_
  simp only [Cf.has, *, Bool.true_and, Bool.false_and, Bool.and_true, Bool.and_false, Bool.true_or, Bool.false_or]
end Go.Aw
