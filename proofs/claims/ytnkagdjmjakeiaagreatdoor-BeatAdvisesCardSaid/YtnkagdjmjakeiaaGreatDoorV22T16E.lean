import Derived.Test.YtnkagdjmjakeiaaGreatDoorV22T16D
namespace Go.Aw
open Go
open Go.Proofs.Tryz (prog)
set_option linter.all false
set_option maxHeartbeats 4000000
theorem qnk {v : Int} : ∀ {l : List Int} {k j : Nat}, ixF v l k = some j -> k <= j /\ j < k + l.length
 | [], k, j, h => by simp [ixF] at h
 | y :: l, k, j, h => by
  simp only [ixF] at h
  split at h
  ·injection h with h; subst h; simp
  ·have := qnk h
   simp only [List.length_cons]
   omega
theorem qnl (v : Int) (l : List Int) : -1 <= ixI v l /\ ixI v l < l.length := by
 unfold ixI
 cases h : ixF v l 0 with
 | none => simp; omega
 | some j => have := qnk h; simp; omega
def Cf.place (c : Cf) (n : Int) : Int := if c.right then ixI n c.ch else -1
def Cf.at (c : Cf) (k : Int) : Int := if c.right = true /\ 0 <= k /\ k < c.ch.length then (c.ch[k.toNat]?).getD 0 else -1
theorem qnm (c : Cf) (k1 k2 : Option Nat) (n : Int) (hl : Len c.ch.length) : Q4 prog q0s [.agg (c.cells k1 k2), .i .i64 n] (.i .i64 (c.place n)) := by
 refine K8 O1 qeu (by simp) fun T => ?_
 unfold q7w
 simp -implicitDefEqProofs -dsimp only [go_sem, seval, Cf.cells, ↓J0 _ _ J7]
 (first | (apply J4 <;> intro h_1 <;> simp -implicitDefEqProofs -dsimp only [go_sem, seval, Cf.cells, ↓J0 _ _ J7, ↓J0 _ _ N6, h_1]) | (refine CallK.pure (N5 c k1 k2 hl) (J3 ?_); simp -implicitDefEqProofs -dsimp only [go_sem, seval, Cf.cells, ↓J0 _ _ J7, ↓J0 _ _ N6]; have h_1 := trivial) | (refine CallK.pure (q49 c.ch n _ hl) (J3 ?_); simp -implicitDefEqProofs -dsimp only [go_sem, seval, Cf.cells, ↓J0 _ _ J7, ↓J0 _ _ N6]; have h_1 := trivial) | (have h_1 := trivial)) <;>
  (first | (apply J4 <;> intro h_2 <;> simp -implicitDefEqProofs -dsimp only [go_sem, seval, Cf.cells, ↓J0 _ _ J7, ↓J0 _ _ N6, h_1, h_2]) | (refine CallK.pure (N5 c k1 k2 hl) (J3 ?_); simp -implicitDefEqProofs -dsimp only [go_sem, seval, Cf.cells, ↓J0 _ _ J7, ↓J0 _ _ N6, h_1]; have h_2 := trivial) | (refine CallK.pure (q49 c.ch n _ hl) (J3 ?_); simp -implicitDefEqProofs -dsimp only [go_sem, seval, Cf.cells, ↓J0 _ _ J7, ↓J0 _ _ N6, h_1]; have h_2 := trivial) | (have h_2 := trivial)) <;>
  (first | (apply J4 <;> intro h_3 <;> simp -implicitDefEqProofs -dsimp only [go_sem, seval, Cf.cells, ↓J0 _ _ J7, ↓J0 _ _ N6, h_1, h_2, h_3]) | (refine CallK.pure (N5 c k1 k2 hl) (J3 ?_); simp -implicitDefEqProofs -dsimp only [go_sem, seval, Cf.cells, ↓J0 _ _ J7, ↓J0 _ _ N6, h_1, h_2]; have h_3 := trivial) | (refine CallK.pure (q49 c.ch n _ hl) (J3 ?_); simp -implicitDefEqProofs -dsimp only [go_sem, seval, Cf.cells, ↓J0 _ _ J7, ↓J0 _ _ N6, h_1, h_2]; have h_3 := trivial) | (have h_3 := trivial))
 all_goals
  refine J9 ?_
  simp only [Bool.not_eq_true', Bool.not_eq_false'] at h_2
  simp [Cf.place, h_2]
theorem z2r (c : Cf) (k1 k2 : Option Nat) (n : Int) (hl : Len c.ch.length) : Q4 prog q4k [.agg (c.cells k1 k2), .i .i64 n] (.i .i64 (c.at n)) := by
 refine K8 O1 qhp (by simp) fun T => ?_
 unfold qbe
 simp -implicitDefEqProofs -dsimp only [go_sem, seval, Cf.cells, ↓J0 _ _ J7]
 (first | (apply J4 <;> intro h_1 <;> simp -implicitDefEqProofs -dsimp only [go_sem, seval, Cf.cells, ↓J0 _ _ J7, h_1]) | (refine CallK.pure (N5 c k1 k2 hl) (J3 ?_); simp -implicitDefEqProofs -dsimp only [go_sem, seval, Cf.cells, ↓J0 _ _ J7]; have h_1 := trivial) | (have h_1 := trivial)) <;>
  (first | (apply J4 <;> intro h_2 <;> simp -implicitDefEqProofs -dsimp only [go_sem, seval, Cf.cells, ↓J0 _ _ J7, h_1, h_2]) | (refine CallK.pure (N5 c k1 k2 hl) (J3 ?_); simp -implicitDefEqProofs -dsimp only [go_sem, seval, Cf.cells, ↓J0 _ _ J7, h_1]; have h_2 := trivial) | (have h_2 := trivial)) <;>
  (first | (apply J4 <;> intro h_3 <;> simp -implicitDefEqProofs -dsimp only [go_sem, seval, Cf.cells, ↓J0 _ _ J7, h_1, h_2, h_3]) | (refine CallK.pure (N5 c k1 k2 hl) (J3 ?_); simp -implicitDefEqProofs -dsimp only [go_sem, seval, Cf.cells, ↓J0 _ _ J7, h_1, h_2]; have h_3 := trivial) | (have h_3 := trivial)) <;>
  (first | (apply J4 <;> intro h_4 <;> simp -implicitDefEqProofs -dsimp only [go_sem, seval, Cf.cells, ↓J0 _ _ J7, h_1, h_2, h_3, h_4]) | (refine CallK.pure (N5 c k1 k2 hl) (J3 ?_); simp -implicitDefEqProofs -dsimp only [go_sem, seval, Cf.cells, ↓J0 _ _ J7, h_1, h_2, h_3]; have h_4 := trivial) | (have h_4 := trivial))
 ·refine J9 ?_
  simp only [Bool.not_eq_true'] at h_2
  simp [Cf.at, h_2]
 ·refine J9 ?_
  have := of_decide_eq_true h_3
  rw [Cf.at, if_neg (by omega)]
 ·refine J9 ?_
  have := of_decide_eq_true h_4
  rw [Cf.at, if_neg (by omega)]
 ·have e3 := of_decide_eq_false h_3
  have e4 := of_decide_eq_false h_4
  simp only [Bool.not_eq_false'] at h_2
  have hb : 0 <= n /\ n < (c.ch.length : Int) := by omega
  have hx : c.ch[n.toNat]? = some c.ch[n.toNat] := List.getElem?_eq_getElem (by omega)
  simp -implicitDefEqProofs -dsimp only [go_sem, seval, hb, qgk, hx]
  refine J9 ?_
  rw [Cf.at, if_pos ⟨h_2, hb⟩, hx]
  rfl
theorem qvo (c : Cf) (k1 k2 : Option Nat) (hl : Len c.ch.length) : Q4 prog q36 [.agg (c.cells k1 k2)] (.i .i64 (c.at (c.ch.length - 1))) := by
 refine K8 O1 qfp (by simp) fun T => ?_
 unfold q8v
 have hl' := hl
 unfold Len at hl'
 simp -implicitDefEqProofs -dsimp only [go_sem, seval, Cf.cells, ↓J0 _ _ qhq, V8 (n := (c.ch.length : Int) - 1) (by unfold I64; omega)]
 refine cpn (z2r c k1 k2 _ hl) ?_
 simp -implicitDefEqProofs -dsimp only [go_sem, seval]
 exact J9 rfl
theorem Cf.place_lt (c : Cf) (n : Int) : -1 <= c.place n /\ c.place n < c.ch.length := by
 unfold Cf.place
 have := qnl n c.ch
 split <;> omega
def Cf.has (c : Cf) (n : Int) : Bool := c.right && decide (0 <= n) && (decide (n = c.ln) || ctn c.ch n)
theorem quq (c : Cf) (k1 k2 : Option Nat) (n : Int) (hl : Len c.ch.length) : Q4 prog q1z [.agg (c.cells k1 k2), .i .i64 n] (.b (c.has n)) := by
 refine K8 O1 qgy (by simp) fun T => ?_
 unfold qa1
 simp -implicitDefEqProofs -dsimp only [go_sem, seval, Cf.cells, ↓J0 _ _ J7]
 (first | (apply J4 <;> intro h_1 <;> simp -implicitDefEqProofs -dsimp only [go_sem, seval, Cf.cells, ↓J0 _ _ J7, ↓J0 _ _ J1, h_1]) | (refine CallK.pure (N5 c k1 k2 hl) (J3 ?_); simp -implicitDefEqProofs -dsimp only [go_sem, seval, Cf.cells, ↓J0 _ _ J7, ↓J0 _ _ J1]; have h_1 := trivial) | (refine CallK.pure (K5 c.ch n _ _ rfl hl) (J3 ?_); simp -implicitDefEqProofs -dsimp only [go_sem, seval, Cf.cells, ↓J0 _ _ J7, ↓J0 _ _ J1]; have h_1 := trivial) | (have h_1 := trivial)) <;>
  (first | (apply J4 <;> intro h_2 <;> simp -implicitDefEqProofs -dsimp only [go_sem, seval, Cf.cells, ↓J0 _ _ J7, ↓J0 _ _ J1, h_1, h_2]) | (refine CallK.pure (N5 c k1 k2 hl) (J3 ?_); simp -implicitDefEqProofs -dsimp only [go_sem, seval, Cf.cells, ↓J0 _ _ J7, ↓J0 _ _ J1, h_1]; have h_2 := trivial) | (refine CallK.pure (K5 c.ch n _ _ rfl hl) (J3 ?_); simp -implicitDefEqProofs -dsimp only [go_sem, seval, Cf.cells, ↓J0 _ _ J7, ↓J0 _ _ J1, h_1]; have h_2 := trivial) | (have h_2 := trivial)) <;>
  (first | (apply J4 <;> intro h_3 <;> simp -implicitDefEqProofs -dsimp only [go_sem, seval, Cf.cells, ↓J0 _ _ J7, ↓J0 _ _ J1, h_1, h_2, h_3]) | (refine CallK.pure (N5 c k1 k2 hl) (J3 ?_); simp -implicitDefEqProofs -dsimp only [go_sem, seval, Cf.cells, ↓J0 _ _ J7, ↓J0 _ _ J1, h_1, h_2]; have h_3 := trivial) | (refine CallK.pure (K5 c.ch n _ _ rfl hl) (J3 ?_); simp -implicitDefEqProofs -dsimp only [go_sem, seval, Cf.cells, ↓J0 _ _ J7, ↓J0 _ _ J1, h_1, h_2]; have h_3 := trivial) | (have h_3 := trivial)) <;>
  (first | (apply J4 <;> intro h_4 <;> simp -implicitDefEqProofs -dsimp only [go_sem, seval, Cf.cells, ↓J0 _ _ J7, ↓J0 _ _ J1, h_1, h_2, h_3, h_4]) | (refine CallK.pure (N5 c k1 k2 hl) (J3 ?_); simp -implicitDefEqProofs -dsimp only [go_sem, seval, Cf.cells, ↓J0 _ _ J7, ↓J0 _ _ J1, h_1, h_2, h_3]; have h_4 := trivial) | (refine CallK.pure (K5 c.ch n _ _ rfl hl) (J3 ?_); simp -implicitDefEqProofs -dsimp only [go_sem, seval, Cf.cells, ↓J0 _ _ J7, ↓J0 _ _ J1, h_1, h_2, h_3]; have h_4 := trivial) | (have h_4 := trivial)) <;>
  (first | (apply J4 <;> intro h_5 <;> simp -implicitDefEqProofs -dsimp only [go_sem, seval, Cf.cells, ↓J0 _ _ J7, ↓J0 _ _ J1, h_1, h_2, h_3, h_4, h_5]) | (refine CallK.pure (N5 c k1 k2 hl) (J3 ?_); simp -implicitDefEqProofs -dsimp only [go_sem, seval, Cf.cells, ↓J0 _ _ J7, ↓J0 _ _ J1, h_1, h_2, h_3, h_4]; have h_5 := trivial) | (refine CallK.pure (K5 c.ch n _ _ rfl hl) (J3 ?_); simp -implicitDefEqProofs -dsimp only [go_sem, seval, Cf.cells, ↓J0 _ _ J7, ↓J0 _ _ J1, h_1, h_2, h_3, h_4]; have h_5 := trivial) | (have h_5 := trivial)) <;>
  (first | (apply J4 <;> intro h_6 <;> simp -implicitDefEqProofs -dsimp only [go_sem, seval, Cf.cells, ↓J0 _ _ J7, ↓J0 _ _ J1, h_1, h_2, h_3, h_4, h_5, h_6]) | (refine CallK.pure (N5 c k1 k2 hl) (J3 ?_); simp -implicitDefEqProofs -dsimp only [go_sem, seval, Cf.cells, ↓J0 _ _ J7, ↓J0 _ _ J1, h_1, h_2, h_3, h_4, h_5]; have h_6 := trivial) | (refine CallK.pure (K5 c.ch n _ _ rfl hl) (J3 ?_); simp -implicitDefEqProofs -dsimp only [go_sem, seval, Cf.cells, ↓J0 _ _ J7, ↓J0 _ _ J1, h_1, h_2, h_3, h_4, h_5]; have h_6 := trivial) | (have h_6 := trivial))
 all_goals
  refine J9 ?_
  simp only [Cf.has, *, Bool.true_and, Bool.false_and, Bool.and_true, Bool.and_false, Bool.true_or, Bool.false_or]
end Go.Aw
