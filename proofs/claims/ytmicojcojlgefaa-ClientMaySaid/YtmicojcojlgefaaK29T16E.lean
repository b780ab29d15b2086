import Derived.Test.YtmicojcojlgefaaAwMore4
namespace Go.Aw
open Go
open Go.Proofs.Try (prog)
set_option linter.all false
set_option maxHeartbeats 4000000
def Cf.place (c : Cf) (n : Int) : Int := if c.right then ixI n c.ch else -1
def Cf.at (c : Cf) (k : Int) : Int := if c.right = true /\ 0 <= k /\ k < c.ch.length then (c.ch[k.toNat]?).getD 0 else -1
theorem z12 (c : Cf) (k1 k2 : Option Nat) (n : Int) (hl : Len c.ch.length) : PCalls prog q62 [.agg (c.cells k1 k2), .i .i64 n] (.i .i64 (c.at n)) := by
 refine K4 U6 qi4 (by simp) fun T => ?_
 unfold qcd
 simp -implicitDefEqProofs -dsimp only [go_sem, seval, Cf.cells, ↓J0 _ _ q0n]
 (first | (apply J7 <;> intro h_1 <;> simp -implicitDefEqProofs -dsimp only [go_sem, seval, Cf.cells, ↓J0 _ _ q0n, h_1]) | (refine CallK.pure (q4b c k1 k2 hl) (J1 ?_); simp -implicitDefEqProofs -dsimp only [go_sem, seval, Cf.cells, ↓J0 _ _ q0n]; have h_1 := trivial) | (have h_1 := trivial)) <;>
  (first | (apply J7 <;> intro h_2 <;> simp -implicitDefEqProofs -dsimp only [go_sem, seval, Cf.cells, ↓J0 _ _ q0n, h_1, h_2]) | (refine CallK.pure (q4b c k1 k2 hl) (J1 ?_); simp -implicitDefEqProofs -dsimp only [go_sem, seval, Cf.cells, ↓J0 _ _ q0n, h_1]; have h_2 := trivial) | (have h_2 := trivial)) <;>
  (first | (apply J7 <;> intro h_3 <;> simp -implicitDefEqProofs -dsimp only [go_sem, seval, Cf.cells, ↓J0 _ _ q0n, h_1, h_2, h_3]) | (refine CallK.pure (q4b c k1 k2 hl) (J1 ?_); simp -implicitDefEqProofs -dsimp only [go_sem, seval, Cf.cells, ↓J0 _ _ q0n, h_1, h_2]; have h_3 := trivial) | (have h_3 := trivial)) <;>
  (first | (apply J7 <;> intro h_4 <;> simp -implicitDefEqProofs -dsimp only [go_sem, seval, Cf.cells, ↓J0 _ _ q0n, h_1, h_2, h_3, h_4]) | (refine CallK.pure (q4b c k1 k2 hl) (J1 ?_); simp -implicitDefEqProofs -dsimp only [go_sem, seval, Cf.cells, ↓J0 _ _ q0n, h_1, h_2, h_3]; have h_4 := trivial) | (have h_4 := trivial))
 ·refine K2 ?_
  simp only [Bool.not_eq_true'] at h_2
  simp [Cf.at, h_2]
 ·refine K2 ?_
  have := of_decide_eq_true h_3
  rw [Cf.at, if_neg (by omega)]
 ·refine K2 ?_
  have := of_decide_eq_true h_4
  rw [Cf.at, if_neg (by omega)]
 ·have e3 := of_decide_eq_false h_3
  have e4 := of_decide_eq_false h_4
  simp only [Bool.not_eq_false'] at h_2
  have hb : 0 <= n /\ n < (c.ch.length : Int) := by omega
  have hx : c.ch[n.toNat]? = some c.ch[n.toNat] := List.getElem?_eq_getElem (by omega)
  simp -implicitDefEqProofs -dsimp only [go_sem, seval, hb, qgt, hx]
  refine K2 ?_
  rw [Cf.at, if_pos ⟨h_2, hb⟩, hx]
  rfl
theorem qu0 (c : Cf) (k1 k2 : Option Nat) (hl : Len c.ch.length) : PCalls prog q4t [.agg (c.cells k1 k2)] (.i .i64 (c.at 0)) := by
 refine K4 U6 qfq (by simp) fun T => ?_
 unfold q9n
 simp -implicitDefEqProofs -dsimp only [go_sem, seval, Cf.cells, ↓J0 _ _ qi5]
 refine cpn (z12 c k1 k2 0 hl) ?_
 simp -implicitDefEqProofs -dsimp only [go_sem, seval]
 exact K2 rfl
def Cf.has (c : Cf) (n : Int) : Bool := c.right && decide (0 <= n) && (decide (n = c.ln) || ctn c.ch n)
end Go.Aw
