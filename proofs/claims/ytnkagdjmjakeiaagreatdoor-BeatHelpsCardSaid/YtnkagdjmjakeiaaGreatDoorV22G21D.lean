import Derived.Test.YtnkagdjmjakeiaaGreatDoorV22G21C
namespace Go.Aw
open Go
open Go.Proofs.Tryz (prog)
set_option linter.all false
set_option maxHeartbeats 4000000
def rd1 (s : List UInt8) := q1l 4 (s, false)
def rd2 (s : List UInt8) := q1l 3 (rd1 s).2
def rd3 (s : List UInt8) := q1l 18446744073709551615 (rd2 s).2
def rd4 (s : List UInt8) := q1l 7 (rd3 s).2
def qo1 (s : List UInt8) : Cm := ⟨(rd1 s).1, (rd2 s).1, (rd3 s).1, (rd4 s).1⟩
def qjs (s : List UInt8) : Bool := (!(rd4 s).2.2 && decide ((rd4 s).2.1 = [])) && (qo1 s).ok
def cm0 : Cm := ⟨0, 0, 0, 0⟩
def cmA (s : List UInt8) : Cm := if qjs s = true then qo1 s else cm0
def qcb (s : List UInt8) : Option Er := if qjs s = true then none else some (.flt [99, 111, 109, 109, 97, 110, 100] (.num 3))
theorem qrt (s : List UInt8) (hl : s.length <= 1000000000) : U4 prog q5u [.s s] (.tup [.agg (cmA s).cells, qo0 (qcb s)]) := by
 refine K9 O2 qij (by simp) fun T => ?_
 have hL : Len s.length := by unfold Len; omega
 have l1 : (rd1 s).2.1.length <= s.length := qcy 4 (s, false)
 have l2 : (rd2 s).2.1.length <= s.length := Nat.le_trans (qcy 3 _) l1
 have l3 : (rd3 s).2.1.length <= s.length := Nat.le_trans (qcy _ _) l2
 have cN := qrr [99, 111, 109, 109, 97, 110, 100] 3
 rw [if_neg (by decide)] at cN
 have cr := qhg (qo1 s)
 simp only [Cm.cells, qo1] at cr
 unfold qd6
 simp -implicitDefEqProofs -dsimp only [go_sem, seval, ↓J1 _ _ qin]
 refine CallK.of (qvn s none hl) (fun v T1 ⟨id, e1, hid, e2⟩ => J5 ?_)
 subst e1; subst e2
 simp -implicitDefEqProofs -dsimp only [go_sem, seval, ↓J1 _ _ q2s]
 refine can (qnb qhf 4 (by decide) hL) ?_
 rw [show q1l 4 (s, false) = rd1 s from rfl]
 simp -implicitDefEqProofs -dsimp only [go_sem, seval, ↓J1 _ _ q2s]
 refine can (qnb qhf 3 (by decide) (qmv l1 hL)) ?_
 rw [show q1l 3 (rd1 s).2 = rd2 s from rfl]
 simp -implicitDefEqProofs -dsimp only [go_sem, seval, ↓J1 _ _ qc9]
 refine can (qyz qhf (qmv l2 hL)) ?_
 rw [show q1l 18446744073709551615 (rd2 s).2 = rd3 s from rfl]
 simp -implicitDefEqProofs -dsimp only [go_sem, seval, ↓J1 _ _ q2s]
 refine can (qnb qhf 7 (by decide) (qmv l3 hL)) ?_
 rw [show q1l 7 (rd3 s).2 = rd4 s from rfl]
 simp -implicitDefEqProofs -dsimp only [go_sem, seval, ↓J1 _ _ q9b]
 refine can (qrm qhf) ?_
 have hT : TabLe T (rT (rT (rT (rT (rT T id (s, false)) id (rd1 s).2) id (rd2 s).2) id (rd3 s).2) id (rd4 s).2) := by
  simp only [rT, Tab.put_put]
  exact (TabLe.refl T).put hid
 have hbad : qjs s = false -> qdr (.tup [.agg cm0.cells, qkv [99, 111, 109, 109, 97, 110, 100] (qpi 3)]) (fun v T' => v = .tup [.agg (cmA s).cells, qo0 (qcb s)] /\ T' = T) (rT (rT (rT (rT (rT T id (s, false)) id (rd1 s).2) id (rd2 s).2) id (rd3 s).2) id (rd4 s).2) := fun h => by
  rw [cmA, qcb, h]
  exact hT.fin
 rcases hd : (!(rd4 s).2.2 && decide ((rd4 s).2.1 = [])) with _ | _
 ·have h : qjs s = false := by rw [qjs, hd]; rfl
  simp -implicitDefEqProofs -dsimp only [go_sem, seval, decide_true, Bool.not_false, ↓U9, q0w, true_and, ↓J1 _ _ qd9]
  refine cpn cN ?_
  simp -implicitDefEqProofs -dsimp only [go_sem, seval, qkv]
  exact hbad h
 ·rcases hk : (qo1 s).ok with _ | _
  ·have h : qjs s = false := by rw [qjs, hd, hk]; rfl
   simp only [qo1] at hk
   simp -implicitDefEqProofs -dsimp only [go_sem, seval, decide_true, Bool.not_true, ↓U9, q0w, true_and, ↓J1 _ _ q63]
   refine cpn cr ?_
   simp -implicitDefEqProofs -dsimp only [go_sem, seval, hk, Bool.not_false, ↓U9, q0w, true_and, ↓J1 _ _ qd9]
   refine cpn cN ?_
   simp -implicitDefEqProofs -dsimp only [go_sem, seval, qkv]
   exact hbad h
  ·have h : qjs s = true := by rw [qjs, hd, hk]; rfl
   simp only [qo1] at hk
   simp -implicitDefEqProofs -dsimp only [go_sem, seval, decide_true, Bool.not_true, ↓U9, q0w, true_and, ↓J1 _ _ q63]
   refine cpn cr ?_
   simp -implicitDefEqProofs -dsimp only [go_sem, seval, hk, Bool.not_true, ↓U9, q0w, true_and]
   rw [cmA, qcb, h]
   exact hT.fin
def qiz (s : List UInt8) : Int := if qjs s = true then 0 else 3
theorem qru (s : List UInt8) (hl : s.length <= 1000000000) : U4 prog q5t [.s s] (.tup [.agg (cmA s).cells, .i .i64 (qiz s)]) := by
 refine K9 O2 qid (by simp) fun T => ?_
 have h1 := qrt s hl
 have h2 := qrs (qcb s)
 have e : qjr (qcb s) = qiz s := by unfold qcb qiz; split <;> rfl
 rw [e] at h2
 have hp : (qo0 (qcb s)).plain = true /\ ∀ k, (qo0 (qcb s)).offLp k = qo0 (qcb s) := by
  cases qcb s with
  | none => exact ⟨rfl, fun _ => rfl⟩
  | some e => obtain ⟨t, v, he⟩ := e.ifc; simp only [qo0, he]; exact ⟨rfl, fun _ => rfl⟩
 simp only [Cm.cells] at h1
 generalize qo0 (qcb s) = x at h1 h2 hp
 unfold qd2
 simp -implicitDefEqProofs -dsimp only [go_sem, seval, ↓J1 _ _ qik]
 refine cpn h1 ?_
 simp -implicitDefEqProofs -dsimp only [go_sem, seval, hp.1, hp.2, ↓J1 _ _ qh5]
 refine cpn h2 ?_
 simp -implicitDefEqProofs -dsimp only [go_sem, seval, hp.1, hp.2]
 exact K0 rfl
end Go.Aw
