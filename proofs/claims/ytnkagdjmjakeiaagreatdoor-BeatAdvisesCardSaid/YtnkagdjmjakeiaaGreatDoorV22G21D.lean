import Derived.Test.YtnkagdjmjakeiaaGreatDoorV22G21C
namespace Go.Aw
open Go
open Go.Proofs.Tryz (prog)
set_option linter.all false
set_option maxHeartbeats 4000000
def rd1 (s : List UInt8) := q0g 4 (s, false)
def rd2 (s : List UInt8) := q0g 3 (rd1 s).2
def rd3 (s : List UInt8) := q0g 18446744073709551615 (rd2 s).2
def rd4 (s : List UInt8) := q0g 7 (rd3 s).2
def qmw (s : List UInt8) : Cm := ⟨(rd1 s).1, (rd2 s).1, (rd3 s).1, (rd4 s).1⟩
def qfu (s : List UInt8) : Bool := (!(rd4 s).2.2 && decide ((rd4 s).2.1 = [])) && (qmw s).ok
def cm0 : Cm := ⟨0, 0, 0, 0⟩
def cmA (s : List UInt8) : Cm := if qfu s = true then qmw s else cm0
theorem qrl (s : List UInt8) : 0 <= (qmw s).ep /\ (qmw s).ep < 18446744073709551616 := by
 have := qj6 18446744073709551615 (rd2 s).2
 exact ⟨Int.natCast_nonneg _, by show ((rd3 s).1 : Int) < _; unfold rd3; omega⟩
def qfv (s : List UInt8) : Option Er := if qfu s = true then none else some (.flt [99, 111, 109, 109, 97, 110, 100] (.num 3))
theorem qwi (s : List UInt8) (hl : s.length <= 1000000000) : Q4 prog q88 [.s s] (.tup [.agg (cmA s).cells, qse (qfv s)]) := by
 refine K8 O1 qme (by simp) fun T => ?_
 have hL : Len s.length := by unfold Len; omega
 have l1 : (rd1 s).2.1.length <= s.length := qgn 4 (s, false)
 have l2 : (rd2 s).2.1.length <= s.length := Nat.le_trans (qgn 3 _) l1
 have l3 : (rd3 s).2.1.length <= s.length := Nat.le_trans (qgn _ _) l2
 have cN := qwg [99, 111, 109, 109, 97, 110, 100] 3
 rw [if_neg (by decide)] at cN
 have cr := ql8 (qmw s)
 simp only [Cm.cells, qmw] at cr
 unfold qgt
 simp -implicitDefEqProofs -dsimp only [go_sem, seval, ↓J0 _ _ qmi]
 refine CallK.of (z0f s none hl) (fun v T1 ⟨id, e1, hid, e2⟩ => J3 ?_)
 subst e1; subst e2
 simp -implicitDefEqProofs -dsimp only [go_sem, seval, ↓J0 _ _ q44]
 refine can (qre ql5 4 (by decide) hL) ?_
 rw [show q0g 4 (s, false) = rd1 s from rfl]
 simp -implicitDefEqProofs -dsimp only [go_sem, seval, ↓J0 _ _ q44]
 refine can (qre ql5 3 (by decide) (qqy l1 hL)) ?_
 rw [show q0g 3 (rd1 s).2 = rd2 s from rfl]
 simp -implicitDefEqProofs -dsimp only [go_sem, seval, ↓J0 _ _ qfs]
 refine can (z3n ql5 (qqy l2 hL)) ?_
 rw [show q0g 18446744073709551615 (rd2 s).2 = rd3 s from rfl]
 simp -implicitDefEqProofs -dsimp only [go_sem, seval, ↓J0 _ _ q44]
 refine can (qre ql5 7 (by decide) (qqy l3 hL)) ?_
 rw [show q0g 7 (rd3 s).2 = rd4 s from rfl]
 simp -implicitDefEqProofs -dsimp only [go_sem, seval, ↓J0 _ _ qcn]
 refine can (qw7 ql5) ?_
 have hT : TabLe T (rT (rT (rT (rT (rT T id (s, false)) id (rd1 s).2) id (rd2 s).2) id (rd3 s).2) id (rd4 s).2) := by
  simp only [rT, Tab.put_put]
  exact (TabLe.refl T).put hid
 have hbad : qfu s = false -> qel (.tup [.agg cm0.cells, qp2 [99, 111, 109, 109, 97, 110, 100] (qtv 3)]) (fun v T' => v = .tup [.agg (cmA s).cells, qse (qfv s)] /\ T' = T) (rT (rT (rT (rT (rT T id (s, false)) id (rd1 s).2) id (rd2 s).2) id (rd3 s).2) id (rd4 s).2) := fun h => by
  rw [cmA, qfv, h]
  exact hT.fin
 rcases hd : (!(rd4 s).2.2 && decide ((rd4 s).2.1 = [])) with _ | _
 ·have h : qfu s = false := by rw [qfu, hd]; rfl
  simp -implicitDefEqProofs -dsimp only [go_sem, seval, decide_true, Bool.not_false, ↓Q1, I5, true_and, ↓J0 _ _ qgw]
  refine cpn cN ?_
  simp -implicitDefEqProofs -dsimp only [go_sem, seval, qp2]
  exact hbad h
 ·rcases hk : (qmw s).ok with _ | _
  ·have h : qfu s = false := by rw [qfu, hd, hk]; rfl
   simp only [qmw] at hk
   simp -implicitDefEqProofs -dsimp only [go_sem, seval, decide_true, Bool.not_true, ↓Q1, I5, true_and, ↓J0 _ _ q8g]
   refine cpn cr ?_
   simp -implicitDefEqProofs -dsimp only [go_sem, seval, hk, Bool.not_false, ↓Q1, I5, true_and, ↓J0 _ _ qgw]
   refine cpn cN ?_
   simp -implicitDefEqProofs -dsimp only [go_sem, seval, qp2]
   exact hbad h
  ·have h : qfu s = true := by rw [qfu, hd, hk]; rfl
   simp only [qmw] at hk
   simp -implicitDefEqProofs -dsimp only [go_sem, seval, decide_true, Bool.not_true, ↓Q1, I5, true_and, ↓J0 _ _ q8g]
   refine cpn cr ?_
   simp -implicitDefEqProofs -dsimp only [go_sem, seval, hk, Bool.not_true, ↓Q1, I5, true_and]
   rw [cmA, qfv, h]
   exact hT.fin
def qmx (s : List UInt8) : Int := if qfu s = true then 0 else 3
theorem qwj (s : List UInt8) (hl : s.length <= 1000000000) : Q4 prog q87 [.s s] (.tup [.agg (cmA s).cells, .i .i64 (qmx s)]) := by
 refine K8 O1 qm9 (by simp) fun T => ?_
 have h1 := qwi s hl
 have h2 := qwh (qfv s)
 have e : qnv (qfv s) = qmx s := by unfold qfv qmx; split <;> rfl
 rw [e] at h2
 have hp : (qse (qfv s)).plain = true /\ ∀ k, (qse (qfv s)).offLp k = qse (qfv s) := by
  cases qfv s with
  | none => exact ⟨rfl, fun _ => rfl⟩
  | some e => obtain ⟨t, v, he⟩ := e.ifc; simp only [qse, he]; exact ⟨rfl, fun _ => rfl⟩
 simp only [Cm.cells] at h1
 generalize qse (qfv s) = x at h1 h2 hp
 unfold qgr
 simp -implicitDefEqProofs -dsimp only [go_sem, seval, ↓J0 _ _ qmf]
 refine cpn h1 ?_
 simp -implicitDefEqProofs -dsimp only [go_sem, seval, hp.1, hp.2, ↓J0 _ _ qkv]
 refine cpn h2 ?_
 simp -implicitDefEqProofs -dsimp only [go_sem, seval, hp.1, hp.2]
 exact J9 rfl
theorem qwk (s : List UInt8) (hl : s.length <= 1000000000) : Q4 prog q1s [.s s] (.tup [.agg (cmA s).cells, .b (qfu s)]) := by
 refine K8 O1 qdq (by simp) fun T => ?_
 have u0 : Suf s (s, false) := Suf.whole s false
 have u1 : Suf s (rd1 s).2 := u0.most 4
 have u2 : Suf s (rd2 s).2 := u1.most 3
 have u3 : Suf s (rd3 s).2 := u2.most _
 have u4 : Suf s (rd4 s).2 := u3.most 7
 have cr := qrk (qmw s) (qrl s).1
 simp only [Cm.cells, qmw] at cr
 unfold q6t
 simp -implicitDefEqProofs -dsimp only [go_sem, seval]
 intro id hid
 refine J3 ?_
 simp -implicitDefEqProofs -dsimp only [go_sem, seval, ↓J0 _ _ q0e]
 have e0 : T.put id (.row 3 [.fz s.length (N3 s) none, .i .i64 0, .b false]) = nT T id s none (s, false) := by simp [nT, qwb, bts]
 rw [e0]
 refine can (qms qou u0 4 (by decide) hl) ?_
 rw [show q0g 4 (s, false) = rd1 s from rfl]
 simp -implicitDefEqProofs -dsimp only [go_sem, seval, ↓J0 _ _ q0e]
 refine can (qms qou u1 3 (by decide) hl) ?_
 rw [show q0g 3 (rd1 s).2 = rd2 s from rfl]
 simp -implicitDefEqProofs -dsimp only [go_sem, seval, ↓J0 _ _ q8l]
 refine can (z2u qou u2 hl) ?_
 rw [show q0g 18446744073709551615 (rd2 s).2 = rd3 s from rfl]
 simp -implicitDefEqProofs -dsimp only [go_sem, seval, ↓J0 _ _ q0e]
 refine can (qms qou u3 7 (by decide) hl) ?_
 rw [show q0g 7 (rd3 s).2 = rd4 s from rfl]
 have hrow : (nT (nT (nT (nT (nT T id s none (s, false)) id s none (rd1 s).2) id s none (rd2 s).2) id s none (rd3 s).2) id s none (rd4 s).2) id = .row 3 [bts s none, .i .i64 (s.length - (rd4 s).2.1.length : Nat), .b (rd4 s).2.2] := qou
 have hT : TabLe T (nT (nT (nT (nT (nT T id s none (s, false)) id s none (rd1 s).2) id s none (rd2 s).2) id s none (rd3 s).2) id s none (rd4 s).2) := by
  simp only [nT, Tab.put_put]
  exact (TabLe.refl T).put hid
 have cL := qti (T := nT (nT (nT (nT (nT T id s none (s, false)) id s none (rd1 s).2) id s none (rd2 s).2) id s none (rd3 s).2) id s none (rd4 s).2) (id := id) qou u4 hl
 generalize nT (nT (nT (nT (nT T id s none (s, false)) id s none (rd1 s).2) id s none (rd2 s).2) id s none (rd3 s).2) id s none (rd4 s).2 = T4 at hrow hT cL
 simp -implicitDefEqProofs -dsimp only [go_sem, seval, hrow]
 have hbad : qfu s = false -> qel (.tup [.agg cm0.cells, .b false]) (fun v T' => v = .tup [.agg (cmA s).cells, .b (qfu s)] /\ T' = T) T4 := fun h => by
  rw [cmA, h]
  exact hT.fin
 rcases hb : (rd4 s).2.2 with _ | _
 ·rw [hb] at cL
  simp only [Bool.false_eq_true, if_false] at cL
  by_cases hn : (rd4 s).2.1 = []
  ·have d : decide ((0 : Int) < ((rd4 s).2.1.length : Nat)) = false := decide_eq_false (by rw [hn]; simp)
   simp -implicitDefEqProofs -dsimp only [go_sem, seval, hb, decide_true, ↓Q1, I5, true_and, ↓J0 _ _ q2i]
   refine can cL ?_
   simp -implicitDefEqProofs -dsimp only [go_sem, seval, hb, d, decide_true, ↓Q1, I5, true_and, ↓J0 _ _ q57]
   refine cpn cr ?_
   rcases hk : (qmw s).ok with _ | _
   ·have h : qfu s = false := by rw [qfu, hk, Bool.and_false]
    simp only [qmw] at hk
    simp -implicitDefEqProofs -dsimp only [go_sem, seval, hk, Bool.not_false]
    exact hbad h
   ·have h : qfu s = true := by rw [qfu, hb, hk, decide_eq_true hn]; rfl
    simp only [qmw] at hk
    simp -implicitDefEqProofs -dsimp only [go_sem, seval, hk, Bool.not_true]
    rw [cmA, h]
    exact hT.fin
  ·have hpos := List.length_pos_iff.2 hn
   have d : decide ((0 : Int) < ((rd4 s).2.1.length : Nat)) = true := decide_eq_true (by omega)
   have h : qfu s = false := by rw [qfu, decide_eq_false hn, Bool.and_false, Bool.false_and]
   simp -implicitDefEqProofs -dsimp only [go_sem, seval, hb, decide_true, ↓Q1, I5, true_and, ↓J0 _ _ q2i]
   refine can cL ?_
   simp -implicitDefEqProofs -dsimp only [go_sem, seval, hb, d, decide_true, ↓Q1, I5, true_and, ↓J0 _ _ q57]
   exact hbad h
 ·have h : qfu s = false := by rw [qfu, hb]; rfl
  simp -implicitDefEqProofs -dsimp only [go_sem, seval, hb, decide_true, ↓Q1, I5, true_and]
  exact hbad h
end Go.Aw
