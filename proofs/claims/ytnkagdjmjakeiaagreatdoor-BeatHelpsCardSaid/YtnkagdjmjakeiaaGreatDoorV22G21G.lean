import Derived.Test.YtnkagdjmjakeiaaGreatDoorV22G21F
namespace Go.Aw
open Go
open Go.Proofs.Tryz (prog)
set_option linter.all false
set_option maxHeartbeats 4000000
def Os.step (o : Os) : Os := { o with n := IntKind.i64.wrap (o.n + 1) }
def Os.apply (o : Os) (val : List UInt8) : Os × Int := if val = [] then (o.step, 0) else if qjs val = true then o.step.do (cmA val) else (o.step, 3)
theorem qar {T : Tab} {id idC : Nat} {o : Os} (hR : St T id idC o) (hl : Len o.cs.length) (hs : ∀ c ∈ o.cs, qaq c) (val : List UInt8) (hv : val.length <= 1000000000) :
  ACalls prog Q9 [.ptr id 0, .s val] T (fun r T' => r = .i .i64 (o.apply val).2 /\ T' = oT T id idC (o.apply val).1) := by
 have hne := hR.ne
 have h1 : St (oT T id idC o.step) id idC o.step := qky hne
 have cD := qya h1 hl hs (cmA val)
 rw [qy7 hne] at cD
 have cG := qru val hv
 simp only [Cm.cells] at cD cG
 obtain ⟨t1, t2⟩ := hR
 have hstep : oT T id idC o.step = T.put id (o.step.row idC) := by
  have : (T.put id (o.step.row idC)) idC = .row 5 (q3f o.step.cs) := by rw [Tab.put_ne _ _ (Ne.symm hne), t2]; rfl
  rw [oT, Tab.put_self this]
 rw [hstep] at cD
 rw [Os.row] at t1
 refine K6 O2 q8v (by simp) ?_
 unfold q43
 rw [Os.apply]
 have hrow : (T.put id (.row 6 [.i .i64 o.s, .i .i64 o.l, .i .i64 o.v, .i .i64 (IntKind.i64.wrap (o.n + 1)), .i .u64 o.ct, .sl idC 0 o.cs.length none])) = T.put id (o.step.row idC) := rfl
 simp -implicitDefEqProofs -dsimp only [go_sem, seval, t1]
 refine q3i t1 rfl rfl (by simp) (J5 ?_)
 by_cases hv0 : val = []
 ·have d : decide (val = []) = true := decide_eq_true hv0
  rw [if_pos hv0, hstep]
  simp -implicitDefEqProofs -dsimp only [go_sem, seval, d]
  exact Q3 (.refl _) rfl
 have d : decide (val = []) = false := decide_eq_false hv0
 rw [if_neg hv0]
 simp -implicitDefEqProofs -dsimp only [go_sem, seval, d, ↓J1 _ _ qie]
 refine cpn cG ?_
 rcases hk : qjs val with _ | _
 ·have e : qiz val = 3 := by unfold qiz; rw [hk]; rfl
  rw [if_neg (by simp), hstep, e]
  simp -implicitDefEqProofs -dsimp only [go_sem, seval]
  exact Q3 (.refl _) rfl
 ·have e : qiz val = 0 := by unfold qiz; rw [hk]; rfl
  rw [if_pos rfl, e]
  simp -implicitDefEqProofs -dsimp only [go_sem, seval, decide_true, Bool.not_true, ↓J1 _ _ qc4]
  rw [hrow]
  refine can cD ?_
  simp -implicitDefEqProofs -dsimp only [go_sem, seval]
  exact Q3 (.refl _) rfl
def qs1 (cs : List Cf) (k : Int) : Int := match at? cs k with
 | some c => c.ep
 | none => 0
def txC (cs : List Cf) (c : Cm) : Cm := if c.ep = 0 then ⟨c.k, c.sh, qs1 cs c.sh, c.nd⟩ else c
def txt (cs : List Cf) (c : Cm) : List UInt8 := if c.k = 0 then [] else if c.k = 6 then [63] else if (txC cs c).ok = true then wr4 (txC cs c) else []
theorem qs2 {T : Tab} {id idC : Nat} {o : Os} (hR : St T id idC o) (hs : ∀ c ∈ o.cs, qaq c) (he : ∀ c ∈ o.cs, c.ep < 18446744073709551616) (c : Cm) (hc : c.ep < 18446744073709551616) :
  ACalls prog q0a [.ptr id 0, .agg c.cells] T (fun r T' => r = .s (txt o.cs c) /\ T' = T) := by
 have cC := qjv hR hs c.sh
 refine K6 O2 q8s (by simp) ?_
 unfold q42
 rw [txt]
 by_cases h0 : c.k = 0
 ·rw [if_pos h0]
  simp -implicitDefEqProofs -dsimp only [go_sem, seval, Cm.cells, h0, decide_true]
  exact Q3 (.refl _) rfl
 have d0 : decide (c.k = 0) = false := decide_eq_false h0
 rw [if_neg h0]
 by_cases h6 : c.k = 6
 ·rw [if_pos h6]
  rw [h6] at d0
  simp -implicitDefEqProofs -dsimp only [go_sem, seval, Cm.cells, d0, h6, decide_true]
  exact Q3 (.refl _) rfl
 have d6 : decide (c.k = 6) = false := decide_eq_false h6
 rw [if_neg h6]
 by_cases hz : c.ep = 0
 ·have dz : decide (c.ep = 0) = true := decide_eq_true hz
  have hep : (txC o.cs c).ep < 18446744073709551616 := by
   unfold txC
   rw [if_pos hz]
   show qs1 o.cs c.sh < _
   unfold qs1 at?
   split
   ·rename_i x hx
    split at hx
    ·exact he _ (List.mem_of_getElem? hx)
    ·cases hx
   ·decide
  have cP := qg7 (txC o.cs c) hep
  have e : txC o.cs c = ⟨c.k, c.sh, qs1 o.cs c.sh, c.nd⟩ := by unfold txC; rw [if_pos hz]
  simp only [Cm.cells, e] at cP
  simp -implicitDefEqProofs -dsimp only [go_sem, seval, Cm.cells, d0, d6, dz, ↓J1 _ _ q2r]
  refine can cC ?_
  unfold cfR
  have eE : qs1 o.cs c.sh = match at? o.cs c.sh with | some c => c.ep | none => 0 := rfl
  rcases hat : at? o.cs c.sh with _ | y
  ·rw [hat] at eE
   simp only at eE
   rw [eE] at cP
   simp -implicitDefEqProofs -dsimp only [go_sem, seval, Cf.cells, Cf.nil, List.length_nil, qop, qmq, ↓J1 _ _ q46]
   refine cpn cP ?_
   rw [e, eE, qq8]
   rcases hok : (Cm.ok ⟨c.k, c.sh, 0, c.nd⟩) with _ | _
   ·simp only [Bool.false_eq_true, if_false]
    simp -implicitDefEqProofs -dsimp only [go_sem, seval]
    exact Q3 (.refl _) rfl
   ·simp only [if_true]
    simp -implicitDefEqProofs -dsimp only [go_sem, seval]
    exact Q3 (.refl _) rfl
  ·rw [hat] at eE
   simp only at eE
   rw [eE] at cP
   simp -implicitDefEqProofs -dsimp only [go_sem, seval, Cf.cells, ↓J1 _ _ q46]
   refine cpn cP ?_
   rw [e, eE, qq8]
   rcases hok : (Cm.ok ⟨c.k, c.sh, y.ep, c.nd⟩) with _ | _
   ·simp only [Bool.false_eq_true, if_false]
    simp -implicitDefEqProofs -dsimp only [go_sem, seval]
    exact Q3 (.refl _) rfl
   ·simp only [if_true]
    simp -implicitDefEqProofs -dsimp only [go_sem, seval]
    exact Q3 (.refl _) rfl
 ·have dz : decide (c.ep = 0) = false := decide_eq_false hz
  have e : txC o.cs c = c := by unfold txC; rw [if_neg hz]
  have cP := qg7 c hc
  simp only [Cm.cells] at cP
  rw [e]
  simp -implicitDefEqProofs -dsimp only [go_sem, seval, Cm.cells, d0, d6, dz, ↓J1 _ _ q46]
  refine cpn cP ?_
  rw [qq8]
  rcases hok : c.ok with _ | _
  ·simp only [Bool.false_eq_true, if_false]
   simp -implicitDefEqProofs -dsimp only [go_sem, seval]
   exact Q3 (.refl _) rfl
  ·simp only [if_true]
   simp -implicitDefEqProofs -dsimp only [go_sem, seval]
   exact Q3 (.refl _) rfl
end Go.Aw
