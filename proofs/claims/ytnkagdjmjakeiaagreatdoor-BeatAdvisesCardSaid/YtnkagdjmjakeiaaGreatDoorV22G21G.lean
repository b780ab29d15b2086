import Derived.Test.YtnkagdjmjakeiaaGreatDoorV22G21F
namespace Go.Aw
open Go
open Go.Proofs.Tryz (prog)
set_option linter.all false
set_option maxHeartbeats 4000000
def Os.step (o : Os) : Os := { o with n := IntKind.i64.wrap (o.n + 1) }
def Os.apply (o : Os) (val : List UInt8) : Os × Int := if val = [] then (o.step, 0) else if qfu val = true then o.step.do (cmA val) else (o.step, 3)
theorem qs2 {T : Tab} {id idC : Nat} {o : Os} (hR : St T id idC o) (hl : Len o.cs.length) (hs : ∀ c ∈ o.cs, qeb c) (val : List UInt8) (hv : val.length <= 1000000000) :
  ACalls prog q0y [.ptr id 0, .s val] T (fun r T' => r = .i .i64 (o.apply val).2 /\ T' = oT T id idC (o.apply val).1) := by
 have hne := hR.ne
 have h1 : St (oT T id idC o.step) id idC o.step := qtz hne
 have cD := z2y h1 hl hs (cmA val)
 rw [z2w hne] at cD
 have cG := qwj val hv
 simp only [Cm.cells] at cD cG
 obtain ⟨t1, t2⟩ := hR
 have hstep : oT T id idC o.step = T.put id (o.step.row idC) := by
  have : (T.put id (o.step.row idC)) idC = .row 5 (q67 o.step.cs) := by rw [Tab.put_ne _ _ (Ne.symm hne), t2]; rfl
  rw [oT, Tab.put_self this]
 rw [hstep] at cD
 rw [Os.row] at t1
 refine K3 O1 qbx (by simp) ?_
 unfold q5m
 rw [Os.apply]
 have hrow : (T.put id (.row 6 [.i .i64 o.s, .i .i64 o.l, .i .i64 o.v, .i .i64 (IntKind.i64.wrap (o.n + 1)), .i .u64 o.ct, .sl idC 0 o.cs.length none])) = T.put id (o.step.row idC) := rfl
 simp -implicitDefEqProofs -dsimp only [go_sem, seval, t1]
 refine V6 t1 rfl rfl (by simp) (J3 ?_)
 by_cases hv0 : val = []
 ·have d : decide (val = []) = true := decide_eq_true hv0
  rw [if_pos hv0, hstep]
  simp -implicitDefEqProofs -dsimp only [go_sem, seval, d]
  exact O6 (.refl _) rfl
 have d : decide (val = []) = false := decide_eq_false hv0
 rw [if_neg hv0]
 simp -implicitDefEqProofs -dsimp only [go_sem, seval, d, ↓J0 _ _ qma]
 refine cpn cG ?_
 rcases hk : qfu val with _ | _
 ·have e : qmx val = 3 := by unfold qmx; rw [hk]; rfl
  rw [if_neg (by simp), hstep, e]
  simp -implicitDefEqProofs -dsimp only [go_sem, seval]
  exact O6 (.refl _) rfl
 ·have e : qmx val = 0 := by unfold qmx; rw [hk]; rfl
  rw [if_pos rfl, e]
  simp -implicitDefEqProofs -dsimp only [go_sem, seval, decide_true, Bool.not_true, ↓J0 _ _ qfn]
  rw [hrow]
  refine can cD ?_
  simp -implicitDefEqProofs -dsimp only [go_sem, seval]
  exact O6 (.refl _) rfl
def qwp (cs : List Cf) (k : Int) : Int := match at? cs k with
 | some c => c.ep
 | none => 0
def txC (cs : List Cf) (c : Cm) : Cm := if c.ep = 0 then ⟨c.k, c.sh, qwp cs c.sh, c.nd⟩ else c
def txt (cs : List Cf) (c : Cm) : List UInt8 := if c.k = 0 then [] else if c.k = 6 then [63] else if (txC cs c).ok = true then wr4 (txC cs c) else []
theorem qwq {T : Tab} {id idC : Nat} {o : Os} (hR : St T id idC o) (hs : ∀ c ∈ o.cs, qeb c) (he : ∀ c ∈ o.cs, c.ep < 18446744073709551616) (c : Cm) (hc : c.ep < 18446744073709551616) :
  ACalls prog q0x [.ptr id 0, .agg c.cells] T (fun r T' => r = .s (txt o.cs c) /\ T' = T) := by
 have cC := qnz hR hs c.sh
 refine K3 O1 qbu (by simp) ?_
 unfold q5l
 rw [txt]
 by_cases h0 : c.k = 0
 ·rw [if_pos h0]
  simp -implicitDefEqProofs -dsimp only [go_sem, seval, Cm.cells, h0, decide_true]
  exact O6 (.refl _) rfl
 have d0 : decide (c.k = 0) = false := decide_eq_false h0
 rw [if_neg h0]
 by_cases h6 : c.k = 6
 ·rw [if_pos h6]
  rw [h6] at d0
  simp -implicitDefEqProofs -dsimp only [go_sem, seval, Cm.cells, d0, h6, decide_true]
  exact O6 (.refl _) rfl
 have d6 : decide (c.k = 6) = false := decide_eq_false h6
 rw [if_neg h6]
 by_cases hz : c.ep = 0
 ·have dz : decide (c.ep = 0) = true := decide_eq_true hz
  have hep : (txC o.cs c).ep < 18446744073709551616 := by
   unfold txC
   rw [if_pos hz]
   show qwp o.cs c.sh < _
   unfold qwp at?
   split
   ·rename_i x hx
    split at hx
    ·exact he _ (List.mem_of_getElem? hx)
    ·cases hx
   ·decide
  have cP := qnw (txC o.cs c) hep
  have e : txC o.cs c = ⟨c.k, c.sh, qwp o.cs c.sh, c.nd⟩ := by unfold txC; rw [if_pos hz]
  simp only [Cm.cells, e] at cP
  simp -implicitDefEqProofs -dsimp only [go_sem, seval, Cm.cells, d0, d6, dz, ↓J0 _ _ q42]
  refine can cC ?_
  unfold cfR
  have eE : qwp o.cs c.sh = match at? o.cs c.sh with | some c => c.ep | none => 0 := rfl
  rcases hat : at? o.cs c.sh with _ | y
  ·rw [hat] at eE
   simp only at eE
   rw [eE] at cP
   simp -implicitDefEqProofs -dsimp only [go_sem, seval, Cf.cells, Cf.nil, List.length_nil, qt2, qqr, ↓J0 _ _ qbz]
   refine cpn cP ?_
   rw [e, eE, qxd]
   rcases hok : (Cm.ok ⟨c.k, c.sh, 0, c.nd⟩) with _ | _
   ·simp only [Bool.false_eq_true, if_false]
    simp -implicitDefEqProofs -dsimp only [go_sem, seval]
    exact O6 (.refl _) rfl
   ·simp only [if_true]
    simp -implicitDefEqProofs -dsimp only [go_sem, seval]
    exact O6 (.refl _) rfl
  ·rw [hat] at eE
   simp only at eE
   rw [eE] at cP
   simp -implicitDefEqProofs -dsimp only [go_sem, seval, Cf.cells, ↓J0 _ _ qbz]
   refine cpn cP ?_
   rw [e, eE, qxd]
   rcases hok : (Cm.ok ⟨c.k, c.sh, y.ep, c.nd⟩) with _ | _
   ·simp only [Bool.false_eq_true, if_false]
    simp -implicitDefEqProofs -dsimp only [go_sem, seval]
    exact O6 (.refl _) rfl
   ·simp only [if_true]
    simp -implicitDefEqProofs -dsimp only [go_sem, seval]
    exact O6 (.refl _) rfl
 ·have dz : decide (c.ep = 0) = false := decide_eq_false hz
  have e : txC o.cs c = c := by unfold txC; rw [if_neg hz]
  have cP := qnw c hc
  simp only [Cm.cells] at cP
  rw [e]
  simp -implicitDefEqProofs -dsimp only [go_sem, seval, Cm.cells, d0, d6, dz, ↓J0 _ _ qbz]
  refine cpn cP ?_
  rw [qxd]
  rcases hok : c.ok with _ | _
  ·simp only [Bool.false_eq_true, if_false]
   simp -implicitDefEqProofs -dsimp only [go_sem, seval]
   exact O6 (.refl _) rfl
  ·simp only [if_true]
   simp -implicitDefEqProofs -dsimp only [go_sem, seval]
   exact O6 (.refl _) rfl
end Go.Aw
