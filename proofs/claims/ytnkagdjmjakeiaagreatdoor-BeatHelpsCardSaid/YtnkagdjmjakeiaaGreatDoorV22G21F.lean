import Derived.Test.YtnkagdjmjakeiaaGreatDoorV22G21E
import Derived.Test.YtnkagdjmjakeiaaGreatDoorV22O16E
import Derived.Test.YtnkagdjmjakeiaaGreatDoorV22T16Q
namespace Go.Aw
open Go
open Go.Proofs.Tryz (prog)
set_option linter.all false
set_option maxHeartbeats 4000000
theorem qnn {T : Tab} {id idC : Nat} {o : Os} (hR : St T id idC o) : ACalls prog q0c [.ptr id 0] T (fun r T' => r = .agg (stC o.s o.l o.v) /\ T' = T) := by
 obtain ⟨t1, t2⟩ := hR
 rw [Os.row] at t1
 refine K6 O2 q96 (by simp) ?_
 unfold q4a
 simp -implicitDefEqProofs -dsimp only [go_sem, seval, t1]
 exact Q3 (.refl _) rfl
def Os.spare (o : Os) (n : Int) : Bool := decide (0 <= n) && decide (n < o.v) && !o.cs.any (·.has n)
theorem qno {T : Tab} {id idC : Nat} {o : Os} (hR : St T id idC o) (hl : Len o.cs.length) (hs : ∀ c ∈ o.cs, qaq c) (n : Int) : ACalls prog q0d [.ptr id 0, .i .i64 n] T (fun r T' => r = .b (o.spare n) /\ T' = T) := by
 have cT := qjw hR hl hs n
 obtain ⟨t1, t2⟩ := hR
 rw [Os.row] at t1
 refine K6 O2 q98 (by simp) ?_
 unfold q4c
 rw [Os.spare]
 rcases h1 : decide (0 <= n) with _ | _
 ·simp -implicitDefEqProofs -dsimp only [go_sem, seval, h1, ↓U9, q0w, true_and, decide_true, decide_false]
  exact Q3 (.refl _) rfl
 rcases h2 : decide (n < o.v) with _ | _
 ·simp -implicitDefEqProofs -dsimp only [go_sem, seval, h1, h2, t1, ↓U9, q0w, true_and, decide_true, decide_false]
  exact Q3 (.refl _) rfl
 simp -implicitDefEqProofs -dsimp only [go_sem, seval, h1, h2, t1, ↓U9, q0w, true_and, decide_true, decide_false, ↓J1 _ _ q24]
 refine can cT ?_
 simp -implicitDefEqProofs -dsimp only [go_sem, seval]
 exact Q3 (.refl _) rfl
theorem qnp {R : Y5} (hR : ExtR R) {T : Tab} {idC : Nat} {cs : List Cf} (hC : T idC = .row 5 (q3f cs)) (hl : cs.length <= 1000000) (hs : ∀ c ∈ cs, qaq c) : ∀ (ys : List Cf) (k : Nat), cs.drop k = ys -> k <= cs.length -> ∀ (v : AV) (T1 : Tab), Own T 5 v k (q3f (cs.take k)) T1 ->
  (∀ v T1, Own T 5 v cs.length (q3f cs) T1 -> R (.exit 0) [(3, v), (11, .sl idC 0 cs.length none), (12, .i .i64 cs.length), (13, .i .i64 cs.length), (14, .b false)] [] T1) ->
  AW prog q1h R [(3, v), (11, .sl idC 0 cs.length none), (12, .i .i64 cs.length), (13, .i .i64 k)] [] T1 := by
 intro ys
 induction ys with
 | nil =>
  intro k hk hle v T1 ho h2
  have hk' := q18 hk hle
  obtain ⟨p1, p2, p3, p4, p5, p6⟩ := ho.form
  refine G9 hR ?_
  unfold q14
  rw [<- hk', List.take_length] at ho
  have h2 := h2 v T1 ho
  rw [hk'] at h2
  simp -implicitDefEqProofs -dsimp only [go_sem, seval, hk', Int.lt_irrefl, p1, p2, p3, p4, p5, p6]
  exact h2
 | cons y ys ih =>
  intro k hk hle v T1 ho h2
  obtain ⟨hlt, hy, hk'⟩ := q1e hk
  have hws : IntKind.i64.wrap ((k : Int) + 1) = ((k + 1 : Nat) : Int) := Q0 (by omega)
  obtain ⟨p1, p2, p3, p4, p5, p6⟩ := ho.form
  have hC1 : T1 idC = .row 5 (q3f cs) := by rw [ho.at (by rw [hC]; simp), hC]
  have hcell := q7j hy
  have hlen : k * 5 + 5 <= (q3f cs).length := by rw [I2]; omega
  have hsy := hs y (List.mem_of_getElem? hy)
  have cC := qex y none none hsy.1 hsy.2
  simp only [Cf.cells] at cC
  refine Q7 (l := q1h) rfl hR ?_
  unfold q14
  simp -implicitDefEqProofs -dsimp only [go_sem, seval, Int.ofNat_lt, hlt, Int.natCast_nonneg, Int.toNat_natCast, hC1, hlen, hcell, Cf.cells, List.cons_append, List.nil_append, p1, p2, p3, p4, p5, p6, ↓J1 _ _ q8c]
  refine cpn cC ?_
  simp -implicitDefEqProofs -dsimp only [go_sem, seval, p1, p2, p3, p4, p5, p6]
  refine ho.app (m := 1) (news := y.cells none none) (by simp [N4, Cf.cells]) rfl (by omega) (by omega) fun v' T2 ho2 => J5 ?_
  obtain ⟨p1, p2, p3, p4, p5, p6⟩ := ho2.form
  simp -implicitDefEqProofs -dsimp only [go_sem, seval, p1, p2, p3, p4, p5, p6, hws]
  refine ih (k + 1) hk' hlt v' T2 ?_ h2
  rw [q6z hy, qj1]
  simpa [q3f] using ho2
theorem qnq {T : Tab} {id idC : Nat} {o : Os} (hR : St T id idC o) (hl : o.cs.length <= 1000000) (hs : ∀ c ∈ o.cs, qaq c) : ACalls prog q0b [.ptr id 0] T (fun r T' => r = .fz o.cs.length (q3f o.cs) none /\ T' = T) := by
 obtain ⟨t1, t2⟩ := hR
 rw [Os.row] at t1
 refine K6 O2 q90 (by simp) ?_
 unfold q48
 simp -implicitDefEqProofs -dsimp only [go_sem, seval, t1]
 refine qnp (T := T) (cs := o.cs) (by repeat' (first | exact O6 _ _ | assumption | apply O5 | apply N2 | apply Z8)) t2 hl hs o.cs 0 rfl (Nat.zero_le _) _ T (Own.nil T 5) (fun v T1 ho => ?_)
 obtain ⟨p1, p2, p3, p4, p5, p6⟩ := ho.form
 simp -implicitDefEqProofs -dsimp only [go_sem, seval, p1, p2, p3, p4, p5, p6]
 exact ho.fzn
def Os.chg (o : Os) (c : Cm) (old : Cf) : Cf × Int := if c.k = 1 then old.remove c.nd (IntKind.u64.wrap (o.ct + 1)) else if c.k = 2 then old.learn c.nd (IntKind.u64.wrap (o.ct + 1)) else if c.k = 3 then old.promote c.nd (IntKind.u64.wrap (o.ct + 1)) else old.mark c.nd
theorem qnr {T : Tab} {id idC : Nat} {o : Os} (hR : St T id idC o) (c : Cm) (old : Cf) (hl : Len old.ch.length) : ACalls prog I6 [.ptr id 0, .agg c.cells, .agg (old.cells none none)] T (fun r T' => r = Cf.ret (o.chg c old) /\ T' = T) := by
 obtain ⟨t1, t2⟩ := hR
 rw [Os.row] at t1
 refine K6 O2 q86 (by simp) ?_
 have c1 := qhb old none none c.nd (IntKind.u64.wrap (o.ct + 1)) hl
 have c2 := qpo old none none c.nd (IntKind.u64.wrap (o.ct + 1)) hl
 have c3 := qkz old none none c.nd (IntKind.u64.wrap (o.ct + 1)) hl
 have c4 := qs0 old none none c.nd hl
 simp only [Cf.cells, Cf.ret] at c1 c2 c3 c4
 unfold q3p
 rw [Os.chg]
 by_cases h1 : c.k = 1
 ·rw [if_pos h1]
  simp -implicitDefEqProofs -dsimp only [go_sem, seval, Cm.cells, Cf.cells, h1, decide_true, t1, ↓J1 _ _ q66]
  refine cpn c1 ?_
  simp -implicitDefEqProofs -dsimp only [go_sem, seval]
  exact Q3 (.refl _) rfl
 have d1 : decide (c.k = 1) = false := decide_eq_false h1
 rw [if_neg h1]
 by_cases h2 : c.k = 2
 ·rw [if_pos h2]
  rw [h2] at d1
  simp -implicitDefEqProofs -dsimp only [go_sem, seval, Cm.cells, Cf.cells, d1, h2, decide_true, t1, ↓J1 _ _ qh8]
  refine cpn c2 ?_
  simp -implicitDefEqProofs -dsimp only [go_sem, seval]
  exact Q3 (.refl _) rfl
 have d2 : decide (c.k = 2) = false := decide_eq_false h2
 rw [if_neg h2]
 by_cases h3 : c.k = 3
 ·rw [if_pos h3]
  rw [h3] at d1 d2
  simp -implicitDefEqProofs -dsimp only [go_sem, seval, Cm.cells, Cf.cells, d1, d2, h3, decide_true, t1, ↓J1 _ _ qe0]
  refine cpn c3 ?_
  simp -implicitDefEqProofs -dsimp only [go_sem, seval]
  exact Q3 (.refl _) rfl
 have d3 : decide (c.k = 3) = false := decide_eq_false h3
 rw [if_neg h3]
 simp -implicitDefEqProofs -dsimp only [go_sem, seval, Cm.cells, Cf.cells, d1, d2, d3, t1, ↓J1 _ _ qis]
 refine cpn c4 ?_
 simp -implicitDefEqProofs -dsimp only [go_sem, seval]
 exact Q3 (.refl _) rfl
def Os.do (o : Os) (c : Cm) : Os × Int :=
 match at? o.cs c.sh with
 | none => (o, 1)
 | some old =>
  if o.v <= c.nd then (o, 1) else if ¬ c.ep = old.ep then (o, 8) else if ¬ c.k = 4 /\ o.ct = 18446744073709551615 then (o, 9) else
  if c.k = 2 /\ o.cs.any (·.has c.nd) = true then (o, 7) else
  if ¬ (o.chg c old).2 = 0 then (o, (o.chg c old).2) else
  ({ o with cs := o.cs.set c.sh.toNat (o.chg c old).1, ct := if c.k = 4 then o.ct else IntKind.u64.wrap (o.ct + 1) }, 0)
theorem qya {T : Tab} {id idC : Nat} {o : Os} (hR : St T id idC o) (hl : Len o.cs.length) (hs : ∀ c ∈ o.cs, qaq c) (c : Cm) : ACalls prog q1u [.ptr id 0, .agg c.cells] T (fun r T' => r = .i .i64 (o.do c).2 /\ T' = oT T id idC (o.do c).1) := by
 have hne := hR.ne
 have hself := qrz hR
 have cC := qjv hR hs c.sh
 have cT := qjw hR hl hs c.nd
 have cG := fun old h => qnr hR c old h
 obtain ⟨t1, t2⟩ := hR
 rw [Os.row] at t1
 refine K6 O2 qc3 (by simp) ?_
 unfold q6c
 rw [Os.do]
 unfold cfR at cC
 have fin0 : ∀ e : Int, qdr (.i .i64 e) (fun r T' => r = .i .i64 e /\ T' = oT T id idC o) T := fun e => by rw [hself]; exact Q3 (.refl _) rfl
 rcases hat : at? o.cs c.sh with _ | old
 ·rw [hat] at cC
  simp -implicitDefEqProofs -dsimp only [go_sem, seval, Cm.cells, ↓J1 _ _ q2r]
  refine can cC ?_
  simp -implicitDefEqProofs -dsimp only [go_sem, seval, Cf.cells, Bool.not_false, ↓U9, q0w, true_and, decide_true, decide_false]
  exact fin0 1
 rw [hat] at cC
 simp only
 have hlt : 0 <= c.sh /\ o.cs[c.sh.toNat]? = some old := by
  unfold at? at hat
  split at hat
  ·exact ⟨by assumption, hat⟩
  ·cases hat
 have hold := hs old (List.mem_of_getElem? hlt.2)
 simp -implicitDefEqProofs -dsimp only [go_sem, seval, Cm.cells, ↓J1 _ _ q2r]
 refine can cC ?_
 by_cases h1 : o.v <= c.nd
 ·have d1 : decide (o.v <= c.nd) = true := decide_eq_true h1
  rw [if_pos h1]
  simp -implicitDefEqProofs -dsimp only [go_sem, seval, Cf.cells, d1, t1, Bool.not_true, ↓U9, q0w, true_and, decide_true, decide_false]
  exact fin0 1
 have d1 : decide (o.v <= c.nd) = false := decide_eq_false h1
 rw [if_neg h1]
 by_cases h2 : ¬ c.ep = old.ep
 ·have d2 : decide (c.ep = old.ep) = false := decide_eq_false h2
  rw [if_pos h2]
  simp -implicitDefEqProofs -dsimp only [go_sem, seval, Cf.cells, d1, d2, t1, Bool.not_true, Bool.not_false, ↓U9, q0w, true_and, decide_true, decide_false]
  exact fin0 8
 have d2 : decide (c.ep = old.ep) = true := decide_eq_true (by simpa using h2)
 rw [if_neg h2]
 by_cases h3 : ¬ c.k = 4 /\ o.ct = 18446744073709551615
 ·have d3 : decide (c.k = 4) = false := decide_eq_false h3.1
  have d3' : decide (o.ct = 18446744073709551615) = true := decide_eq_true h3.2
  rw [if_pos h3]
  simp -implicitDefEqProofs -dsimp only [go_sem, seval, Cf.cells, d1, d2, d3, d3', t1, Bool.not_true, Bool.not_false, ↓U9, q0w, true_and, decide_true, decide_false]
  exact fin0 9
 rw [if_neg h3]
 have d3 : decide (c.k = 4) = true \/ (decide (c.k = 4) = false /\ decide (o.ct = 18446744073709551615) = false) := by
  by_cases h : c.k = 4
  ·exact .inl (decide_eq_true h)
  ·exact .inr ⟨decide_eq_false h, decide_eq_false (fun e => h3 ⟨h, e⟩)⟩
 have hlen : c.sh.toNat < o.cs.length := (List.getElem?_eq_some_iff.1 hlt.2).1
 have hle5 : c.sh.toNat * 5 + 5 <= (q3f o.cs).length := by rw [I2]; omega
 have k1 : c.sh < o.cs.length := by omega
 have hset := qpl hlen (o.chg c old).1
 have cG' := cG old (by unfold Len; have := hold.1; omega)
 simp only [Cf.cells, Cm.cells, Cf.ret] at cG'
 by_cases h4 : c.k = 2 /\ o.cs.any (·.has c.nd) = true
 ·have d4 : decide (c.k = 2) = true := decide_eq_true h4.1
  rw [if_pos h4]
  have d3b : decide (c.k = 4) = false := decide_eq_false (by omega)
  have d3c : decide (o.ct = 18446744073709551615) = false := by
   rcases d3 with d | d
   ·rw [d3b] at d; cases d
   ·exact d.2
  rw [h4.2] at cT
  simp -implicitDefEqProofs -dsimp only [go_sem, seval, Cf.cells, d1, d2, d3b, d3c, d4, t1, Bool.not_true, Bool.not_false, ↓U9, q0w, true_and, decide_true, decide_false, ↓J1 _ _ q24]
  refine can cT ?_
  simp -implicitDefEqProofs -dsimp only [go_sem, seval]
  exact fin0 7
 rw [if_neg h4]
 have hset' : N6 (q3f o.cs) (c.sh.toNat * 5) (AV.agg [.i .u64 (o.chg c old).1.ep, .i .i64 (o.chg c old).1.sh, .fz (o.chg c old).1.ch.length (q38 (o.chg c old).1.ch) none, .fz (o.chg c old).1.fu.length (G4 (o.chg c old).1.fu) none, .i .i64 (o.chg c old).1.ln]).cells = q3f (o.cs.set c.sh.toNat (o.chg c old).1) := hset
 rcases hk4 : decide (c.k = 4) with _ | _
 ·have d3c : decide (o.ct = 18446744073709551615) = false := by
   rcases d3 with d | d
   ·rw [hk4] at d; cases d
   ·exact d.2
  rcases hk2 : decide (c.k = 2) with _ | _
  ·simp -implicitDefEqProofs -dsimp only [go_sem, seval, Cf.cells, hk4, hk2, d3c, d1, d2, t1, Bool.not_true, Bool.not_false, ↓U9, q0w, true_and, decide_true, decide_false, ↓J1 _ _ q1i]
   refine can cG' ?_
   by_cases h5 : ¬ (o.chg c old).2 = 0
   ·have d5 : decide ((o.chg c old).2 = 0) = false := decide_eq_false h5
    rw [if_pos h5]
    simp -implicitDefEqProofs -dsimp only [go_sem, seval, d5, Bool.not_false]
    exact fin0 _
   have d5 : decide ((o.chg c old).2 = 0) = true := decide_eq_true (by simpa using h5)
   rw [if_neg h5]
   simp -implicitDefEqProofs -dsimp only [go_sem, seval, d5, Bool.not_true, t1, hlt.1, k1]
   refine q3i t2 rfl rfl hle5 (J5 ?_)
   rw [hset']
   have t1' : (T.put idC (.row 5 (q3f (o.cs.set c.sh.toNat (o.chg c old).1)))) id = .row 6 [.i .i64 o.s, .i .i64 o.l, .i .i64 o.v, .i .i64 o.n, .i .u64 o.ct, .sl idC 0 o.cs.length none] := by rw [Tab.put_ne _ _ hne, t1]
   simp -implicitDefEqProofs -dsimp only [go_sem, seval, hk4, Bool.not_false, t1']
   refine q3i t1' rfl rfl (by simp) (J5 ?_)
   simp -implicitDefEqProofs -dsimp only [go_sem, seval]
   refine Q3 (.refl _) ?_
   rw [if_neg (of_decide_eq_false hk4)]
   simp only [oT, Os.row, List.length_set]
   rw [Tab.put_comm _ hne]
  ·have hany : o.cs.any (·.has c.nd) = false := by
    cases h : o.cs.any (·.has c.nd) with
    | false => rfl
    | true => exact absurd ⟨of_decide_eq_true hk2, h⟩ h4
   rw [hany] at cT
   simp -implicitDefEqProofs -dsimp only [go_sem, seval, Cf.cells, hk4, hk2, d3c, d1, d2, t1, Bool.not_true, Bool.not_false, ↓U9, q0w, true_and, decide_true, decide_false, ↓J1 _ _ q24]
   refine can cT ?_
   simp -implicitDefEqProofs -dsimp only [go_sem, seval, Cf.cells, d1, d2, t1, Bool.not_true, Bool.not_false, ↓U9, q0w, true_and, decide_true, decide_false, ↓J1 _ _ q1i]
   refine can cG' ?_
   by_cases h5 : ¬ (o.chg c old).2 = 0
   ·have d5 : decide ((o.chg c old).2 = 0) = false := decide_eq_false h5
    rw [if_pos h5]
    simp -implicitDefEqProofs -dsimp only [go_sem, seval, d5, Bool.not_false]
    exact fin0 _
   have d5 : decide ((o.chg c old).2 = 0) = true := decide_eq_true (by simpa using h5)
   rw [if_neg h5]
   simp -implicitDefEqProofs -dsimp only [go_sem, seval, d5, Bool.not_true, t1, hlt.1, k1]
   refine q3i t2 rfl rfl hle5 (J5 ?_)
   rw [hset']
   have t1' : (T.put idC (.row 5 (q3f (o.cs.set c.sh.toNat (o.chg c old).1)))) id = .row 6 [.i .i64 o.s, .i .i64 o.l, .i .i64 o.v, .i .i64 o.n, .i .u64 o.ct, .sl idC 0 o.cs.length none] := by rw [Tab.put_ne _ _ hne, t1]
   simp -implicitDefEqProofs -dsimp only [go_sem, seval, hk4, Bool.not_false, t1']
   refine q3i t1' rfl rfl (by simp) (J5 ?_)
   simp -implicitDefEqProofs -dsimp only [go_sem, seval]
   refine Q3 (.refl _) ?_
   rw [if_neg (of_decide_eq_false hk4)]
   simp only [oT, Os.row, List.length_set]
   rw [Tab.put_comm _ hne]
 ·have hk2 : decide (c.k = 2) = false := decide_eq_false (by have := of_decide_eq_true hk4; omega)
  simp -implicitDefEqProofs -dsimp only [go_sem, seval, Cf.cells, hk4, hk2, d1, d2, t1, Bool.not_true, Bool.not_false, ↓U9, q0w, true_and, decide_true, decide_false, ↓J1 _ _ q1i]
  refine can cG' ?_
  by_cases h5 : ¬ (o.chg c old).2 = 0
  ·have d5 : decide ((o.chg c old).2 = 0) = false := decide_eq_false h5
   rw [if_pos h5]
   simp -implicitDefEqProofs -dsimp only [go_sem, seval, d5, Bool.not_false]
   exact fin0 _
  have d5 : decide ((o.chg c old).2 = 0) = true := decide_eq_true (by simpa using h5)
  rw [if_neg h5]
  simp -implicitDefEqProofs -dsimp only [go_sem, seval, d5, Bool.not_true, t1, hlt.1, k1]
  refine q3i t2 rfl rfl hle5 (J5 ?_)
  rw [hset']
  have t1' : (T.put idC (.row 5 (q3f (o.cs.set c.sh.toNat (o.chg c old).1)))) id = .row 6 [.i .i64 o.s, .i .i64 o.l, .i .i64 o.v, .i .i64 o.n, .i .u64 o.ct, .sl idC 0 o.cs.length none] := by rw [Tab.put_ne _ _ hne, t1]
  simp -implicitDefEqProofs -dsimp only [go_sem, seval, hk4]
  refine Q3 (.refl _) ?_
  rw [if_pos (of_decide_eq_true hk4)]
  simp only [oT, Os.row, List.length_set]
  rw [Tab.put_self t1]
end Go.Aw
