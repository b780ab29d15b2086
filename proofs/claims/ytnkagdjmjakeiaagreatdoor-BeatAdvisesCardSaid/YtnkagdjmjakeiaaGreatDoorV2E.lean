import Derived.Test.YtnkagdjmjakeiaaGreatDoorV2D
namespace Go.Aw
open Go
open Go.Proofs.Tryz (prog)
set_option linter.all false
set_option maxHeartbeats 8000000
set_option maxRecDepth 8000
section
variable {es : List Ev} {cap : Option Nat} {lm : Int} {T : Tab} {rid ridC : Nat} {o : Os}
theorem qx6 (hes : es.length <= 60) (hS : RSt T rid ridC o) (hg : Good o) {v : Nat} (hv : o.v = v) (hv8 : v <= 8) {c : Cf} (hr : c.right = true) :
  ACalls prog q1t [.ptr rid 0, .fz es.length (es.flatMap evC) cap, .i .i64 lm, .agg (c.plain.cells none)] T (fun r T' => r = pr2 (qsa o (K7 lm) (U2 (K7 lm) es) c) /\ T' = T) := by
 have hR' := (q0v c).1 hr
 have hc : c.ch.length < 1000000 := by have := hR'.le; omega
 have t1 := hS.1
 have hLn := qk1 (cap := cap) (m := lm) hes c.ln
 have k0 := fun (R : U6) (hR : ExtR R) => qub (R := R) hR (es := es) (cap := cap) (lm := lm) (T := T) (rid := rid) hes hc hR'.fu
 have k1 := fun (R : U6) (hR : ExtR R) => quc (R := R) hR (es := es) (cap := cap) (lm := lm) (T := T) (rid := rid) hes hc hR'.fu
 have kk2 := fun (R : U6) (hR : ExtR R) hq => qud (R := R) hR (es := es) (cap := cap) (lm := lm) hes hS hg hv hv8 (r := spR o (K7 lm) (U2 (K7 lm) es) 8) hq v 0 (by omega) (by rw [z0o hv 8 0 rfl hv8]; rfl)
 obtain ⟨tl, htl⟩ : ∃ x, c.ch[c.ch.length - 1]? = some x := ⟨_, List.getElem?_eq_getElem (by have := hR'.pos; omega)⟩
 have hat : c.at (c.ch.length - 1) = tl := by
  have := hR'.pos
  rw [Cf.at, if_pos ⟨hr, by omega, by omega⟩, show ((c.ch.length : Int) - 1).toNat = c.ch.length - 1 by omega, htl]; rfl
 have hpl := qk2 hR'.fu htl
 have ha := qfd hpl
 have hws : IntKind.i64.wrap ((c.ch.length : Int) - 1) = ((c.ch.length - 1 : Nat) : Int) := by have := hR'.pos; rw [V8 (by unfold I64; omega)]; omega
 have hlt : c.ch.length - 1 < c.ch.length := by have := hR'.pos; omega
 have hm2 : (c.ch.length - 1) * 2 + 2 <= (mem c.plain.l).length := by rw [q5g, q8s]; omega
 have hTs := qo2 (cap := cap) (m := lm) (show Len es.length by unfold Len; omega) tl c none
 have hge : decide (0 <= c.ln) = !decide (c.ln = -1) := by
  rcases hR'.ln with h | ⟨h, _⟩
  ·rw [h]; rfl
  ·rw [decide_eq_true h, decide_eq_false (show ¬ c.ln = -1 by omega)]; rfl
 refine K3 O1 qdt (by simp) ?_
 unfold q6u
 have hln : c.plain.l.length = c.ch.length := q8s
 have e1 : c.plain.ln = c.ln := rfl
 have e2 : c.plain.sh = c.sh := rfl
 have e3 : c.plain.ep = c.ep := rfl
 rw [Os.row] at t1
 unfold qsa z0l
 simp only [Rf.cells, hln, e1, e2, e3] at k0 k1 hTs hpl ha ⊢
 rcases hs : qjr (K7 lm) (U2 (K7 lm) es) c.ln with _ | _
 case true =>
  rw [hs] at hLn
  simp -implicitDefEqProofs -dsimp only [go_sem, seval, ↓J0 _ _ O9]
  refine cpn hLn ?_
  simp -implicitDefEqProofs -dsimp only [go_sem, seval]
  exact J9 rfl
 rw [hs] at hLn
 simp -implicitDefEqProofs -dsimp only [go_sem, seval, ↓J0 _ _ O9]
 refine cpn hLn ?_
 simp -implicitDefEqProofs -dsimp only [go_sem, seval]
 refine k0 _ (by repeat' (first | exact N8 _ _ | assumption | apply N7 | apply N0 | apply V0)) (fun L h => ?_) c.ch 0 rfl (Nat.zero_le _) rfl (fun h0 => ?_)
 ·rw [if_neg (by decide), if_pos h]
  simp -implicitDefEqProofs -dsimp only [go_sem, seval]
  exact O6 (.refl _) rfl
 rw [h0]
 simp -implicitDefEqProofs -dsimp only [go_sem, seval]
 refine k1 _ (by repeat' (first | exact N8 _ _ | assumption | apply N7 | apply N0 | apply V0)) (fun L h => ?_) c.ch 0 rfl (Nat.zero_le _) rfl (fun h1 => ?_)
 ·rw [if_neg (by decide), if_neg (by decide), if_pos h]
  simp -implicitDefEqProofs -dsimp only [go_sem, seval]
  exact O6 (.refl _) rfl
 rw [h1, if_neg (by decide), if_neg (by decide), if_neg (by decide)]
 unfold z0m z0u
 rw [hat]
 clear k0 k1 h0 h1 hs hLn hpl
 generalize qhv (U2 (K7 lm) es) tl c = sb at *
 generalize (q4v (U2 (K7 lm) es) tl).1 = x at *
 generalize hsp : spR o (K7 lm) (U2 (K7 lm) es) 8 = sp at *
 have hsp1 : sp.1 = 0 -> sp = (0, -1) := by
  rw [<- hsp]
  have : ∀ m, (spR o (K7 lm) (U2 (K7 lm) es) m).1 = 0 -> spR o (K7 lm) (U2 (K7 lm) es) m = (0, -1) := fun m => by
   induction m with
   | zero => intro _; rfl
   | succ m ih =>
    unfold spR
    split
    ·intro h; exact absurd (show (2 : Int) = 0 from h) (by decide)
    ·exact ih
  exact this 8
 obtain ⟨xa, xb, xc, xd⟩ := x
 simp only [Be.cells] at hTs
 generalize mem c.plain.l = ml at *
 generalize hsy : (if sb = true /\ ¬ c.ln = -1 /\ Be.d ⟨xa, xb, xc, xd⟩ = c.ln then ((3 : Int), c.ln) else (0, -1)) = sy at *
 generalize hpp : (if ¬ c.ln = -1 \/ o.l <= c.ch.length then ((0 : Int), (-1 : Int)) else sp) = pp at *
 by_cases h1 : c.ln = -1
 ·have d1 : decide (c.ln = -1) = true := decide_eq_true h1
  rw [if_neg (fun h => h.2.1 h1)] at hsy
  subst hsy
  rw [if_neg (fun h => h rfl)]
  by_cases h3 : o.l <= c.ch.length
  ·have d3 : decide (o.l <= (c.ch.length : Int)) = true := decide_eq_true h3
   rw [if_pos (.inr h3)] at hpp
   subst hpp
   rcases sb with _ | _
   all_goals
    simp -implicitDefEqProofs -dsimp only [go_sem, seval, hws, Int.ofNat_lt, hlt, Int.natCast_nonneg, Int.toNat_natCast, hm2, ha, List.cons_append, List.nil_append, ↓J0 _ _ Q0]
    refine cpn hTs ?_
    simp -implicitDefEqProofs -dsimp only [go_sem, seval, ↓Q1, I5, true_and, hge, d1, Bool.not_true, t1, d3]
    exact J9 rfl
  ·have d3 : decide (o.l <= (c.ch.length : Int)) = false := decide_eq_false h3
   rw [if_neg (fun h => h.elim (fun h => h h1) h3)] at hpp
   subst hpp
   rcases sb with _ | _
   all_goals
    simp -implicitDefEqProofs -dsimp only [go_sem, seval, hws, Int.ofNat_lt, hlt, Int.natCast_nonneg, Int.toNat_natCast, hm2, ha, List.cons_append, List.nil_append, ↓J0 _ _ Q0]
    refine cpn hTs ?_
    simp -implicitDefEqProofs -dsimp only [go_sem, seval, ↓Q1, I5, true_and, hge, d1, Bool.not_true, t1, d3]
    refine kk2 _ (by repeat' (first | exact N8 _ _ | assumption | apply N7 | apply N0 | apply V0)) (fun _ => ?_) (fun hh => ?_)
    ·simp -implicitDefEqProofs -dsimp only [go_sem, seval]
     exact J9 rfl
    ·rw [hh]
     simp -implicitDefEqProofs -dsimp only [go_sem, seval]
     exact J9 rfl
 ·have d1 : decide (c.ln = -1) = false := decide_eq_false h1
  rw [if_pos (.inl h1)] at hpp
  subst hpp
  rcases sb with _ | _
  ·rw [if_neg (fun h => by cases h.1)] at hsy
   subst hsy
   rw [if_neg (fun h => h rfl)]
   simp -implicitDefEqProofs -dsimp only [go_sem, seval, hws, Int.ofNat_lt, hlt, Int.natCast_nonneg, Int.toNat_natCast, hm2, ha, List.cons_append, List.nil_append, ↓J0 _ _ Q0]
   refine cpn hTs ?_
   simp -implicitDefEqProofs -dsimp only [go_sem, seval, ↓Q1, I5, true_and, hge, d1, Bool.not_false]
   exact J9 rfl
  by_cases h2 : xd = c.ln
  ·have d2 : decide (xd = c.ln) = true := decide_eq_true h2
   rw [if_pos (show (true = true /\ ¬ c.ln = -1 /\ xd = c.ln) from ⟨rfl, h1, h2⟩)] at hsy
   subst hsy
   rw [if_pos (show ¬ (3 : Int) = 0 by decide)]
   simp -implicitDefEqProofs -dsimp only [go_sem, seval, hws, Int.ofNat_lt, hlt, Int.natCast_nonneg, Int.toNat_natCast, hm2, ha, List.cons_append, List.nil_append, ↓J0 _ _ Q0]
   refine cpn hTs ?_
   simp -implicitDefEqProofs -dsimp only [go_sem, seval, ↓Q1, I5, true_and, hge, d1, d2, Bool.not_false]
   exact J9 rfl
  ·have d2 : decide (xd = c.ln) = false := decide_eq_false h2
   rw [if_neg (fun h => h2 h.2.2)] at hsy
   subst hsy
   rw [if_neg (fun h => h rfl)]
   simp -implicitDefEqProofs -dsimp only [go_sem, seval, hws, Int.ofNat_lt, hlt, Int.natCast_nonneg, Int.toNat_natCast, hm2, ha, List.cons_append, List.nil_append, ↓J0 _ _ Q0]
   refine cpn hTs ?_
   simp -implicitDefEqProofs -dsimp only [go_sem, seval, ↓Q1, I5, true_and, hge, d1, d2, Bool.not_false]
   exact J9 rfl
theorem qx7 {R : U6} (hR : ExtR R) (hes : es.length <= 60) (hS : RSt T rid ridC o) (hg : Good o) {v : Nat} (hv : o.v = v) (hv8 : v <= 8) {r : List AV × Bool}
  (hq : r.2 = true -> R .ret [(6, .lp 6 0), (7, .b true)] [(6, r.1)] T) : ∀ (us : List Cf) (k : Nat), o.cs.drop k = us -> k <= o.cs.length -> qcy o (K7 lm) (U2 (K7 lm) es) us = r ->
  (r = ([.i .i64 0, .i .i64 0, .i .u64 0, .i .i64 0], false) -> R (.exit 0) [(0, .ptr rid 0), (1, .fz es.length (es.flatMap evC) cap), (2, .i .i64 lm), (6, .lp 6 0), (15, .sl ridC 0 o.cs.length none), (16, .i .i64 o.cs.length), (17, .i .i64 o.cs.length), (18, .b false)] [(6, [.i .i64 0, .i .i64 0, .i .u64 0, .i .i64 0])] T) ->
  AW prog q1j R [(0, .ptr rid 0), (1, .fz es.length (es.flatMap evC) cap), (2, .i .i64 lm), (6, .lp 6 0), (15, .sl ridC 0 o.cs.length none), (16, .i .i64 o.cs.length), (17, .i .i64 k)] [(6, [.i .i64 0, .i .i64 0, .i .u64 0, .i .i64 0])] T := by
 have hsm := hg.small
 have t2 := hS.2
 intro us
 induction us with
 | nil =>
  intro k hk hle he h2
  have hk' := I0 hk hle
  refine U8 hR ?_
  unfold q16
  simp -implicitDefEqProofs -dsimp only [go_sem, seval, hk', Int.lt_irrefl]
  rw [hk'] at h2
  exact h2 (by rw [<- he]; rfl)
 | cons u us ih =>
  intro k hk hle he h2
  obtain ⟨hlt, hy, hk'⟩ := q0b hk
  have hol := hg.len
  have hws : IntKind.i64.wrap ((k : Int) + 1) = ((k + 1 : Nat) : Int) := O0 (by omega)
  have hpy : o.rL[k]? = some u.plain := by rw [Os.rL, List.getElem?_map, hy]; rfl
  have hcell := qn3 hpy
  have hlen4 : k * 4 + 4 <= (q7f o.rL).length := by rw [q68, qha]; omega
  have hone := qx6 (cap := cap) (lm := lm) (rid := rid) hes hS hg hv hv8 (c := u) (hg.one k u hy).1
  have hih := ih (k + 1) hk' hlt
  simp only [qcy] at he
  have hul : (u.plain.cells none).length = 4 := rfl
  have hut : (u.plain.cells none ++ q7f (o.rL.drop (k + 1))).take 4 = u.plain.cells none := List.take_left' rfl
  have hul2 : (4 <= (u.plain.cells none ++ q7f (o.rL.drop (k + 1))).length) = True := eq_true (by rw [List.length_append, hul]; omega)
  generalize qsa o (K7 lm) (U2 (K7 lm) es) u = x at *
  have e2 : u.plain.sh = u.sh := rfl
  have e3 : u.plain.ep = u.ep := rfl
  refine O4 (l := q1j) rfl hR ?_
  unfold q16
  simp only [Rf.cells, e2, e3, List.cons_append, List.nil_append] at hone hcell
  by_cases hx : x.1 = 0
  ·have dx : decide (x.1 = 0) = true := decide_eq_true hx
   rw [if_neg (fun h => h hx)] at he
   simp -implicitDefEqProofs -dsimp only [go_sem, seval, t2, Int.ofNat_lt, hlt, Int.natCast_nonneg, Int.toNat_natCast, hlen4, hcell, ↓J0 _ _ q6v]
   refine can hone ?_
   simp -implicitDefEqProofs -dsimp only [go_sem, seval, pr2, dx, Bool.not_true, hws]
   exact hih he h2
  ·have dx : decide (x.1 = 0) = false := decide_eq_false hx
   rw [if_pos hx] at he
   rw [<- he] at hq
   simp -implicitDefEqProofs -dsimp only [go_sem, seval, t2, Int.ofNat_lt, hlt, Int.natCast_nonneg, Int.toNat_natCast, hlen4, hcell, ↓J0 _ _ q6v]
   refine can hone ?_
   simp -implicitDefEqProofs -dsimp only [go_sem, seval, pr2, dx, Bool.not_false]
   exact hq rfl
theorem qx8 (hes : es.length <= 60) (hS : RSt T rid ridC o) (hg : Good o) {v : Nat} (hv : o.v = v) (hv8 : v <= 8) :
  ACalls prog q07 [.ptr rid 0, .fz es.length (es.flatMap evC) cap, .i .i64 lm] T (fun r T' => r = .tup [.agg (qcy o (K7 lm) (U2 (K7 lm) es) o.cs).1, .b (qcy o (K7 lm) (U2 (K7 lm) es) o.cs).2] /\ T' = T) := by
 have t1 := hS.1
 have hlen : (qcy o (K7 lm) (U2 (K7 lm) es) o.cs).1.length = 4 := by
  have : ∀ cs, (qcy o (K7 lm) (U2 (K7 lm) es) cs).1.length = 4 := fun cs => by
   induction cs with
   | nil => rfl
   | cons c cs ih => unfold qcy; split; rfl; exact ih
  exact this _
 have key := fun (R : U6) (hR : ExtR R) hq => qx7 (R := R) hR (es := es) (cap := cap) (lm := lm) hes hS hg hv hv8 hq o.cs 0 rfl (Nat.zero_le _) rfl
 generalize qcy o (K7 lm) (U2 (K7 lm) es) o.cs = r at *
 obtain ⟨r1, r2⟩ := r
 have ht : r1.take 4 = r1 := List.take_of_length_le (by have : r1.length = 4 := hlen; omega)
 have hlen' : r1.length = 4 := hlen
 refine K3 O1 q9m (by simp) ?_
 unfold q4m
 rw [Os.row] at t1
 simp -implicitDefEqProofs -dsimp only [go_sem, seval, t1]
 refine key _ (by repeat' (first | exact N8 _ _ | assumption | apply N7 | apply N0 | apply V0)) (fun h => ?_) (fun h => ?_)
 ·simp only at h
  subst h
  simp -implicitDefEqProofs -dsimp only [go_sem, seval, hlen', ht]
  exact J9 rfl
 ·cases h
  simp -implicitDefEqProofs -dsimp only [go_sem, seval]
  exact J9 rfl
end
end Go.Aw
