import Derived.Test.YtnkagdjmjakeiaaGreatDoorV2C
namespace Go.Aw
open Go
open Go.Proofs.Tryz (prog)
set_option linter.all false
set_option maxHeartbeats 8000000
set_option maxRecDepth 8000
section
variable {es : List Ev} {cap : Option Nat} {lm : Int} {T : Tab} {rid : Nat} {c : Cf}
theorem quc {R : U6} (hR : ExtR R) (hes : es.length <= 60) (hc : c.ch.length < 1000000) (hf : c.fu.length = c.ch.length)
  (hq : ∀ L, ¬ (qli (U2 (K7 lm) es) c c.ch 0).1 = 0 -> R .ret [(8, .i .i64 (qli (U2 (K7 lm) es) c c.ch 0).1), (9, .i .i64 (qli (U2 (K7 lm) es) c c.ch 0).2)] L T) : ∀ (us : List Int) (k : Nat), c.ch.drop k = us -> k <= c.ch.length -> qli (U2 (K7 lm) es) c us k = qli (U2 (K7 lm) es) c c.ch 0 ->
  (qli (U2 (K7 lm) es) c c.ch 0 = (0, -1) -> R (.exit 2) [(0, .ptr rid 0), (1, .fz es.length (es.flatMap evC) cap), (2, .i .i64 lm), (7, .lp 7 0), (61, .fz c.ch.length (mem c.plain.l) none), (62, .i .i64 c.ch.length), (63, .i .i64 c.ch.length), (64, .b false)] [(7, c.plain.cells none)] T) ->
  AW prog q3g R [(0, .ptr rid 0), (1, .fz es.length (es.flatMap evC) cap), (2, .i .i64 lm), (7, .lp 7 0), (61, .fz c.ch.length (mem c.plain.l) none), (62, .i .i64 c.ch.length), (63, .i .i64 k)] [(7, c.plain.cells none)] T := by
 intro us
 induction us with
 | nil =>
  intro k hk hle he h2
  have hk' := I0 hk hle
  refine U8 hR ?_
  unfold q2q
  simp -implicitDefEqProofs -dsimp only [go_sem, seval, hk', Int.lt_irrefl]
  rw [hk'] at h2
  exact h2 (by rw [<- he]; rfl)
 | cons u us ih =>
  intro k hk hle he h2
  obtain ⟨hlt, hy, hk'⟩ := q0b hk
  have hws : IntKind.i64.wrap ((k : Int) + 1) = ((k + 1 : Nat) : Int) := O0 (by omega)
  have hpl := qk2 hf hy
  have ha := qfd hpl
  have hm2 : k * 2 + 2 <= (mem c.plain.l).length := by rw [q5g, q8s]; omega
  have hS := qo2 (cap := cap) (m := lm) (show Len es.length by unfold Len; omega) u c none
  have hih := ih (k + 1) hk' hlt
  simp only [qli] at he
  generalize (c.fu[k]?).getD false = fb at *
  simp only [Rf.cells] at hS hih h2 ⊢
  have hln : c.plain.l.length = c.ch.length := q8s
  generalize hsb : qhv (U2 (K7 lm) es) u c = sb at *
  generalize (q4v (U2 (K7 lm) es) u).1 = x at *
  obtain ⟨xa, xb, xc, xd⟩ := x
  simp only [Be.cells] at hS he
  generalize c.plain.sh = psh at *
  generalize c.plain.ep = pep at *
  generalize c.plain.ln = pln at *
  generalize mem c.plain.l = ml at *
  rw [hln] at hS hih h2 ⊢
  refine O4 (l := q3g) rfl hR ?_
  unfold q2q
  rcases sb with _ | _
  ·rw [if_neg (fun h => by cases h.1)] at he
   simp -implicitDefEqProofs -dsimp only [go_sem, seval, Int.ofNat_lt, hlt, Int.natCast_nonneg, Int.toNat_natCast, hm2, ha, List.cons_append, List.nil_append, ↓J0 _ _ Q0]
   refine cpn hS ?_
   simp -implicitDefEqProofs -dsimp only [go_sem, seval, ↓Q1, I5, true_and, hws]
   exact hih he h2
  rcases xc with _ | _
  ·rw [if_neg (fun h => by cases h.2.2)] at he
   simp -implicitDefEqProofs -dsimp only [go_sem, seval, Int.ofNat_lt, hlt, Int.natCast_nonneg, Int.toNat_natCast, hm2, ha, List.cons_append, List.nil_append, ↓J0 _ _ Q0]
   refine cpn hS ?_
   simp -implicitDefEqProofs -dsimp only [go_sem, seval, ↓Q1, I5, true_and, hws]
   exact hih he h2
  rcases fb with _ | _
  ·rw [if_pos ⟨rfl, rfl, rfl⟩] at he
   rw [<- he] at hq
   simp -implicitDefEqProofs -dsimp only [go_sem, seval, Int.ofNat_lt, hlt, Int.natCast_nonneg, Int.toNat_natCast, hm2, ha, List.cons_append, List.nil_append, ↓J0 _ _ Q0]
   refine cpn hS ?_
   simp -implicitDefEqProofs -dsimp only [go_sem, seval, ↓Q1, I5, true_and, Bool.not_false]
   exact hq _ (show ¬ (4 : Int) = 0 by decide)
  ·rw [if_neg (fun h => by cases h.2.1)] at he
   simp -implicitDefEqProofs -dsimp only [go_sem, seval, Int.ofNat_lt, hlt, Int.natCast_nonneg, Int.toNat_natCast, hm2, ha, List.cons_append, List.nil_append, ↓J0 _ _ Q0]
   refine cpn hS ?_
   simp -implicitDefEqProofs -dsimp only [go_sem, seval, ↓Q1, I5, true_and, Bool.not_true, hws]
   exact hih he h2
def spV (o : Os) (lim : Int) (l : List Wr) : Nat -> Nat -> Int × Int
 | _, 0 => (0, -1)
 | k, m + 1 => if (q4v l (k : Int)).2 = true /\ o.cs.any (·.has k) = false /\ qjr lim l (k : Int) = false then (2, (k : Int)) else spV o lim l (k + 1) m
theorem z0o {o : Os} {lim : Int} {l : List Wr} {v : Nat} (hv : o.v = v) : ∀ (m k : Nat), k + m = 8 -> v <= 8 -> spR o lim l m = spV o lim l k (v - k) := by
 intro m
 induction m with
 | zero => intro k hk hv8; rw [show v - k = 0 by omega]; rfl
 | succ m ih =>
  intro k hk hv8
  have hkm : 7 - m = k := by omega
  have e1 : spR o lim l (m + 1) = (if (q4v l (k : Int)).2 = true /\ o.spare (k : Int) = true /\ qjr lim l (k : Int) = false then (2, (k : Int)) else spR o lim l m) := by rw [spR, hkm]
  rw [e1, ih (k + 1) (by omega) hv8]
  have e0 : decide (0 <= (k : Int)) = true := decide_eq_true (by omega)
  rcases Nat.lt_or_ge k v with h | h
  ·obtain ⟨d, hd⟩ : ∃ d, v - k = d + 1 := ⟨v - k - 1, by omega⟩
   have e2 : decide ((k : Int) < o.v) = true := decide_eq_true (by omega)
   rw [hd, show v - (k + 1) = d by omega, spV, Os.spare, e0, e2, Bool.true_and, Bool.true_and]
   simp only [Bool.not_eq_true']
  ·have e2 : decide ((k : Int) < o.v) = false := decide_eq_false (by omega)
   rw [if_neg (fun x => by have := x.2.1; rw [Os.spare, e0, e2] at this; cases this), show v - (k + 1) = 0 by omega, show v - k = 0 by omega]; rfl
theorem qud {R : U6} (hR : ExtR R) (hes : es.length <= 60) {ridC : Nat} {o : Os} (hS : RSt T rid ridC o) (hg : Good o) {v : Nat} (hv : o.v = v) (hv8 : v <= 8) {r : Int × Int}
  (hq : ¬ r.1 = 0 -> R .ret [(8, .i .i64 r.1), (9, .i .i64 r.2)] [] T) : ∀ (d k : Nat), k + d = v -> spV o (K7 lm) (U2 (K7 lm) es) k d = r ->
  (r = (0, -1) -> R (.exit 4) [(0, .ptr rid 0), (1, .fz es.length (es.flatMap evC) cap), (2, .i .i64 lm), (21, .i .i64 v), (139, .b false)] [] T) ->
  AW prog q3h R [(0, .ptr rid 0), (1, .fz es.length (es.flatMap evC) cap), (2, .i .i64 lm), (21, .i .i64 k)] [] T := by
 have t1 := hS.1
 rw [Os.row, hv] at t1
 intro d
 induction d with
 | zero =>
  intro k hk he h2
  obtain rfl : k = v := by omega
  refine U8 hR ?_
  unfold q2r
  simp -implicitDefEqProofs -dsimp only [go_sem, seval, t1, stR, List.cons_append, List.nil_append, Int.lt_irrefl]
  exact h2 (by rw [<- he]; rfl)
 | succ d ih =>
  intro k hk he h2
  have hk8 : decide ((k : Int) < v) = true := decide_eq_true (by omega)
  have hws : IntKind.i64.wrap ((k : Int) + 1) = ((k + 1 : Nat) : Int) := O0 (by omega)
  have hL := qlj (cap := cap) (m := lm) (show Len es.length by unfold Len; omega) (k : Int)
  have hSu := qk1 (cap := cap) (m := lm) hes (k : Int)
  have hSp := qs5 (n := (k : Int)) hS (by have := hg.len; unfold Len; omega) (fun c hc => by have := (hg.small.1 c hc).1; unfold Len; omega) (by omega)
  rw [qs6 hg (by omega)] at hSp
  have hih := ih (k + 1) (by omega)
  rw [spV] at he
  simp only [beR] at hL
  generalize hx : q4v (U2 (K7 lm) es) k = x at *
  obtain ⟨⟨xa, xb, xc, xd⟩, xo⟩ := x
  simp only [Be.cells] at hL he
  refine O4 (l := q3h) rfl hR ?_
  unfold q2r
  rcases xo with _ | _
  ·rw [if_neg (fun h => by cases h.1)] at he
   simp -implicitDefEqProofs -dsimp only [go_sem, seval, t1, stR, List.cons_append, List.nil_append, hk8, ↓J0 _ _ U9]
   refine cpn hL ?_
   simp -implicitDefEqProofs -dsimp only [go_sem, seval, ↓Q1, I5, true_and, hws]
   exact hih he h2
  rcases hs1 : o.cs.any (·.has (k : Int)) with _ | _
  case true =>
   rw [hs1] at hSp he
   rw [if_neg (fun h => by cases h.2.1)] at he
   simp -implicitDefEqProofs -dsimp only [go_sem, seval, t1, stR, List.cons_append, List.nil_append, hk8, ↓J0 _ _ U9]
   refine cpn hL ?_
   simp -implicitDefEqProofs -dsimp only [go_sem, seval, ↓Q1, I5, true_and, ↓J0 _ _ V3]
   refine CallK.of hSp ?_
   rintro r1 T1 ⟨j, rfl, hj, rfl⟩
   refine J3 ?_
   have hj2 : decide (j < 0) = false := decide_eq_false (fun h => by have := of_decide_eq_true hj; omega)
   simp -implicitDefEqProofs -dsimp only [go_sem, seval, hj2, ↓Q1, I5, true_and, hws]
   exact hih he h2
  rw [hs1] at hSp he
  rcases hs2 : qjr (K7 lm) (U2 (K7 lm) es) (k : Int) with _ | _
  ·rw [hs2] at hSu he
   rw [if_pos ⟨rfl, rfl, rfl⟩] at he
   rw [<- he] at hq
   simp -implicitDefEqProofs -dsimp only [go_sem, seval, t1, stR, List.cons_append, List.nil_append, hk8, ↓J0 _ _ U9]
   refine cpn hL ?_
   simp -implicitDefEqProofs -dsimp only [go_sem, seval, ↓Q1, I5, true_and, ↓J0 _ _ V3]
   refine CallK.of hSp ?_
   rintro r1 T1 ⟨j, rfl, hj, rfl⟩
   refine J3 ?_
   have hj2 : decide (j < 0) = true := decide_eq_true (by have := of_decide_eq_false hj; omega)
   simp -implicitDefEqProofs -dsimp only [go_sem, seval, hj2, ↓Q1, I5, true_and, ↓J0 _ _ O9]
   refine cpn hSu ?_
   simp -implicitDefEqProofs -dsimp only [go_sem, seval, Bool.not_false]
   exact hq (show ¬ (2 : Int) = 0 by decide)
  ·rw [hs2] at hSu he
   rw [if_neg (fun h => by cases h.2.2)] at he
   simp -implicitDefEqProofs -dsimp only [go_sem, seval, t1, stR, List.cons_append, List.nil_append, hk8, ↓J0 _ _ U9]
   refine cpn hL ?_
   simp -implicitDefEqProofs -dsimp only [go_sem, seval, ↓Q1, I5, true_and, ↓J0 _ _ V3]
   refine CallK.of hSp ?_
   rintro r1 T1 ⟨j, rfl, hj, rfl⟩
   refine J3 ?_
   have hj2 : decide (j < 0) = true := decide_eq_true (by have := of_decide_eq_false hj; omega)
   simp -implicitDefEqProofs -dsimp only [go_sem, seval, hj2, ↓Q1, I5, true_and, ↓J0 _ _ O9]
   refine cpn hSu ?_
   simp -implicitDefEqProofs -dsimp only [go_sem, seval, Bool.not_true, hws]
   exact hih he h2
end
end Go.Aw
