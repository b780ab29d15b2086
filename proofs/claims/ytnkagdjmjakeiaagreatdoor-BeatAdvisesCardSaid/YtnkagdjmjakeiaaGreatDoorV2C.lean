import Derived.Test.YtnkagdjmjakeiaaGreatDoorV2B
namespace Go.Aw
open Go
open Go.Proofs.Tryz (prog)
set_option linter.all false
set_option maxHeartbeats 8000000
set_option maxRecDepth 8000
section
variable {es : List Ev} {cap : Option Nat} {m : Int}
theorem qlj (hl : Len es.length) (n : Int) : Q4 prog Y5 [.fz es.length (es.flatMap evC) cap, .i .i64 n] (beR (q4v (U2 (K7 m) es) n)) := by
 have := qte es cap n hl
 rw [qvu]
 exact this
theorem qk1 (hl : es.length <= 60) (n : Int) : Q4 prog O8 [.fz es.length (es.flatMap evC) cap, .i .i64 m, .i .i64 n] (.b (qjr (K7 m) (U2 (K7 m) es) n)) := by
 have := qvt es cap m n hl
 rw [z0a]
 exact this
theorem qo2 (hl : Len es.length) (n : Int) (c : Cf) (k : Option Nat) : Q4 prog I9 [.fz es.length (es.flatMap evC) cap, .i .i64 n, .agg (c.plain.cells k)] (.tup [.agg (q4v (U2 (K7 m) es) n).1.cells, .b (qhv (U2 (K7 m) es) n c)]) := by
 have hL := qlj (cap := cap) (m := m) hl n
 refine K8 O1 qci (by simp) fun T => ?_
 unfold q5x qhv
 simp only [beR] at hL
 generalize q4v (U2 (K7 m) es) n = x at *
 obtain ⟨⟨a, b, f, d⟩, ok⟩ := x
 simp only [Be.cells, Rf.cells, Cf.plain] at hL ⊢
 rcases ok with _ | _
 ·simp -implicitDefEqProofs -dsimp only [go_sem, seval, ↓J0 _ _ U9]
  refine cpn hL ?_
  simp -implicitDefEqProofs -dsimp only [go_sem, seval, ↓Q1, I5, true_and]
  exact O6 (.refl _) rfl
 rcases h1 : decide (a = c.sh) with _ | _
 ·simp -implicitDefEqProofs -dsimp only [go_sem, seval, ↓J0 _ _ U9]
  refine cpn hL ?_
  simp -implicitDefEqProofs -dsimp only [go_sem, seval, h1, ↓Q1, I5, true_and]
  exact O6 (.refl _) rfl
 ·simp -implicitDefEqProofs -dsimp only [go_sem, seval, ↓J0 _ _ U9]
  refine cpn hL ?_
  simp -implicitDefEqProofs -dsimp only [go_sem, seval, h1, ↓Q1, I5, true_and]
  exact O6 (.refl _) rfl
end
theorem qk2 {c : Cf} (hf : c.fu.length = c.ch.length) {k : Nat} {u : Int} (hy : c.ch[k]? = some u) : c.plain.l[k]? = some (u, (c.fu[k]?).getD false) := by
 have hz : c.plain.l = c.ch.zip c.fu := Cf.plain_zip hf
 have hk : k < c.ch.length := (List.getElem?_eq_some_iff.1 hy).1
 obtain ⟨b, hb⟩ : ∃ b, c.fu[k]? = some b := ⟨_, List.getElem?_eq_getElem (by omega)⟩
 rw [hz, hb]
 exact List.getElem?_zip_eq_some (z := (u, b)) |>.2 ⟨hy, hb⟩
theorem q8s {c : Cf} : c.plain.l.length = c.ch.length := c.plain_len
section
variable {es : List Ev} {cap : Option Nat} {lm : Int} {T : Tab} {rid : Nat} {c : Cf}
theorem qub {R : U6} (hR : ExtR R) (hes : es.length <= 60) (hc : c.ch.length < 1000000) (hf : c.fu.length = c.ch.length)
  (hq : ∀ L, ¬ (qlh (K7 lm) (U2 (K7 lm) es) c c.ch).1 = 0 -> R .ret [(8, .i .i64 (qlh (K7 lm) (U2 (K7 lm) es) c c.ch).1), (9, .i .i64 (qlh (K7 lm) (U2 (K7 lm) es) c c.ch).2)] L T) : ∀ (us : List Int) (k : Nat), c.ch.drop k = us -> k <= c.ch.length -> qlh (K7 lm) (U2 (K7 lm) es) c us = qlh (K7 lm) (U2 (K7 lm) es) c c.ch ->
  (qlh (K7 lm) (U2 (K7 lm) es) c c.ch = (0, -1) -> R (.exit 0) [(0, .ptr rid 0), (1, .fz es.length (es.flatMap evC) cap), (2, .i .i64 lm), (7, .lp 7 0), (32, .fz c.ch.length (mem c.plain.l) none), (33, .i .i64 c.ch.length), (34, .i .i64 c.ch.length), (35, .b false)] [(7, c.plain.cells none)] T) ->
  AW prog q3f R [(0, .ptr rid 0), (1, .fz es.length (es.flatMap evC) cap), (2, .i .i64 lm), (7, .lp 7 0), (32, .fz c.ch.length (mem c.plain.l) none), (33, .i .i64 c.ch.length), (34, .i .i64 k)] [(7, c.plain.cells none)] T := by
 intro us
 induction us with
 | nil =>
  intro k hk hle he h2
  have hk' := I0 hk hle
  refine U8 hR ?_
  unfold q2p
  simp -implicitDefEqProofs -dsimp only [go_sem, seval, hk', Int.lt_irrefl]
  rw [hk'] at h2
  exact h2 (by rw [<- he]; rfl)
 | cons u us ih =>
  intro k hk hle he h2
  obtain ⟨hlt, hy, hk'⟩ := q0b hk
  have hws : IntKind.i64.wrap ((k : Int) + 1) = ((k + 1 : Nat) : Int) := O0 (by omega)
  have hpl := qk2 hf hy
  have ha := qfd hpl
  have hm2 : k * 2 + 2 <= (mem c.plain.l).length := by rw [q5g, q8s]; omega
  have hS := qk1 (cap := cap) (m := lm) hes u
  have hRm := qik c.plain none u (IntKind.u64.wrap (c.ep + 1)) (by rw [q8s]; omega)
  have hag := (qfh hf u (IntKind.u64.wrap (c.ep + 1))).e
  have hih := ih (k + 1) hk' hlt
  simp only [qlh] at he
  generalize (c.fu[k]?).getD false = fb at *
  have hep : c.plain.ep = c.ep := rfl
  generalize hRR : c.plain.remove u (IntKind.u64.wrap (c.ep + 1)) = RR at *
  obtain ⟨rf, code⟩ := RR
  simp only at hag
  rw [hag] at he
  simp only [Rf.cells, Rf.ret, hep] at hRm hih h2 ⊢
  have hln : c.plain.l.length = c.ch.length := q8s
  generalize c.plain.sh = psh at *
  generalize c.plain.ln = pln at *
  generalize mem c.plain.l = ml at *
  rw [hln] at hRm hih h2 ⊢
  refine O4 (l := q3f) rfl hR ?_
  unfold q2p
  rcases hs : qjr (K7 lm) (U2 (K7 lm) es) u with _ | _
  ·rw [hs] at hS he
   rw [if_neg (fun h => by cases h.1)] at he
   simp -implicitDefEqProofs -dsimp only [go_sem, seval, Int.ofNat_lt, hlt, Int.natCast_nonneg, Int.toNat_natCast, hm2, ha, List.cons_append, List.nil_append, ↓J0 _ _ q0a]
   refine cpn hRm ?_
   simp -implicitDefEqProofs -dsimp only [go_sem, seval, ↓J0 _ _ O9]
   refine cpn hS ?_
   simp -implicitDefEqProofs -dsimp only [go_sem, seval, ↓Q1, I5, true_and, hws]
   exact hih he h2
  ·rw [hs] at hS he
   by_cases hr : code = 0
   ·have dr : decide (code = 0) = true := decide_eq_true hr
    rw [if_pos ⟨rfl, hr⟩] at he
    rw [<- he] at hq
    simp -implicitDefEqProofs -dsimp only [go_sem, seval, Int.ofNat_lt, hlt, Int.natCast_nonneg, Int.toNat_natCast, hm2, ha, List.cons_append, List.nil_append, ↓J0 _ _ q0a]
    refine cpn hRm ?_
    simp -implicitDefEqProofs -dsimp only [go_sem, seval, ↓J0 _ _ O9]
    refine cpn hS ?_
    simp -implicitDefEqProofs -dsimp only [go_sem, seval, dr, ↓Q1, I5, true_and, hws]
    exact hq _ (show ¬ (1 : Int) = 0 by decide)
   ·have dr : decide (code = 0) = false := decide_eq_false hr
    rw [if_neg (fun h => hr h.2)] at he
    simp -implicitDefEqProofs -dsimp only [go_sem, seval, Int.ofNat_lt, hlt, Int.natCast_nonneg, Int.toNat_natCast, hm2, ha, List.cons_append, List.nil_append, ↓J0 _ _ q0a]
    refine cpn hRm ?_
    simp -implicitDefEqProofs -dsimp only [go_sem, seval, ↓J0 _ _ O9]
    refine cpn hS ?_
    simp -implicitDefEqProofs -dsimp only [go_sem, seval, dr, ↓Q1, I5, true_and, hws]
    exact hih he h2
end
end Go.Aw
