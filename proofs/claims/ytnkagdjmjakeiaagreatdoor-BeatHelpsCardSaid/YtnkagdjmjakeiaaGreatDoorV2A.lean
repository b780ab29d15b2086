import Derived.Test.YtnkagdjmjakeiaaGreatDoorV22T16J
import Derived.Test.YtnkagdjmjakeiaaGreatDoorV22P21B
import Derived.Test.YtnkagdjmjakeiaaGreatDoorV22R28X
namespace Go.Aw
open Go
open Go.Proofs.Tryz (prog)
set_option linter.all false
set_option maxHeartbeats 8000000
set_option maxRecDepth 8000
def pr2 (x : Int × Int) : AV := .tup [.i .i64 x.1, .i .i64 x.2]
def ql2 (l : List Wr) (n : Int) (c : Cf) : Bool := (q9j l n).2 && decide ((q9j l n).1.a = c.sh) && decide ((q9j l n).1.b = c.ep)
theorem qnt {T : Tab} {wid : Nat} {lim : Int} {l : List Wr} (hT : Wt T wid lim l) (hl : WOk lim l) (n : Int) (c : Cf) : ACalls prog q01 [.ptr wid 0, .i .i64 n, .agg (c.cells none none)] T (fun r T' => r = .tup [.agg (q9j l n).1.cells, .b (ql2 l n c)] /\ T' = T) := by
 have hL := qjn hT hl n
 refine K6 O2 qb7 (by simp) ?_
 unfold q5e ql2
 simp only [beR] at hL
 generalize q9j l n = x at *
 obtain ⟨⟨a, b, f, d⟩, ok⟩ := x
 simp only [Be.cells] at hL ⊢
 rcases ok with _ | _
 ·simp -implicitDefEqProofs -dsimp only [go_sem, seval, Cf.cells, ↓J1 _ _ V4]
  refine can hL ?_
  simp -implicitDefEqProofs -dsimp only [go_sem, seval, ↓U9, q0w, true_and]
  exact Q3 (.refl _) rfl
 rcases h1 : decide (a = c.sh) with _ | _
 ·simp -implicitDefEqProofs -dsimp only [go_sem, seval, Cf.cells, ↓J1 _ _ V4]
  refine can hL ?_
  simp -implicitDefEqProofs -dsimp only [go_sem, seval, h1, ↓U9, q0w, true_and]
  exact Q3 (.refl _) rfl
 ·simp -implicitDefEqProofs -dsimp only [go_sem, seval, Cf.cells, ↓J1 _ _ V4]
  refine can hL ?_
  simp -implicitDefEqProofs -dsimp only [go_sem, seval, h1, ↓U9, q0w, true_and]
  exact Q3 (.refl _) rfl
def qvu (lim : Int) (l : List Wr) (c : Cf) : Int × Int := if qg3 lim l c.ln = true then (1, c.ln) else (0, -1)
theorem qs6 {T : Tab} {oid wid : Nat} {lim : Int} {l : List Wr} (hT : Wt T wid lim l) (hl : WOk lim l) (c : Cf) :
  ACalls prog V0 [.agg [.ptr oid 0, .ptr wid 0], .agg (c.cells none none)] T (fun r T' => r = pr2 (qvu lim l c) /\ T' = T) := by
 have hS := q7i hT hl c.ln
 refine K6 O2 q6h (by simp) ?_
 unfold q2y qvu
 rcases hs : qg3 lim l c.ln with _ | _ <;> rw [hs] at hS
 all_goals
  simp -implicitDefEqProofs -dsimp only [go_sem, seval, Cf.cells, ↓J1 _ _ U2]
  refine can hS ?_
  simp -implicitDefEqProofs -dsimp only [go_sem, seval]
  exact K0 rfl
def ql3 (lim : Int) (l : List Wr) (c : Cf) : List Int -> Int × Int
 | [] => (0, -1)
 | k :: ks => if qg3 lim l k = true /\ (c.remove k (IntKind.u64.wrap (c.ep + 1))).2 = 0 then (1, k) else ql3 lim l c ks
theorem qs7 {R : Y5} (hR : ExtR R) {T : Tab} {oid wid : Nat} {lim : Int} {l : List Wr} (hT : Wt T wid lim l) (hl : WOk lim l) {c : Cf} (hc : c.ch.length < 1000000) {L : Loc} (hL : L = [(2, [.ptr oid 0, .ptr wid 0]), (3, c.cells none none)])
  (hq : ∀ L, R .ret [(4, .i .i64 (ql3 lim l c c.ch).1), (5, .i .i64 (ql3 lim l c c.ch).2)] L T) : ∀ (us : List Int) (k : Nat), c.ch.drop k = us -> k <= c.ch.length -> ql3 lim l c us = ql3 lim l c c.ch ->
  (ql3 lim l c c.ch = (0, -1) -> R (.exit 0) [(2, .lp 2 0), (3, .lp 3 0), (11, .fz c.ch.length (q38 c.ch) none), (12, .i .i64 c.ch.length), (13, .i .i64 c.ch.length), (14, .b false)] L T) ->
  AW prog q0q R [(2, .lp 2 0), (3, .lp 3 0), (11, .fz c.ch.length (q38 c.ch) none), (12, .i .i64 c.ch.length), (13, .i .i64 k)] L T := by
 subst hL
 intro us
 induction us with
 | nil =>
  intro k hk hle he h2
  have hk' := q18 hk hle
  refine G9 hR ?_
  unfold q0h
  simp -implicitDefEqProofs -dsimp only [go_sem, seval, hk', Int.lt_irrefl]
  rw [hk'] at h2
  exact h2 (by rw [<- he]; rfl)
 | cons u us ih =>
  intro k hk hle he h2
  obtain ⟨hlt, hy, hk'⟩ := q1e hk
  have hws : IntKind.i64.wrap ((k : Int) + 1) = ((k + 1 : Nat) : Int) := Q0 (by omega)
  have ha : ((q38 c.ch).drop k)[0]? = some (.i .i64 u) := by rw [qb3, hy]; rfl
  have hS := q7i hT hl u
  have hRm := qhb c none none u (IntKind.u64.wrap (c.ep + 1)) (by unfold Len; omega)
  have hih := ih (k + 1) hk' hlt
  simp only [ql3] at he
  simp only [Cf.cells, Cf.ret] at hRm hih ⊢
  refine Q7 (l := q0q) rfl hR ?_
  unfold q0h
  rcases hs : qg3 lim l u with _ | _
  ·rw [hs] at hS he
   rw [if_neg (fun h => by cases h.1)] at he
   simp -implicitDefEqProofs -dsimp only [go_sem, seval, Int.ofNat_lt, hlt, Int.natCast_nonneg, Int.toNat_natCast, Nat.mul_one, ha, ↓J1 _ _ U2]
   refine can hS ?_
   simp -implicitDefEqProofs -dsimp only [go_sem, seval, Bool.not_false, hws]
   exact hih he h2
  ·rw [hs] at hS he
   by_cases hr : (c.remove u (IntKind.u64.wrap (c.ep + 1))).2 = 0
   ·have dr : decide ((c.remove u (IntKind.u64.wrap (c.ep + 1))).2 = 0) = true := decide_eq_true hr
    rw [if_pos ⟨rfl, hr⟩] at he
    rw [<- he] at hq
    simp -implicitDefEqProofs -dsimp only [go_sem, seval, Int.ofNat_lt, hlt, Int.natCast_nonneg, Int.toNat_natCast, Nat.mul_one, ha, ↓J1 _ _ U2]
    refine can hS ?_
    simp -implicitDefEqProofs -dsimp only [go_sem, seval, Bool.not_true, ↓J1 _ _ q66]
    refine cpn hRm ?_
    simp -implicitDefEqProofs -dsimp only [go_sem, seval, dr]
    exact hq _
   ·have dr : decide ((c.remove u (IntKind.u64.wrap (c.ep + 1))).2 = 0) = false := decide_eq_false hr
    rw [if_neg (fun h => hr h.2)] at he
    simp -implicitDefEqProofs -dsimp only [go_sem, seval, Int.ofNat_lt, hlt, Int.natCast_nonneg, Int.toNat_natCast, Nat.mul_one, ha, ↓J1 _ _ U2]
    refine can hS ?_
    simp -implicitDefEqProofs -dsimp only [go_sem, seval, Bool.not_true, ↓J1 _ _ q66]
    refine cpn hRm ?_
    simp -implicitDefEqProofs -dsimp only [go_sem, seval, dr, hws]
    exact hih he h2
theorem qs8 {T : Tab} {oid wid : Nat} {lim : Int} {l : List Wr} (hT : Wt T wid lim l) (hl : WOk lim l) (c : Cf) (hc : c.ch.length < 1000000) :
  ACalls prog Y2 [.agg [.ptr oid 0, .ptr wid 0], .agg (c.cells none none)] T (fun r T' => r = pr2 (ql3 lim l c c.ch) /\ T' = T) := by
 refine K6 O2 q74 (by simp) ?_
 unfold q3a
 have key := fun (R : Y5) (hR : ExtR R) => qs7 (R := R) hR (oid := oid) hT hl hc rfl
 simp only [Cf.cells] at key ⊢
 simp -implicitDefEqProofs -dsimp only [go_sem, seval]
 refine key _ (by repeat' (first | exact O6 _ _ | assumption | apply O5 | apply N2 | apply Z8)) (fun L => ?_) c.ch 0 rfl (Nat.zero_le _) rfl (fun h => ?_)
 ·simp -implicitDefEqProofs -dsimp only [go_sem, seval]
  exact Q3 (.refl _) rfl
 ·rw [h]
  simp -implicitDefEqProofs -dsimp only [go_sem, seval]
  exact Q3 (.refl _) rfl
def ql4 (l : List Wr) (c : Cf) : List Int -> Nat -> Int × Int
 | [], _ => (0, -1)
 | k :: ks, i => if ql2 l k c = true /\ (c.fu[i]?).getD false = false /\ (q9j l k).1.c = true then (4, k) else ql4 l c ks (i + 1)
theorem qs9 {R : Y5} (hR : ExtR R) {T : Tab} {oid wid : Nat} {lim : Int} {l : List Wr} (hT : Wt T wid lim l) (hl : WOk lim l) {c : Cf} (hc : c.ch.length < 1000000) (hf : c.fu.length = c.ch.length) {L : Loc} (hL : L = [(2, [.ptr oid 0, .ptr wid 0]), (3, c.cells none none)])
  (hq : ∀ L, R .ret [(4, .i .i64 (ql4 l c c.ch 0).1), (5, .i .i64 (ql4 l c c.ch 0).2)] L T) : ∀ (us : List Int) (k : Nat), c.ch.drop k = us -> k <= c.ch.length -> ql4 l c us k = ql4 l c c.ch 0 ->
  (ql4 l c c.ch 0 = (0, -1) -> R (.exit 0) [(2, .lp 2 0), (3, .lp 3 0), (11, .fz c.ch.length (q38 c.ch) none), (12, .i .i64 c.ch.length), (13, .i .i64 c.ch.length), (14, .b false)] L T) ->
  AW prog q1g R [(2, .lp 2 0), (3, .lp 3 0), (11, .fz c.ch.length (q38 c.ch) none), (12, .i .i64 c.ch.length), (13, .i .i64 k)] L T := by
 subst hL
 intro us
 induction us with
 | nil =>
  intro k hk hle he h2
  have hk' := q18 hk hle
  refine G9 hR ?_
  unfold q12
  simp -implicitDefEqProofs -dsimp only [go_sem, seval, hk', Int.lt_irrefl]
  rw [hk'] at h2
  exact h2 (by rw [<- he]; rfl)
 | cons u us ih =>
  intro k hk hle he h2
  obtain ⟨hlt, hy, hk'⟩ := q1e hk
  have hws : IntKind.i64.wrap ((k : Int) + 1) = ((k + 1 : Nat) : Int) := Q0 (by omega)
  have ha : ((q38 c.ch).drop k)[0]? = some (.i .i64 u) := by rw [qb3, hy]; rfl
  have hkf : k < c.fu.length := by omega
  obtain ⟨b, hb⟩ : ∃ b, c.fu[k]? = some b := ⟨_, List.getElem?_eq_getElem hkf⟩
  have hbb : ((G4 c.fu).drop k)[0]? = some (.b b) := by rw [q3t, hb]; rfl
  have hS := qnt hT hl u c
  have hih := ih (k + 1) hk' hlt
  simp only [ql4, hb, Option.getD_some] at he
  simp only [Cf.cells] at hS hih ⊢
  generalize ql2 l u c = sb at *
  generalize hx : (q9j l u).1 = x at *
  obtain ⟨xa, xb, xc, xd⟩ := x
  simp only [Be.cells] at hS he
  refine Q7 (l := q1g) rfl hR ?_
  unfold q12
  rcases sb with _ | _
  ·rw [if_neg (fun h => by cases h.1)] at he
   simp -implicitDefEqProofs -dsimp only [go_sem, seval, Int.ofNat_lt, hlt, Int.natCast_nonneg, Int.toNat_natCast, Nat.mul_one, ha, ↓J1 _ _ U3]
   refine can hS ?_
   simp -implicitDefEqProofs -dsimp only [go_sem, seval, ↓U9, q0w, true_and, hws]
   exact hih he h2
  rcases b with _ | _
  case true =>
   rw [if_neg (fun h => by cases h.2.1)] at he
   simp -implicitDefEqProofs -dsimp only [go_sem, seval, Int.ofNat_lt, hlt, Int.natCast_nonneg, Int.toNat_natCast, Nat.mul_one, ha, ↓J1 _ _ U3]
   refine can hS ?_
   simp -implicitDefEqProofs -dsimp only [go_sem, seval, Int.ofNat_lt, hkf, Int.natCast_nonneg, Int.toNat_natCast, Nat.mul_one, hbb, Bool.not_true, ↓U9, q0w, true_and, hws]
   exact hih he h2
  rcases xc with _ | _
  ·rw [if_neg (fun h => by cases h.2.2)] at he
   simp -implicitDefEqProofs -dsimp only [go_sem, seval, Int.ofNat_lt, hlt, Int.natCast_nonneg, Int.toNat_natCast, Nat.mul_one, ha, ↓J1 _ _ U3]
   refine can hS ?_
   simp -implicitDefEqProofs -dsimp only [go_sem, seval, Int.ofNat_lt, hkf, Int.natCast_nonneg, Int.toNat_natCast, Nat.mul_one, hbb, Bool.not_false, ↓U9, q0w, true_and, hws]
   exact hih he h2
  ·rw [if_pos ⟨rfl, rfl, rfl⟩] at he
   rw [<- he] at hq
   simp -implicitDefEqProofs -dsimp only [go_sem, seval, Int.ofNat_lt, hlt, Int.natCast_nonneg, Int.toNat_natCast, Nat.mul_one, ha, ↓J1 _ _ U3]
   refine can hS ?_
   simp -implicitDefEqProofs -dsimp only [go_sem, seval, Int.ofNat_lt, hkf, Int.natCast_nonneg, Int.toNat_natCast, Nat.mul_one, hbb, Bool.not_false, ↓U9, q0w, true_and, hws]
   exact hq _
theorem qsa {T : Tab} {oid wid : Nat} {lim : Int} {l : List Wr} (hT : Wt T wid lim l) (hl : WOk lim l) (c : Cf) (hc : c.ch.length < 1000000) (hf : c.fu.length = c.ch.length) :
  ACalls prog Z9 [.agg [.ptr oid 0, .ptr wid 0], .agg (c.cells none none)] T (fun r T' => r = pr2 (ql4 l c c.ch 0) /\ T' = T) := by
 refine K6 O2 q8x (by simp) ?_
 unfold q47
 have key := fun (R : Y5) (hR : ExtR R) => qs9 (R := R) hR (oid := oid) hT hl hc hf rfl
 simp only [Cf.cells] at key ⊢
 simp -implicitDefEqProofs -dsimp only [go_sem, seval]
 refine key _ (by repeat' (first | exact O6 _ _ | assumption | apply O5 | apply N2 | apply Z8)) (fun L => ?_) c.ch 0 rfl (Nat.zero_le _) rfl (fun h => ?_)
 ·simp -implicitDefEqProofs -dsimp only [go_sem, seval]
  exact Q3 (.refl _) rfl
 ·rw [h]
  simp -implicitDefEqProofs -dsimp only [go_sem, seval]
  exact Q3 (.refl _) rfl
end Go.Aw
