import Derived.Test.YtnkagdjmjakeiaaGreatDoorV22B22Q
import Derived.Test.YtnkagdjmjakeiaaGreatDoorV22P21B
import Derived.Test.YtnkagdjmjakeiaaGreatDoorV22G21J
namespace Go.Aw
open Go
open Go.Proofs.Tryz (prog)
set_option linter.all false
set_option maxHeartbeats 8000000
set_option maxRecDepth 8000
def pr2 (x : Int × Int) : AV := .tup [.i .i64 x.1, .i .i64 x.2]
def qhv (l : List Wr) (n : Int) (c : Cf) : Bool := (q4v l n).2 && decide ((q4v l n).1.a = c.sh) && decide ((q4v l n).1.b = c.ep)
theorem qs9 {T : Tab} {wid : Nat} {lim : Int} {l : List Wr} (hT : Wt T wid lim l) (hl : WOk lim l) (n : Int) (c : Cf) : ACalls prog q0q [.ptr wid 0, .i .i64 n, .agg (c.cells none none)] T (fun r T' => r = .tup [.agg (q4v l n).1.cells, .b (qhv l n c)] /\ T' = T) := by
 have hL := qno hT hl n
 refine K3 O1 qeq (by simp) ?_
 unfold q7r qhv
 simp only [beR] at hL
 generalize q4v l n = x at *
 obtain ⟨⟨a, b, f, d⟩, ok⟩ := x
 simp only [Be.cells] at hL ⊢
 rcases ok with _ | _
 ·simp -implicitDefEqProofs -dsimp only [go_sem, seval, Cf.cells, ↓J0 _ _ Y6]
  refine can hL ?_
  simp -implicitDefEqProofs -dsimp only [go_sem, seval, ↓Q1, I5, true_and]
  exact O6 (.refl _) rfl
 rcases h1 : decide (a = c.sh) with _ | _
 ·simp -implicitDefEqProofs -dsimp only [go_sem, seval, Cf.cells, ↓J0 _ _ Y6]
  refine can hL ?_
  simp -implicitDefEqProofs -dsimp only [go_sem, seval, h1, ↓Q1, I5, true_and]
  exact O6 (.refl _) rfl
 ·simp -implicitDefEqProofs -dsimp only [go_sem, seval, Cf.cells, ↓J0 _ _ Y6]
  refine can hL ?_
  simp -implicitDefEqProofs -dsimp only [go_sem, seval, h1, ↓Q1, I5, true_and]
  exact O6 (.refl _) rfl
def z0l (lim : Int) (l : List Wr) (c : Cf) : Int × Int := if qjr lim l c.ln = true then (1, c.ln) else (0, -1)
theorem qwy {T : Tab} {oid wid : Nat} {lim : Int} {l : List Wr} (hT : Wt T wid lim l) (hl : WOk lim l) (c : Cf) :
  ACalls prog Y1 [.agg [.ptr oid 0, .ptr wid 0], .agg (c.cells none none)] T (fun r T' => r = pr2 (z0l lim l c) /\ T' = T) := by
 have hS := qa7 hT hl c.ln
 refine K3 O1 q93 (by simp) ?_
 unfold q4c z0l
 rcases hs : qjr lim l c.ln with _ | _ <;> rw [hs] at hS
 all_goals
  simp -implicitDefEqProofs -dsimp only [go_sem, seval, Cf.cells, ↓J0 _ _ V4]
  refine can hS ?_
  simp -implicitDefEqProofs -dsimp only [go_sem, seval]
  exact J9 rfl
def qlh (lim : Int) (l : List Wr) (c : Cf) : List Int -> Int × Int
 | [] => (0, -1)
 | k :: ks => if qjr lim l k = true /\ (c.remove k (IntKind.u64.wrap (c.ep + 1))).2 = 0 then (1, k) else qlh lim l c ks
theorem qwz {R : U6} (hR : ExtR R) {T : Tab} {oid wid : Nat} {lim : Int} {l : List Wr} (hT : Wt T wid lim l) (hl : WOk lim l) {c : Cf} (hc : c.ch.length < 1000000) {L : Loc} (hL : L = [(2, [.ptr oid 0, .ptr wid 0]), (3, c.cells none none)])
  (hq : ∀ L, R .ret [(4, .i .i64 (qlh lim l c c.ch).1), (5, .i .i64 (qlh lim l c c.ch).2)] L T) : ∀ (us : List Int) (k : Nat), c.ch.drop k = us -> k <= c.ch.length -> qlh lim l c us = qlh lim l c c.ch ->
  (qlh lim l c c.ch = (0, -1) -> R (.exit 0) [(2, .lp 2 0), (3, .lp 3 0), (11, .fz c.ch.length (q5k c.ch) none), (12, .i .i64 c.ch.length), (13, .i .i64 c.ch.length), (14, .b false)] L T) ->
  AW prog q1k R [(2, .lp 2 0), (3, .lp 3 0), (11, .fz c.ch.length (q5k c.ch) none), (12, .i .i64 c.ch.length), (13, .i .i64 k)] L T := by
 subst hL
 intro us
 induction us with
 | nil =>
  intro k hk hle he h2
  have hk' := I0 hk hle
  refine U8 hR ?_
  unfold q18
  simp -implicitDefEqProofs -dsimp only [go_sem, seval, hk', Int.lt_irrefl]
  rw [hk'] at h2
  exact h2 (by rw [<- he]; rfl)
 | cons u us ih =>
  intro k hk hle he h2
  obtain ⟨hlt, hy, hk'⟩ := q0b hk
  have hws : IntKind.i64.wrap ((k : Int) + 1) = ((k + 1 : Nat) : Int) := O0 (by omega)
  have ha : ((q5k c.ch).drop k)[0]? = some (.i .i64 u) := by rw [qgk, hy]; rfl
  have hS := qa7 hT hl u
  have hRm := ql1 c none none u (IntKind.u64.wrap (c.ep + 1)) (by unfold Len; omega)
  have hih := ih (k + 1) hk' hlt
  simp only [qlh] at he
  simp only [Cf.cells, Cf.ret] at hRm hih ⊢
  refine O4 (l := q1k) rfl hR ?_
  unfold q18
  rcases hs : qjr lim l u with _ | _
  ·rw [hs] at hS he
   rw [if_neg (fun h => by cases h.1)] at he
   simp -implicitDefEqProofs -dsimp only [go_sem, seval, Int.ofNat_lt, hlt, Int.natCast_nonneg, Int.toNat_natCast, Nat.mul_one, ha, ↓J0 _ _ V4]
   refine can hS ?_
   simp -implicitDefEqProofs -dsimp only [go_sem, seval, Bool.not_false, hws]
   exact hih he h2
  ·rw [hs] at hS he
   by_cases hr : (c.remove u (IntKind.u64.wrap (c.ep + 1))).2 = 0
   ·have dr : decide ((c.remove u (IntKind.u64.wrap (c.ep + 1))).2 = 0) = true := decide_eq_true hr
    rw [if_pos ⟨rfl, hr⟩] at he
    rw [<- he] at hq
    simp -implicitDefEqProofs -dsimp only [go_sem, seval, Int.ofNat_lt, hlt, Int.natCast_nonneg, Int.toNat_natCast, Nat.mul_one, ha, ↓J0 _ _ V4]
    refine can hS ?_
    simp -implicitDefEqProofs -dsimp only [go_sem, seval, Bool.not_true, ↓J0 _ _ q8m]
    refine cpn hRm ?_
    simp -implicitDefEqProofs -dsimp only [go_sem, seval, dr]
    exact hq _
   ·have dr : decide ((c.remove u (IntKind.u64.wrap (c.ep + 1))).2 = 0) = false := decide_eq_false hr
    rw [if_neg (fun h => hr h.2)] at he
    simp -implicitDefEqProofs -dsimp only [go_sem, seval, Int.ofNat_lt, hlt, Int.natCast_nonneg, Int.toNat_natCast, Nat.mul_one, ha, ↓J0 _ _ V4]
    refine can hS ?_
    simp -implicitDefEqProofs -dsimp only [go_sem, seval, Bool.not_true, ↓J0 _ _ q8m]
    refine cpn hRm ?_
    simp -implicitDefEqProofs -dsimp only [go_sem, seval, dr, hws]
    exact hih he h2
theorem qx0 {T : Tab} {oid wid : Nat} {lim : Int} {l : List Wr} (hT : Wt T wid lim l) (hl : WOk lim l) (c : Cf) (hc : c.ch.length < 1000000) :
  ACalls prog Z3 [.agg [.ptr oid 0, .ptr wid 0], .agg (c.cells none none)] T (fun r T' => r = pr2 (qlh lim l c c.ch) /\ T' = T) := by
 refine K3 O1 q9r (by simp) ?_
 unfold q4o
 have key := fun (R : U6) (hR : ExtR R) => qwz (R := R) hR (oid := oid) hT hl hc rfl
 simp only [Cf.cells] at key ⊢
 simp -implicitDefEqProofs -dsimp only [go_sem, seval]
 refine key _ (by repeat' (first | exact N8 _ _ | assumption | apply N7 | apply N0 | apply V0)) (fun L => ?_) c.ch 0 rfl (Nat.zero_le _) rfl (fun h => ?_)
 ·simp -implicitDefEqProofs -dsimp only [go_sem, seval]
  exact O6 (.refl _) rfl
 ·rw [h]
  simp -implicitDefEqProofs -dsimp only [go_sem, seval]
  exact O6 (.refl _) rfl
def qli (l : List Wr) (c : Cf) : List Int -> Nat -> Int × Int
 | [], _ => (0, -1)
 | k :: ks, i => if qhv l k c = true /\ (c.fu[i]?).getD false = false /\ (q4v l k).1.c = true then (4, k) else qli l c ks (i + 1)
theorem qx1 {R : U6} (hR : ExtR R) {T : Tab} {oid wid : Nat} {lim : Int} {l : List Wr} (hT : Wt T wid lim l) (hl : WOk lim l) {c : Cf} (hc : c.ch.length < 1000000) (hf : c.fu.length = c.ch.length) {L : Loc} (hL : L = [(2, [.ptr oid 0, .ptr wid 0]), (3, c.cells none none)])
  (hq : ∀ L, R .ret [(4, .i .i64 (qli l c c.ch 0).1), (5, .i .i64 (qli l c c.ch 0).2)] L T) : ∀ (us : List Int) (k : Nat), c.ch.drop k = us -> k <= c.ch.length -> qli l c us k = qli l c c.ch 0 ->
  (qli l c c.ch 0 = (0, -1) -> R (.exit 0) [(2, .lp 2 0), (3, .lp 3 0), (11, .fz c.ch.length (q5k c.ch) none), (12, .i .i64 c.ch.length), (13, .i .i64 c.ch.length), (14, .b false)] L T) ->
  AW prog q2n R [(2, .lp 2 0), (3, .lp 3 0), (11, .fz c.ch.length (q5k c.ch) none), (12, .i .i64 c.ch.length), (13, .i .i64 k)] L T := by
 subst hL
 intro us
 induction us with
 | nil =>
  intro k hk hle he h2
  have hk' := I0 hk hle
  refine U8 hR ?_
  unfold q21
  simp -implicitDefEqProofs -dsimp only [go_sem, seval, hk', Int.lt_irrefl]
  rw [hk'] at h2
  exact h2 (by rw [<- he]; rfl)
 | cons u us ih =>
  intro k hk hle he h2
  obtain ⟨hlt, hy, hk'⟩ := q0b hk
  have hws : IntKind.i64.wrap ((k : Int) + 1) = ((k + 1 : Nat) : Int) := O0 (by omega)
  have ha : ((q5k c.ch).drop k)[0]? = some (.i .i64 u) := by rw [qgk, hy]; rfl
  have hkf : k < c.fu.length := by omega
  obtain ⟨b, hb⟩ : ∃ b, c.fu[k]? = some b := ⟨_, List.getElem?_eq_getElem hkf⟩
  have hbb : ((q1v c.fu).drop k)[0]? = some (.b b) := by rw [qag, hb]; rfl
  have hS := qs9 hT hl u c
  have hih := ih (k + 1) hk' hlt
  simp only [qli, hb, Option.getD_some] at he
  simp only [Cf.cells] at hS hih ⊢
  generalize qhv l u c = sb at *
  generalize hx : (q4v l u).1 = x at *
  obtain ⟨xa, xb, xc, xd⟩ := x
  simp only [Be.cells] at hS he
  refine O4 (l := q2n) rfl hR ?_
  unfold q21
  rcases sb with _ | _
  ·rw [if_neg (fun h => by cases h.1)] at he
   simp -implicitDefEqProofs -dsimp only [go_sem, seval, Int.ofNat_lt, hlt, Int.natCast_nonneg, Int.toNat_natCast, Nat.mul_one, ha, ↓J0 _ _ V5]
   refine can hS ?_
   simp -implicitDefEqProofs -dsimp only [go_sem, seval, ↓Q1, I5, true_and, hws]
   exact hih he h2
  rcases b with _ | _
  case true =>
   rw [if_neg (fun h => by cases h.2.1)] at he
   simp -implicitDefEqProofs -dsimp only [go_sem, seval, Int.ofNat_lt, hlt, Int.natCast_nonneg, Int.toNat_natCast, Nat.mul_one, ha, ↓J0 _ _ V5]
   refine can hS ?_
   simp -implicitDefEqProofs -dsimp only [go_sem, seval, Int.ofNat_lt, hkf, Int.natCast_nonneg, Int.toNat_natCast, Nat.mul_one, hbb, Bool.not_true, ↓Q1, I5, true_and, hws]
   exact hih he h2
  rcases xc with _ | _
  ·rw [if_neg (fun h => by cases h.2.2)] at he
   simp -implicitDefEqProofs -dsimp only [go_sem, seval, Int.ofNat_lt, hlt, Int.natCast_nonneg, Int.toNat_natCast, Nat.mul_one, ha, ↓J0 _ _ V5]
   refine can hS ?_
   simp -implicitDefEqProofs -dsimp only [go_sem, seval, Int.ofNat_lt, hkf, Int.natCast_nonneg, Int.toNat_natCast, Nat.mul_one, hbb, Bool.not_false, ↓Q1, I5, true_and, hws]
   exact hih he h2
  ·rw [if_pos ⟨rfl, rfl, rfl⟩] at he
   rw [<- he] at hq
   simp -implicitDefEqProofs -dsimp only [go_sem, seval, Int.ofNat_lt, hlt, Int.natCast_nonneg, Int.toNat_natCast, Nat.mul_one, ha, ↓J0 _ _ V5]
   refine can hS ?_
   simp -implicitDefEqProofs -dsimp only [go_sem, seval, Int.ofNat_lt, hkf, Int.natCast_nonneg, Int.toNat_natCast, Nat.mul_one, hbb, Bool.not_false, ↓Q1, I5, true_and, hws]
   exact hq _
theorem qx2 {T : Tab} {oid wid : Nat} {lim : Int} {l : List Wr} (hT : Wt T wid lim l) (hl : WOk lim l) (c : Cf) (hc : c.ch.length < 1000000) (hf : c.fu.length = c.ch.length) :
  ACalls prog I7 [.agg [.ptr oid 0, .ptr wid 0], .agg (c.cells none none)] T (fun r T' => r = pr2 (qli l c c.ch 0) /\ T' = T) := by
 refine K3 O1 qc4 (by simp) ?_
 unfold q5q
 have key := fun (R : U6) (hR : ExtR R) => qx1 (R := R) hR (oid := oid) hT hl hc hf rfl
 simp only [Cf.cells] at key ⊢
 simp -implicitDefEqProofs -dsimp only [go_sem, seval]
 refine key _ (by repeat' (first | exact N8 _ _ | assumption | apply N7 | apply N0 | apply V0)) (fun L => ?_) c.ch 0 rfl (Nat.zero_le _) rfl (fun h => ?_)
 ·simp -implicitDefEqProofs -dsimp only [go_sem, seval]
  exact O6 (.refl _) rfl
 ·rw [h]
  simp -implicitDefEqProofs -dsimp only [go_sem, seval]
  exact O6 (.refl _) rfl
end Go.Aw
