import Derived.Test.YtnkagdjmjakeiaaGreatDoorV2A
namespace Go.Aw
open Go
open Go.Proofs.Tryz (prog)
set_option linter.all false
set_option maxHeartbeats 8000000
set_option maxRecDepth 8000
def qvv (l : List Wr) (c : Cf) : Int × Int := if ql2 l (c.at (c.ch.length - 1)) c = true /\ ¬ c.ln = -1 /\ (q9j l (c.at (c.ch.length - 1))).1.d = c.ln then (3, c.ln) else (0, -1)
theorem qsb {T : Tab} {oid wid : Nat} {lim : Int} {l : List Wr} (hT : Wt T wid lim l) (hl : WOk lim l) (c : Cf) (hc : c.ch.length < 1000000) :
  ACalls prog Y3 [.agg [.ptr oid 0, .ptr wid 0], .agg (c.cells none none)] T (fun r T' => r = pr2 (qvv l c) /\ T' = T) := by
 have hTl := qr6 c none none (by unfold Len; omega)
 have hS := qnt hT hl (c.at (c.ch.length - 1)) c
 refine K6 O2 q77 (by simp) ?_
 unfold q3b qvv
 generalize c.at (c.ch.length - 1) = t at *
 generalize ql2 l t c = sb at *
 generalize (q9j l t).1 = x at *
 obtain ⟨xa, xb, xc, xd⟩ := x
 simp only [Be.cells, Cf.cells] at hS hTl ⊢
 rcases sb with _ | _
 ·rw [if_neg (fun h => by cases h.1)]
  simp -implicitDefEqProofs -dsimp only [go_sem, seval, ↓J1 _ _ q1w]
  refine cpn hTl ?_
  simp -implicitDefEqProofs -dsimp only [go_sem, seval, ↓J1 _ _ U3]
  refine can hS ?_
  simp -implicitDefEqProofs -dsimp only [go_sem, seval, ↓U9, q0w, true_and]
  exact K0 rfl
 by_cases h1 : c.ln = -1
 ·have d1 : decide (c.ln = -1) = true := decide_eq_true h1
  rw [if_neg (fun h => h.2.1 h1)]
  simp -implicitDefEqProofs -dsimp only [go_sem, seval, ↓J1 _ _ q1w]
  refine cpn hTl ?_
  simp -implicitDefEqProofs -dsimp only [go_sem, seval, ↓J1 _ _ U3]
  refine can hS ?_
  simp -implicitDefEqProofs -dsimp only [go_sem, seval, d1, Bool.not_true, ↓U9, q0w, true_and]
  exact K0 rfl
 have d1 : decide (c.ln = -1) = false := decide_eq_false h1
 by_cases h2 : xd = c.ln
 ·have d2 : decide (xd = c.ln) = true := decide_eq_true h2
  rw [if_pos ⟨rfl, h1, h2⟩]
  simp -implicitDefEqProofs -dsimp only [go_sem, seval, ↓J1 _ _ q1w]
  refine cpn hTl ?_
  simp -implicitDefEqProofs -dsimp only [go_sem, seval, ↓J1 _ _ U3]
  refine can hS ?_
  simp -implicitDefEqProofs -dsimp only [go_sem, seval, d1, d2, Bool.not_false, ↓U9, q0w, true_and]
  exact K0 rfl
 ·have d2 : decide (xd = c.ln) = false := decide_eq_false h2
  rw [if_neg (fun h => h2 h.2.2)]
  simp -implicitDefEqProofs -dsimp only [go_sem, seval, ↓J1 _ _ q1w]
  refine cpn hTl ?_
  simp -implicitDefEqProofs -dsimp only [go_sem, seval, ↓J1 _ _ U3]
  refine can hS ?_
  simp -implicitDefEqProofs -dsimp only [go_sem, seval, d1, d2, Bool.not_false, ↓U9, q0w, true_and]
  exact K0 rfl
def spR (o : Os) (lim : Int) (l : List Wr) : Nat -> Int × Int
 | 0 => (0, -1)
 | m + 1 => if (q9j l (7 - m : Nat)).2 = true /\ o.spare (7 - m : Nat) = true /\ qg3 lim l (7 - m : Nat) = false then (2, (7 - m : Nat)) else spR o lim l m
theorem qvw {R : Y5} (hR : ExtR R) {T : Tab} {oid idC wid : Nat} {o : Os} {lim : Int} {l : List Wr} (hT : Wt T wid lim l) (hl : WOk lim l) (hS : St T oid idC o) (hol : Len o.cs.length) (hos : ∀ c ∈ o.cs, qaq c)
  (hq : R .ret [(4, .i .i64 (spR o lim l 8).1), (5, .i .i64 (spR o lim l 8).2)] [] T) : ∀ (m k : Nat), k + m = 8 -> spR o lim l m = spR o lim l 8 ->
  (spR o lim l 8 = (0, -1) -> R (.exit 0) [(2, .lp 2 0), (22, .i .i64 8), (23, .b false)] [(2, [.ptr oid 0, .ptr wid 0])] T) ->
  AW prog q13 R [(2, .lp 2 0), (22, .i .i64 k)] [(2, [.ptr oid 0, .ptr wid 0])] T := by
 intro m
 induction m with
 | zero =>
  intro k hk he h2
  obtain rfl : k = 8 := by omega
  refine G9 hR ?_
  unfold q0r
  simp -implicitDefEqProofs -dsimp only [go_sem, seval, show ((8 : Nat) : Int) = 8 from rfl, Int.lt_irrefl]
  exact h2 (by rw [<- he]; rfl)
 | succ m ih =>
  intro k hk he h2
  have hkm : 7 - m = k := by omega
  have hk8 : decide ((k : Int) < 8) = true := decide_eq_true (by omega)
  have hws : IntKind.i64.wrap ((k : Int) + 1) = ((k + 1 : Nat) : Int) := Q0 (by omega)
  have hL := qjn hT hl k
  have hSu := q7i hT hl k
  have hSp := qno hS hol hos k
  have hih := ih (k + 1) (by omega)
  have e1 : spR o lim l (m + 1) = (if (q9j l (k : Int)).2 = true /\ o.spare (k : Int) = true /\ qg3 lim l (k : Int) = false then (2, (k : Int)) else spR o lim l m) := by rw [spR, hkm]
  rw [e1] at he
  clear e1
  simp only [beR] at hL
  generalize hx : q9j l k = x at *
  obtain ⟨⟨xa, xb, xc, xd⟩, xo⟩ := x
  simp only [Be.cells] at hL he
  refine Q7 (l := q13) rfl hR ?_
  unfold q0r
  rcases xo with _ | _
  ·rw [if_neg (fun h => by cases h.1)] at he
   simp -implicitDefEqProofs -dsimp only [go_sem, seval, hk8, ↓J1 _ _ V4]
   refine can hL ?_
   simp -implicitDefEqProofs -dsimp only [go_sem, seval, ↓U9, q0w, true_and, hws]
   exact hih he h2
  rcases hs1 : o.spare (k : Int) with _ | _
  ·rw [hs1] at hSp he
   rw [if_neg (fun h => by cases h.2.1)] at he
   simp -implicitDefEqProofs -dsimp only [go_sem, seval, hk8, ↓J1 _ _ V4]
   refine can hL ?_
   simp -implicitDefEqProofs -dsimp only [go_sem, seval, ↓U9, q0w, true_and, ↓J1 _ _ q25]
   refine can hSp ?_
   simp -implicitDefEqProofs -dsimp only [go_sem, seval, ↓U9, q0w, true_and, hws]
   exact hih he h2
  rw [hs1] at hSp he
  rcases hs2 : qg3 lim l (k : Int) with _ | _
  ·rw [hs2] at hSu he
   rw [if_pos ⟨rfl, rfl, rfl⟩] at he
   rw [<- he] at hq
   simp -implicitDefEqProofs -dsimp only [go_sem, seval, hk8, ↓J1 _ _ V4]
   refine can hL ?_
   simp -implicitDefEqProofs -dsimp only [go_sem, seval, ↓U9, q0w, true_and, ↓J1 _ _ q25]
   refine can hSp ?_
   simp -implicitDefEqProofs -dsimp only [go_sem, seval, ↓U9, q0w, true_and, ↓J1 _ _ U2]
   refine can hSu ?_
   simp -implicitDefEqProofs -dsimp only [go_sem, seval, Bool.not_false]
   exact hq
  ·rw [hs2] at hSu he
   rw [if_neg (fun h => by cases h.2.2)] at he
   simp -implicitDefEqProofs -dsimp only [go_sem, seval, hk8, ↓J1 _ _ V4]
   refine can hL ?_
   simp -implicitDefEqProofs -dsimp only [go_sem, seval, ↓U9, q0w, true_and, ↓J1 _ _ q25]
   refine can hSp ?_
   simp -implicitDefEqProofs -dsimp only [go_sem, seval, ↓U9, q0w, true_and, ↓J1 _ _ U2]
   refine can hSu ?_
   simp -implicitDefEqProofs -dsimp only [go_sem, seval, Bool.not_true, hws]
   exact hih he h2
def qw5 (o : Os) (lim : Int) (l : List Wr) (c : Cf) : Int × Int := if ¬ c.ln = -1 \/ o.l <= c.ch.length then (0, -1) else spR o lim l 8
theorem qsc {T : Tab} {oid idC wid : Nat} {o : Os} {lim : Int} {l : List Wr} (hT : Wt T wid lim l) (hl : WOk lim l) (hS : St T oid idC o) (hol : Len o.cs.length) (hos : ∀ c ∈ o.cs, qaq c) (c : Cf) :
  ACalls prog Z3 [.agg [.ptr oid 0, .ptr wid 0], .agg (c.cells none none)] T (fun r T' => r = pr2 (qw5 o lim l c) /\ T' = T) := by
 have hSe := qnn hS
 refine K6 O2 q83 (by simp) ?_
 unfold q3o qw5
 have key := fun (R : Y5) (hR : ExtR R) hq => qvw (R := R) hR hT hl hS hol hos hq 8 0 (by omega) rfl
 simp only [Cf.cells, stC] at hSe ⊢
 by_cases h1 : c.ln = -1
 case neg =>
  have d1 : decide (c.ln = -1) = false := decide_eq_false h1
  rw [if_pos (.inl h1)]
  simp -implicitDefEqProofs -dsimp only [go_sem, seval, d1, Bool.not_false, ↓U9, q0w, true_and]
  exact K0 rfl
 have d1 : decide (c.ln = -1) = true := decide_eq_true h1
 by_cases h2 : o.l <= c.ch.length
 ·have d2 : decide (o.l <= (c.ch.length : Int)) = true := decide_eq_true h2
  rw [if_pos (.inr h2)]
  simp -implicitDefEqProofs -dsimp only [go_sem, seval, d1, Bool.not_true, ↓U9, q0w, true_and, ↓J1 _ _ q4b]
  refine can hSe ?_
  simp -implicitDefEqProofs -dsimp only [go_sem, seval, d2]
  exact K0 rfl
 ·have d2 : decide (o.l <= (c.ch.length : Int)) = false := decide_eq_false h2
  rw [if_neg (fun h => h.elim (fun h => h h1) h2)]
  simp -implicitDefEqProofs -dsimp only [go_sem, seval, d1, Bool.not_true, ↓U9, q0w, true_and, ↓J1 _ _ q4b]
  refine can hSe ?_
  simp -implicitDefEqProofs -dsimp only [go_sem, seval, d2]
  refine key _ (by repeat' (first | exact O6 _ _ | assumption | apply O5 | apply N2 | apply Z8)) ?_ (fun h => ?_)
  ·simp -implicitDefEqProofs -dsimp only [go_sem, seval]
   exact K0 rfl
  ·rw [h]
   simp -implicitDefEqProofs -dsimp only [go_sem, seval]
   exact K0 rfl
def fnA (f : FuncId) (oid wid : Nat) : AV := .fn (.func f) [.agg [.ptr oid 0, .ptr wid 0]] []
def ql5 (oid wid : Nat) : List AV := [fnA V0 oid wid, fnA Y2 oid wid, fnA Z9 oid wid, fnA Y3 oid wid, fnA Z3 oid wid]
def adC (x : Int × Int) (c : Cf) : List AV := [.i .i64 x.1, .i .i64 c.sh, .i .u64 c.ep, .i .i64 x.2]
theorem qdo {R : Y5} (hR : ExtR R) {T : Tab} {oid wid : Nat} {c : Cf} {N : Nat} {cfs : List AV} {k : Int} {i : Nat} (hi : i < 5) {f : FuncId} (hf : J7 prog f = true) (hg : (ql5 oid wid)[i]? = some (fnA f oid wid)) {x : Int × Int}
  (hc : ACalls prog f [.agg [.ptr oid 0, .ptr wid 0], .agg (c.cells none none)] T (fun r T' => r = pr2 x /\ T' = T))
  (h0 : x.1 = 0 -> AW prog q1o R [(4, .lp 4 0), (7, .fz 5 (ql5 oid wid) (some 5)), (9, .lp 9 0), (36, .fz N cfs none), (37, .i .i64 N), (38, .i .i64 k), (42, .fz 5 (ql5 oid wid) (some 5)), (43, .i .i64 5), (44, .i .i64 (i + 1 : Nat))] [(4, [.i .i64 0, .i .i64 0, .i .u64 0, .i .i64 0]), (9, c.cells none none)] T)
  (h1 : ¬ x.1 = 0 -> R .ret [(4, .lp 4 0), (5, .b true)] [(4, adC x c)] T) :
  AW prog q1o R [(4, .lp 4 0), (7, .fz 5 (ql5 oid wid) (some 5)), (9, .lp 9 0), (36, .fz N cfs none), (37, .i .i64 N), (38, .i .i64 k), (42, .fz 5 (ql5 oid wid) (some 5)), (43, .i .i64 5), (44, .i .i64 i)] [(4, [.i .i64 0, .i .i64 0, .i .u64 0, .i .i64 0]), (9, c.cells none none)] T := by
 have d5 : decide ((i : Int) < 5) = true := decide_eq_true (by omega)
 have hi5 : (i : Int) < 5 := by omega
 have hws : IntKind.i64.wrap ((i : Int) + 1) = ((i + 1 : Nat) : Int) := Q0 (by omega)
 have hg' : ((ql5 oid wid).drop i)[0]? = some (.fn (.func f) [.agg [.ptr oid 0, .ptr wid 0]] []) := by rw [List.getElem?_drop]; exact hg
 generalize ql5 oid wid = F at *
 simp only [Cf.cells, pr2] at hc h0 ⊢
 refine Q7 (l := q1o) rfl hR ?_
 unfold q44
 by_cases hx : x.1 = 0
 ·have dx : decide (x.1 = 0) = true := decide_eq_true hx
  simp -implicitDefEqProofs -dsimp only [go_sem, seval, d5, hi5, Int.natCast_nonneg, Int.toNat_natCast, Nat.mul_one, hg', show ((5 : Nat) : Int) = 5 from rfl, q6y _ _ _ _ _ _ hf, List.cons_append, List.nil_append, List.append_nil]
  refine can hc ?_
  simp -implicitDefEqProofs -dsimp only [go_sem, seval, dx, Bool.not_true, hws]
  exact h0 hx
 ·have dx : decide (x.1 = 0) = false := decide_eq_false hx
  simp -implicitDefEqProofs -dsimp only [go_sem, seval, d5, hi5, Int.natCast_nonneg, Int.toNat_natCast, Nat.mul_one, hg', show ((5 : Nat) : Int) = 5 from rfl, q6y _ _ _ _ _ _ hf, List.cons_append, List.nil_append, List.append_nil]
  refine can hc ?_
  simp -implicitDefEqProofs -dsimp only [go_sem, seval, dx, Bool.not_false]
  exact h1 hx
def qhp (o : Os) (lim : Int) (l : List Wr) (c : Cf) : Int × Int :=
 if ¬ (qvu lim l c).1 = 0 then qvu lim l c else if ¬ (ql3 lim l c c.ch).1 = 0 then ql3 lim l c c.ch else if ¬ (ql4 l c c.ch 0).1 = 0 then ql4 l c c.ch 0 else if ¬ (qvv l c).1 = 0 then qvv l c else qw5 o lim l c
def qby (o : Os) (lim : Int) (l : List Wr) : List Cf -> List AV × Bool
 | [] => ([.i .i64 0, .i .i64 0, .i .u64 0, .i .i64 0], false)
 | c :: cs => if ¬ (qhp o lim l c).1 = 0 then (adC (qhp o lim l c) c, true) else qby o lim l cs
theorem qsd {R : Y5} (hR : ExtR R) {T : Tab} {oid idC wid : Nat} {o : Os} {lim : Int} {l : List Wr} (hT : Wt T wid lim l) (hl : WOk lim l) (hS : St T oid idC o) (hg : Good o)
  (hq : (qby o lim l o.cs).2 = true -> R .ret [(4, .lp 4 0), (5, .b true)] [(4, (qby o lim l o.cs).1)] T) : ∀ (us : List Cf) (k : Nat), o.cs.drop k = us -> k <= o.cs.length -> qby o lim l us = qby o lim l o.cs ->
  (qby o lim l o.cs = ([.i .i64 0, .i .i64 0, .i .u64 0, .i .i64 0], false) -> R (.exit 0) [(4, .lp 4 0), (7, .fz 5 (ql5 oid wid) (some 5)), (36, .fz o.cs.length (q3f o.cs) none), (37, .i .i64 o.cs.length), (38, .i .i64 o.cs.length), (39, .b false)] [(4, [.i .i64 0, .i .i64 0, .i .u64 0, .i .i64 0])] T) ->
  AW prog q4y R [(4, .lp 4 0), (7, .fz 5 (ql5 oid wid) (some 5)), (36, .fz o.cs.length (q3f o.cs) none), (37, .i .i64 o.cs.length), (38, .i .i64 k)] [(4, [.i .i64 0, .i .i64 0, .i .u64 0, .i .i64 0])] T := by
 have hsm := hg.small
 intro us
 induction us with
 | nil =>
  intro k hk hle he h2
  have hk' := q18 hk hle
  refine G9 hR ?_
  unfold q45
  simp -implicitDefEqProofs -dsimp only [go_sem, seval, hk', Int.lt_irrefl]
  rw [hk'] at h2
  exact h2 (by rw [<- he]; rfl)
 | cons u us ih =>
  intro k hk hle he h2
  obtain ⟨hlt, hy, hk'⟩ := q1e hk
  have hol := hg.len
  have hws : IntKind.i64.wrap ((k : Int) + 1) = ((k + 1 : Nat) : Int) := Q0 (by omega)
  have hcell := q7j hy
  have hlen5 : k * 5 + 5 <= (q3f o.cs).length := by rw [I2]; omega
  have hR' := (q08 u).1 (hg.one k u hy).1
  have hch : u.ch.length < 1000000 := by have := hR'.le; omega
  have hih := ih (k + 1) hk' hlt
  refine Q7 (l := q4y) rfl hR ?_
  unfold q45
  have hF : (ql5 oid wid).length = 5 := rfl
  generalize hFF : ql5 oid wid = F at *
  have done : ∀ (K : Y5) (hK : ExtR K), (∀ x : Int × Int, qhp o lim l u = x -> ¬ x.1 = 0 -> K .ret [(4, .lp 4 0), (5, .b true)] [(4, adC x u)] T) ->
    ((qhp o lim l u).1 = 0 -> K (.exit 2) [(4, .lp 4 0), (7, .fz 5 F (some 5)), (9, .lp 9 0), (36, .fz o.cs.length (q3f o.cs) none), (37, .i .i64 o.cs.length), (38, .i .i64 k), (42, .fz 5 F (some 5)), (43, .i .i64 5), (44, .i .i64 (5 : Nat)), (45, .b false)] [(4, [.i .i64 0, .i .i64 0, .i .u64 0, .i .i64 0]), (9, u.cells none none)] T) ->
    AW prog q1o K [(4, .lp 4 0), (7, .fz 5 F (some 5)), (9, .lp 9 0), (36, .fz o.cs.length (q3f o.cs) none), (37, .i .i64 o.cs.length), (38, .i .i64 k), (42, .fz 5 F (some 5)), (43, .i .i64 5), (44, .i .i64 (0 : Nat))] [(4, [.i .i64 0, .i .i64 0, .i .u64 0, .i .i64 0]), (9, u.cells none none)] T := fun K hK hyes hno => by
   subst hFF
   unfold qhp at hyes hno
   refine qdo hK (i := 0) (by decide) q6i rfl (qs6 hT hl u) (fun e1 => ?_) (fun e1 => hyes _ (if_pos e1) e1)
   rw [if_neg (fun h => h e1)] at hyes hno
   refine qdo hK (i := 1) (by decide) q75 rfl (qs8 hT hl u hch) (fun e2 => ?_) (fun e2 => hyes _ (if_pos e2) e2)
   rw [if_neg (fun h => h e2)] at hyes hno
   refine qdo hK (i := 2) (by decide) q8y rfl (qsa hT hl u hch hR'.fu) (fun e3 => ?_) (fun e3 => hyes _ (if_pos e3) e3)
   rw [if_neg (fun h => h e3)] at hyes hno
   refine qdo hK (i := 3) (by decide) q78 rfl (qsb hT hl u hch) (fun e4 => ?_) (fun e4 => hyes _ (if_pos e4) e4)
   rw [if_neg (fun h => h e4)] at hyes hno
   refine qdo hK (i := 4) (by decide) q84 rfl (qsc hT hl hS hsm.2.2.1 hsm.1 u) (fun e5 => ?_) (fun e5 => hyes _ rfl e5)
   have hno' := hno e5
   clear hno hyes e1 e2 e3 e4 e5
   refine G9 hK ?_
   unfold q44
   generalize ql5 oid wid = F at *
   generalize u.cells none none = U at *
   simp -implicitDefEqProofs -dsimp only [go_sem, seval, show decide (((5 : Nat) : Int) < 5) = false from rfl]
   exact hno'
  simp only [qby] at he
  have hul : (u.cells none none).length = 5 := rfl
  have hut : (u.cells none none ++ q3f (o.cs.drop (k + 1))).take 5 = u.cells none none := List.take_left' rfl
  have hul2 : (5 <= (u.cells none none ++ q3f (o.cs.drop (k + 1))).length) = True := eq_true (by rw [List.length_append, hul]; omega)
  generalize u.cells none none = U at *
  simp -implicitDefEqProofs -dsimp only [go_sem, seval, Int.ofNat_lt, hlt, Int.natCast_nonneg, Int.toNat_natCast, hlen5, hcell, hut, hul, hul2]
  refine done _ (by repeat' (first | exact O6 _ _ | assumption | apply O5 | apply N2 | apply Z8)) (fun x hx hne => ?_) (fun h0 => ?_)
  ·rw [hx, if_pos hne] at he
   rw [<- he] at hq
   simp -implicitDefEqProofs -dsimp only [go_sem, seval]
   exact hq rfl
  ·rw [if_neg (fun h => h h0)] at he
   simp -implicitDefEqProofs -dsimp only [go_sem, seval, hws]
   exact hih he h2
theorem qnu {T : Tab} {oid idC wid : Nat} {o : Os} {lim : Int} {l : List Wr} (hT : Wt T wid lim l) (hl : WOk lim l) (hS : St T oid idC o) (hg : Good o) :
  ACalls prog q2l [.ptr oid 0, .ptr wid 0] T (fun r T' => r = .tup [.agg (qby o lim l o.cs).1, .b (qby o lim l o.cs).2] /\ T' = T) := by
 have hsm := hg.small
 have hC := qnq hS (by have := hg.len; omega) hsm.1
 refine K6 O2 qfn (by simp) ?_
 unfold qa2
 have hlen : (qby o lim l o.cs).1.length = 4 := by
  have : ∀ cs, (qby o lim l cs).1.length = 4 := fun cs => by
   induction cs with
   | nil => rfl
   | cons c cs ih => unfold qby; split; rfl; exact ih
  exact this _
 have hyes : ∀ cs, ¬ qby o lim l cs = ([.i .i64 0, .i .i64 0, .i .u64 0, .i .i64 0], false) -> (qby o lim l cs).2 = true := fun cs => by
  induction cs with
  | nil => intro h; exact absurd rfl h
  | cons c cs ih =>
   unfold qby
   split
   ·intro _; rfl
   ·exact ih
 have ht : (qby o lim l o.cs).1.take 4 = (qby o lim l o.cs).1 := List.take_of_length_le (by omega)
 simp -implicitDefEqProofs -dsimp only [go_sem, seval, qhq, ↓U9, q0w, true_and, ↓J1 _ _ q91]
 refine can hC ?_
 have key := fun (R : Y5) (hR : ExtR R) hq => qsd (R := R) hR (oid := oid) (wid := wid) hT hl hS hg hq o.cs 0 rfl (Nat.zero_le _) rfl
 simp only [ql5, fnA] at key
 simp -implicitDefEqProofs -dsimp only [go_sem, seval]
 refine key _ (by repeat' (first | exact O6 _ _ | assumption | apply O5 | apply N2 | apply Z8)) (fun h => ?_) (fun h => ?_)
 ·generalize qby o lim l o.cs = r at *
  obtain ⟨r1, r2⟩ := r
  simp only at h hlen ht
  subst h
  simp -implicitDefEqProofs -dsimp only [go_sem, seval, hlen, ht]
  exact K0 rfl
 ·rw [h]
  simp -implicitDefEqProofs -dsimp only [go_sem, seval]
  exact K0 rfl
end Go.Aw
