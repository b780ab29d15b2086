import Derived.Test.YtchdmofoaokpjaaGreatDoorM30N17T16B
import Derived.Test.YtchdmofoaokpjaaGreatDoorAwD
import Derived.Test.YtchdmofoaokpjaaGreatDoorM30N17E12X
namespace Go.Aw
open Go
open Go.Proofs.Tryz (prog)
set_option linter.all false
def z7i (l : List (Int × Bool)) : List Int := (l.take 10).map (·.1)
def z7j (l : List (Int × Bool)) : List Bool := (l.take 10).map (·.2)
def Rf.ours (c : Rf) : Cf := ⟨c.ep, c.sh, z7i c.l, z7j c.l, c.ln⟩
theorem Wks.cf {a b c : AV} {n m : Nat} {x y : List AV} {k1 k2 : Option Nat} : Wks [a, b, .fz n x k1, .fz m y k2, c] [a, b, .fz n x none, .fz m y none, c] :=
 ⟨.refl _, .refl _, .fz, .fz, .refl _, trivial⟩
end Go.Aw
namespace Go.Aw
open Go
open Go.Proofs.Tryz (prog)
set_option linter.all false
def qh9 (fu : List Bool) : List Int -> Nat -> List (Int × Bool)
 | [], _ => []
 | y :: ys, k => (y, (fu[k]?).getD false) :: qh9 fu ys (k + 1)
def Cf.plain (c : Cf) : Rf := ⟨c.ep, c.sh, qh9 c.fu c.ch 0, c.ln⟩
theorem qfc (fu : List Bool) : ∀ (l : List Int) (k : Nat), (qh9 fu l k).length = l.length
 | [], _ => rfl
 | _ :: l, k => by simp [qh9, qfc fu l (k + 1)]
end Go.Aw
namespace Go.Aw
open Go
variable [Glob]
set_option linter.all false
theorem ACalls.wk {P : Program} {f : FuncId} {xs ys : List AV} {T : Tab} {Q : AV -> Tab -> Prop} (hw : Wks xs ys) (h : ACalls P f ys T Q) : ACalls P f xs T Q :=
 fun X lam w cargs hr hv => h X lam w cargs hr (hw.vrs hv)
theorem PCalls.wk {P : Program} {f : FuncId} {xs ys : List AV} {r : AV} (hw : Wks xs ys) (h : PCalls P f ys r) : PCalls P f xs r := fun T => (h T).wk hw
theorem Wks.flatMap {α : Type} {f g : α -> List AV} : ∀ {l : List α}, (∀ x ∈ l, Wks (f x) (g x)) -> Wks (l.flatMap f) (l.flatMap g)
 | [], _ => trivial
 | x :: l, h => by
  simp only [List.flatMap_cons]
  exact (h x (List.mem_cons_self ..)).append (Wks.flatMap fun y hy => h y (List.mem_cons_of_mem _ hy))
theorem Wks.one {x y : AV} (h : Wk x y) : Wks [x] [y] := ⟨h, trivial⟩
theorem Wks.cons {x y : AV} {l m : List AV} (h : Wk x y) (k : Wks l m) : Wks (x :: l) (y :: m) := ⟨h, k⟩
theorem Wks.nil : Wks [] [] := trivial
def kps (e : Env) (L : Loc) (T : Tab) {K : Env -> Loc -> Tab -> Prop} (_ : Hold K) : Prop := K e L T
theorem qzs {P : Program} {R : q02} {e : Env} {L : Loc} {T : Tab} (ts ls : List Nat) : AW P (.keep ts ls) R e L T = kps (qb9 ts e) (qb9 ls L) T (Hold.mk (a := R .normal)) := rfl
theorem z7k {K : Env -> Loc -> Tab -> Prop} {e : Env} {L : Loc} {T : Tab} (h : Hold K) : kps e L T h = K e L T := rfl
attribute [irreducible] kps
attribute [go_sem ↓ 1100] qzs
attribute [go_sem] z7k
theorem z7l {P : Program} {a b : SC} {R : q02} {e : Env} {L : Loc} {T : Tab} (C : Prop) (E1 : Env) (L1 : Loc) (T1 : Tab) (h1 : ∀ K : Env -> Loc -> Tab -> Prop, (C -> K E1 L1 T1) -> AW P a (q93 K R) e L T) (h2 : C -> AW P b R E1 L1 T1) : AW P (.seq a b) R e L T := by
 have h := h1 (fun e' L' T' => AW P b R e' L' T') h2
 exact h
end Go.Aw
namespace Go.Aw
open Go
open Go.Proofs.Tryz (prog)
set_option linter.all false
set_option maxHeartbeats 4000000
structure Vt where
 sl : Int
 rd : Int
 nd : Int
 v : Bs
 deriving DecidableEq
def vtC (v : Vt) : List AV := [.i .i64 v.sl, .i .u64 v.rd, .i .i64 v.nd, .s v.v]
def cfC (c : Cf) : List AV := c.cells none none
def rfL (c : Rf) : List AV := c.cells none
def enC (e : En) : List AV := e.cells none none
structure Lt (γ : Type) where
 fk : Int
 fn : Int
 tk : Int
 tn : Int
 k : Int
 sh : Int
 ep : Int
 n : Int
 m : Int
 nd : Int
 fl : Bool
 br : Int
 bn : Int
 vs : List Vt
 cs : List γ
 es : List En
 t : Tx
 cl : Int
 sq : Int
 v : Bs
 q : Int
 co : Int
def Lt.cells {γ : Type} (l : Lt γ) (f : γ -> List AV) : List AV :=
 [.i .i64 l.fk, .i .i64 l.fn, .i .i64 l.tk, .i .i64 l.tn, .i .i64 l.k, .i .i64 l.sh, .i .u64 l.ep, .i .i64 l.n, .i .i64 l.m, .i .i64 l.nd, .b l.fl, .i .u64 l.br, .i .i64 l.bn,
  .fz l.vs.length (l.vs.flatMap vtC) none, .fz l.cs.length (l.cs.flatMap f) none, .fz l.es.length (l.es.flatMap enC) none,
  .i .i64 l.t.cl, .i .u64 l.t.sq, .b l.t.pl, .fz l.t.rs.length (l.t.rs.flatMap rdC) none, .fz l.t.ws.length (l.t.ws.flatMap wtC) none,
  .i .i64 l.cl, .i .u64 l.sq, .s l.v, .i .u64 l.q, .i .i64 l.co]
abbrev Lt.cc (l : Lt Cf) : List AV := l.cells cfC
abbrev Lt.rc (l : Lt Rf) : List AV := l.cells rfL
def Lt.ours (l : Lt Rf) : Lt Cf := { l with vs := l.vs.take 20, cs := (l.cs.take 6).map Rf.ours, es := (l.es.take 10).map En.our, t := l.t.our }
def Lt.plain (l : Lt Cf) : Lt Rf := { l with cs := l.cs.map Cf.plain }
structure Lt.Wide (l : Lt Rf) : Prop where
 vs : Len l.vs.length
 cs : Len l.cs.length
 es : Len l.es.length
 vv : ∀ v ∈ l.vs, Len v.v.length
 cl : ∀ c ∈ l.cs, Len c.l.length
 et : ∀ e ∈ l.es, e.t.Wide
 t : l.t.Wide
 v : Len l.v.length
structure Lt.Fine (l : Lt Cf) : Prop where
 vs : l.vs.length <= 500
 cs : l.cs.length <= 10
 es : l.es.length <= 10
 vv : ∀ v ∈ l.vs, Len v.v.length
 cl : ∀ c ∈ l.cs, c.ch.length <= 1000 /\ c.fu.length = c.ch.length
 et : ∀ e ∈ l.es, e.t.Fine
 t : l.t.Fine
 v : Len l.v.length
end Go.Aw
namespace Go.Aw
open Go
open Go.Proofs.Tryz (prog)
set_option linter.all false
set_option maxHeartbeats 4000000
def qb2 (k : Int) : Bs :=
 if k = 3 then [] else if k = 8 then [98] else if k = 10 then [110] else if k = 20 then [120] else if k = 2 then [110, 99] else if k = 9 then [110, 116] else if k = 5 then [110, 98, 118] else
 if k = 6 then [110, 98, 116] else if k = 4 \/ k = 7 \/ k = 11 then [110, 98] else if k = 1 \/ k = 13 then [115, 101, 110, 102] else if k = 14 then [115, 101, 110] else if k = 15 then [115, 101, 110, 111, 105, 116] else
 if k = 12 then [115, 101, 110, 109, 113, 108] else if k = 16 then [115, 110, 105, 116] else if k = 17 then [115, 120] else if k = 18 then [115, 105, 114] else if k = 19 then [105, 116] else if k = 21 then [110, 105, 116, 113, 114] else []
def qnd (k : Int) : Bool := decide (1 <= k /\ k <= 21)
theorem kinds (k : Int) : (k = 1 \/ k = 2 \/ k = 3 \/ k = 4 \/ k = 5 \/ k = 6 \/ k = 7 \/ k = 8 \/ k = 9 \/ k = 10 \/ k = 11 \/ k = 12 \/ k = 13 \/ k = 14 \/ k = 15 \/ k = 16 \/ k = 17 \/ k = 18 \/ k = 19 \/ k = 20 \/ k = 21) \/ qnd k = false := by
 simp only [qnd, decide_eq_false_iff_not]; omega
theorem q6m {k : Int} (h : qnd k = false) (j : Int) (hj : 1 <= j /\ j <= 21 := by decide) : decide (k = j) = false := by
 simp only [qnd, decide_eq_false_iff_not] at h ⊢; omega
theorem qt6 (k : Int) (h : k = 12 \/ k = 16 \/ k = 17 \/ k = 18 \/ k = 19 \/ k = 21 \/ qnd k = false) : PCalls prog q6n [.i .i64 k] (.tup [.s (qb2 k), .b (qnd k)]) := by
 refine K6 U1 qkz (by simp) fun T => ?_
 unfold qd3
 rcases h with rfl | rfl | rfl | rfl | rfl | rfl | h
 any_goals (simp -implicitDefEqProofs -dsimp only [go_sem, seval, decide_true, decide_false, reduceCtorEq]; refine J9 ?_; simp [qb2, qnd]; done)
 have hn : qb2 k = [] := by
  simp only [qnd, decide_eq_false_iff_not] at h
  unfold qb2
  repeat' rw [if_neg (by omega)]
 simp -implicitDefEqProofs -dsimp only [go_sem, seval, q6m h 12, q6m h 16, q6m h 17, q6m h 18, q6m h 19, q6m h 21]
 refine J9 ?_
 rw [hn, h]
theorem qfd (k : Int) : PCalls prog q2x [.i .i64 k] (.tup [.s (qb2 k), .b (qnd k)]) := by
 refine K6 U1 qj5 (by simp) fun T => ?_
 unfold qbf
 rcases kinds k with (rfl | rfl | rfl | rfl | rfl | rfl | rfl | rfl | rfl | rfl | rfl | rfl | rfl | rfl | rfl | rfl | rfl | rfl | rfl | rfl | rfl) | h
 any_goals (simp -implicitDefEqProofs -dsimp only [go_sem, seval, decide_true, decide_false, reduceCtorEq]; refine J9 ?_; simp [qb2, qnd]; done)
 any_goals (simp -implicitDefEqProofs -dsimp only [go_sem, seval, decide_true, decide_false, reduceCtorEq, ↓J0 _ _ qd4]; refine CallK.pure (qt6 _ (by simp)) (J1 ?_); simp -implicitDefEqProofs -dsimp only [go_sem, seval]; exact J9 rfl)
 simp -implicitDefEqProofs -dsimp only [go_sem, seval, q6m h 1, q6m h 2, q6m h 3, q6m h 4, q6m h 5, q6m h 6, q6m h 7, q6m h 8, q6m h 9, q6m h 10, q6m h 11, q6m h 12, q6m h 13, q6m h 14, q6m h 15, q6m h 16, q6m h 17, q6m h 18, q6m h 19, q6m h 20, q6m h 21, ↓J0 _ _ qd4]
 refine cpn (qt6 _ (by simp [h])) ?_
 simp -implicitDefEqProofs -dsimp only [go_sem, seval]
 exact J9 rfl
def qzt (k : Int) : Int := if k = 1 then 5 else if k = 2 then 8 else if k = 3 then 6 else 0
def qyq (k n : Int) : Bool := decide (0 <= n) && decide (n < qzt k)
theorem q2f (k n : Int) : PCalls prog q2b [.agg [.i .i64 k, .i .i64 n]] (.b (qyq k n)) := by
 refine K6 U1 qew (by simp) fun T => ?_
 unfold q8g
 simp -implicitDefEqProofs -dsimp only [go_sem, seval]
 (first | (apply K0 <;> intro h_1 <;> simp -implicitDefEqProofs -dsimp only [go_sem, seval, h_1]) | (have h_1 := trivial)) <;>
  (first | (apply K0 <;> intro h_2 <;> simp -implicitDefEqProofs -dsimp only [go_sem, seval, h_1, h_2]) | (have h_2 := trivial)) <;>
  (first | (apply K0 <;> intro h_3 <;> simp -implicitDefEqProofs -dsimp only [go_sem, seval, h_1, h_2, h_3]) | (have h_3 := trivial)) <;>
  (first | (apply K0 <;> intro h_4 <;> simp -implicitDefEqProofs -dsimp only [go_sem, seval, h_1, h_2, h_3, h_4]) | (have h_4 := trivial)) <;>
  (first | (apply K0 <;> intro h_5 <;> simp -implicitDefEqProofs -dsimp only [go_sem, seval, h_1, h_2, h_3, h_4, h_5]) | (have h_5 := trivial))
 all_goals (refine J9 ?_; simp_all [qyq, qzt] <;> omega)
def qkr (n : Int) : Bool := decide (0 <= n) && decide (n <= 1048576)
theorem q5b (n : Int) : PCalls prog q4t [.i .i64 n] (.b (qkr n)) := by
 refine K6 U1 ql1 (by simp) fun T => ?_
 unfold qd5
 simp -implicitDefEqProofs -dsimp only [go_sem, seval]
 (first | (apply K0 <;> intro h_1 <;> simp -implicitDefEqProofs -dsimp only [go_sem, seval, h_1]) | (have h_1 := trivial)) <;>
  (first | (apply K0 <;> intro h_2 <;> simp -implicitDefEqProofs -dsimp only [go_sem, seval, h_1, h_2]) | (have h_2 := trivial)) <;>
  (first | (apply K0 <;> intro h_3 <;> simp -implicitDefEqProofs -dsimp only [go_sem, seval, h_1, h_2, h_3]) | (have h_3 := trivial))
 all_goals (refine J9 ?_; simp_all [qkr] <;> omega)
def qi9 (n : Int) : Bool := decide (0 <= n) && decide (n < 5)
theorem V0 (r n : Int) : PCalls prog q1k [.agg [.i .u64 r, .i .i64 n]] (.b (qi9 n)) := by
 refine K6 U1 qcw (by simp) fun T => ?_
 unfold q7a
 simp -implicitDefEqProofs -dsimp only [go_sem, seval]
 (first | (apply K0 <;> intro h_1 <;> simp -implicitDefEqProofs -dsimp only [go_sem, seval, h_1]) | (have h_1 := trivial)) <;>
  (first | (apply K0 <;> intro h_2 <;> simp -implicitDefEqProofs -dsimp only [go_sem, seval, h_1, h_2]) | (have h_2 := trivial)) <;>
  (first | (apply K0 <;> intro h_3 <;> simp -implicitDefEqProofs -dsimp only [go_sem, seval, h_1, h_2, h_3]) | (have h_3 := trivial))
 all_goals (refine J9 ?_; simp_all [qi9] <;> omega)
def z8n (v : Vt) : Bool := qkr v.sl && (qi9 v.nd && decide ((v.v.length : Int) <= 64))
theorem qpe (v : Vt) : PCalls prog q41 [.agg (vtC v)] (.b (z8n v)) := by
 refine K6 U1 qf7 (by simp) fun T => ?_
 unfold q8j
 simp -implicitDefEqProofs -dsimp only [go_sem, seval, vtC]
 (first | (apply K0 <;> intro h_1 <;> simp -implicitDefEqProofs -dsimp only [go_sem, seval, ↓J0 _ _ K8, h_1]) | (refine CallK.pure (V0 _ _) (J1 ?_); simp -implicitDefEqProofs -dsimp only [go_sem, seval, ↓J0 _ _ K8]; have h_1 := trivial) | (have h_1 := trivial)) <;>
  (first | (apply K0 <;> intro h_2 <;> simp -implicitDefEqProofs -dsimp only [go_sem, seval, ↓J0 _ _ K8, h_1, h_2]) | (refine CallK.pure (V0 _ _) (J1 ?_); simp -implicitDefEqProofs -dsimp only [go_sem, seval, ↓J0 _ _ K8, h_1]; have h_2 := trivial) | (have h_2 := trivial)) <;>
  (first | (apply K0 <;> intro h_3 <;> simp -implicitDefEqProofs -dsimp only [go_sem, seval, ↓J0 _ _ K8, h_1, h_2, h_3]) | (refine CallK.pure (V0 _ _) (J1 ?_); simp -implicitDefEqProofs -dsimp only [go_sem, seval, ↓J0 _ _ K8, h_1, h_2]; have h_3 := trivial) | (have h_3 := trivial)) <;>
  (first | (apply K0 <;> intro h_4 <;> simp -implicitDefEqProofs -dsimp only [go_sem, seval, ↓J0 _ _ K8, h_1, h_2, h_3, h_4]) | (refine CallK.pure (V0 _ _) (J1 ?_); simp -implicitDefEqProofs -dsimp only [go_sem, seval, ↓J0 _ _ K8, h_1, h_2, h_3]; have h_4 := trivial) | (have h_4 := trivial)) <;>
  (first | (apply K0 <;> intro h_5 <;> simp -implicitDefEqProofs -dsimp only [go_sem, seval, ↓J0 _ _ K8, h_1, h_2, h_3, h_4, h_5]) | (refine CallK.pure (V0 _ _) (J1 ?_); simp -implicitDefEqProofs -dsimp only [go_sem, seval, ↓J0 _ _ K8, h_1, h_2, h_3, h_4]; have h_5 := trivial) | (have h_5 := trivial)) <;>
  (first | (apply K0 <;> intro h_6 <;> simp -implicitDefEqProofs -dsimp only [go_sem, seval, ↓J0 _ _ K8, h_1, h_2, h_3, h_4, h_5, h_6]) | (refine CallK.pure (V0 _ _) (J1 ?_); simp -implicitDefEqProofs -dsimp only [go_sem, seval, ↓J0 _ _ K8, h_1, h_2, h_3, h_4, h_5]; have h_6 := trivial) | (have h_6 := trivial))
 all_goals (refine J9 ?_; simp_all [z8n, qkr, qi9] <;> omega)
end Go.Aw
