import Derived.Test.YtmicojcojlgefaaGreatAwD
import Derived.Test.YtmicojcojlgefaaGreatZ29RK
import Derived.Test.YtmicojcojlgefaaGreatZ29T16D
import Derived.Test.YtmicojcojlgefaaGreatZ29S12S
namespace Go.Aw
open Go
variable [Glob]
set_option linter.all false
theorem ACalls.wk {P : Program} {f : FuncId} {xs ys : List AV} {T : Tab} {Q : AV -> Tab -> Prop} (hw : Wks xs ys) (h : ACalls P f ys T Q) : ACalls P f xs T Q :=
 fun X lam w cargs hr hv => h X lam w cargs hr (hw.vrs hv)
theorem PCalls.wk {P : Program} {f : FuncId} {xs ys : List AV} {r : AV} (hw : Wks xs ys) (h : PCalls P f ys r) : PCalls P f xs r := fun T => (h T).wk hw
theorem Wks.flatMap {α : Type} {f g : α -> List AV} : ∀ {l : List α}, (∀ x ∈ l, Wks (f x) (g x)) -> Wks (l.flatMap f) (l.flatMap g)
 | [], _ => trivial
 | x :: l, h => by
  simp only [List.flatMap_cons]
  exact (h x (List.mem_cons_self ..)).append (Wks.flatMap fun y hy => h y (List.mem_cons_of_mem _ hy))
theorem Wks.one {x y : AV} (h : Wk x y) : Wks [x] [y] := ⟨h, trivial⟩
theorem Wks.cons {x y : AV} {l m : List AV} (h : Wk x y) (k : Wks l m) : Wks (x :: l) (y :: m) := ⟨h, k⟩
theorem Wks.nil : Wks [] [] := trivial
def kps (e : Env) (L : Loc) (T : Tab) {K : Env -> Loc -> Tab -> Prop} (_ : Hold K) : Prop := K e L T
theorem z3k {P : Program} {R : Y5} {e : Env} {L : Loc} {T : Tab} (ts ls : List Nat) : AW P (.keep ts ls) R e L T = kps (qh4 ts e) (qh4 ls L) T (Hold.mk (a := R .normal)) := rfl
theorem za7 {K : Env -> Loc -> Tab -> Prop} {e : Env} {L : Loc} {T : Tab} (h : Hold K) : kps e L T h = K e L T := rfl
attribute [irreducible] kps
attribute [go_sem ↓ 1100] z3k
attribute [go_sem] za7
theorem q88 {P : Program} {a b : SC} {R : Y5} {e : Env} {L : Loc} {T : Tab} (C : Prop) (E1 : Env) (L1 : Loc) (T1 : Tab) (h1 : ∀ K : Env -> Loc -> Tab -> Prop, (C -> K E1 L1 T1) -> AW P a (qem K R) e L T) (h2 : C -> AW P b R E1 L1 T1) : AW P (.seq a b) R e L T := by
 have h := h1 (fun e' L' T' => AW P b R e' L' T') h2
 exact h
end Go.Aw
namespace Go.Aw
open Go
open Go.Proofs.Tryz (prog)
set_option linter.all false
set_option maxHeartbeats 4000000
structure Vt where
 sl : Int
 rd : Int
 nd : Int
 v : Bs
 deriving DecidableEq
def vtC (v : Vt) : List AV := [.i .i64 v.sl, .i .u64 v.rd, .i .i64 v.nd, .s v.v]
def cfC (c : Cf) : List AV := c.cells none none
def rfL (c : Rf) : List AV := c.cells none
def enC (e : En) : List AV := e.cells none none
structure Lt (γ : Type) where
 fk : Int
 fn : Int
 tk : Int
 tn : Int
 k : Int
 sh : Int
 ep : Int
 n : Int
 m : Int
 nd : Int
 fl : Bool
 br : Int
 bn : Int
 vs : List Vt
 cs : List γ
 es : List En
 t : Tx
 cl : Int
 sq : Int
 v : Bs
 q : Int
 co : Int
def Lt.cells {γ : Type} (l : Lt γ) (f : γ -> List AV) : List AV :=
 [.i .i64 l.fk, .i .i64 l.fn, .i .i64 l.tk, .i .i64 l.tn, .i .i64 l.k, .i .i64 l.sh, .i .u64 l.ep, .i .i64 l.n, .i .i64 l.m, .i .i64 l.nd, .b l.fl, .i .u64 l.br, .i .i64 l.bn,
  .fz l.vs.length (l.vs.flatMap vtC) none, .fz l.cs.length (l.cs.flatMap f) none, .fz l.es.length (l.es.flatMap enC) none,
  .i .i64 l.t.cl, .i .u64 l.t.sq, .b l.t.pl, .fz l.t.rs.length (l.t.rs.flatMap rdC) none, .fz l.t.ws.length (l.t.ws.flatMap wtC) none,
  .i .i64 l.cl, .i .u64 l.sq, .s l.v, .i .u64 l.q, .i .i64 l.co]
abbrev Lt.cc (l : Lt Cf) : List AV := l.cells cfC
abbrev Lt.rc (l : Lt Rf) : List AV := l.cells rfL
def Lt.ours (l : Lt Rf) : Lt Cf := { l with vs := l.vs.take 20, cs := (l.cs.take 6).map Rf.ours, es := (l.es.take 10).map En.our, t := l.t.our }
def Lt.plain (l : Lt Cf) : Lt Rf := { l with cs := l.cs.map Cf.plain }
structure Lt.Wide (l : Lt Rf) : Prop where
 vs : Len l.vs.length
 cs : Len l.cs.length
 es : Len l.es.length
 vv : ∀ v ∈ l.vs, Len v.v.length
 cl : ∀ c ∈ l.cs, Len c.l.length
 et : ∀ e ∈ l.es, e.t.Wide
 t : l.t.Wide
 v : Len l.v.length
structure Lt.Fine (l : Lt Cf) : Prop where
 vs : l.vs.length <= 500
 cs : l.cs.length <= 10
 es : l.es.length <= 10
 vv : ∀ v ∈ l.vs, Len v.v.length
 cl : ∀ c ∈ l.cs, c.ch.length <= 1000 /\ c.fu.length = c.ch.length
 et : ∀ e ∈ l.es, e.t.Fine
 t : l.t.Fine
 v : Len l.v.length
end Go.Aw
namespace Go.Aw
open Go
open Go.Proofs.Tryz (prog)
set_option linter.all false
set_option maxHeartbeats 4000000
def qa8 (k : Int) : Bs :=
 if k = 3 then [] else if k = 8 then [98] else if k = 10 then [110] else if k = 20 then [120] else if k = 2 then [110, 99] else if k = 9 then [110, 116] else if k = 5 then [110, 98, 118] else
 if k = 6 then [110, 98, 116] else if k = 4 \/ k = 7 \/ k = 11 then [110, 98] else if k = 1 \/ k = 13 then [115, 101, 110, 102] else if k = 14 then [115, 101, 110] else if k = 15 then [115, 101, 110, 111, 105, 116] else
 if k = 12 then [115, 101, 110, 109, 113, 108] else if k = 16 then [115, 110, 105, 116] else if k = 17 then [115, 120] else if k = 18 then [115, 105, 114] else if k = 19 then [105, 116] else if k = 21 then [110, 105, 116, 113, 114] else []
def qf1 (k : Int) : Bool := decide (1 <= k /\ k <= 21)
theorem qdz (k : Int) : (k = 1 \/ k = 2 \/ k = 3 \/ k = 4 \/ k = 5 \/ k = 6 \/ k = 7 \/ k = 8 \/ k = 9 \/ k = 10 \/ k = 11 \/ k = 12 \/ k = 13 \/ k = 14 \/ k = 15 \/ k = 16 \/ k = 17 \/ k = 18 \/ k = 19 \/ k = 20 \/ k = 21) \/ qf1 k = false := by
 simp only [qf1, decide_eq_false_iff_not]; omega
theorem Z8 {k : Int} (h : qf1 k = false) (j : Int) (hj : 1 <= j /\ j <= 21 := by decide) : decide (k = j) = false := by
 simp only [qf1, decide_eq_false_iff_not] at h ⊢; omega
theorem qx3 (k : Int) (h : k = 12 \/ k = 16 \/ k = 17 \/ k = 18 \/ k = 19 \/ k = 21 \/ qf1 k = false) : PCalls prog qan [.i .i64 k] (.tup [.s (qa8 k), .b (qf1 k)]) := by
 refine K5 Q7 qr5 (by simp) fun T => ?_
 unfold qka
 rcases h with rfl | rfl | rfl | rfl | rfl | rfl | h
 any_goals (simp -implicitDefEqProofs -dsimp only [go_sem, seval, decide_true, decide_false, reduceCtorEq]; refine K1 ?_; simp [qa8, qf1]; done)
 have hn : qa8 k = [] := by
  simp only [qf1, decide_eq_false_iff_not] at h
  unfold qa8
  repeat' rw [if_neg (by omega)]
 simp -implicitDefEqProofs -dsimp only [go_sem, seval, Z8 h 12, Z8 h 16, Z8 h 17, Z8 h 18, Z8 h 19, Z8 h 21]
 refine K1 ?_
 rw [hn, h]
theorem z14 (k : Int) : PCalls prog q9y [.i .i64 k] (.tup [.s (qa8 k), .b (qf1 k)]) := by
 refine K5 Q7 qq3 (by simp) fun T => ?_
 unfold qho
 rcases qdz k with (rfl | rfl | rfl | rfl | rfl | rfl | rfl | rfl | rfl | rfl | rfl | rfl | rfl | rfl | rfl | rfl | rfl | rfl | rfl | rfl | rfl) | h
 any_goals (simp -implicitDefEqProofs -dsimp only [go_sem, seval, decide_true, decide_false, reduceCtorEq]; refine K1 ?_; simp [qa8, qf1]; done)
 any_goals (simp -implicitDefEqProofs -dsimp only [go_sem, seval, decide_true, decide_false, reduceCtorEq, ↓J0 _ _ qkb]; refine CallK.pure (qx3 _ (by simp)) (J1 ?_); simp -implicitDefEqProofs -dsimp only [go_sem, seval]; exact K1 rfl)
 simp -implicitDefEqProofs -dsimp only [go_sem, seval, Z8 h 1, Z8 h 2, Z8 h 3, Z8 h 4, Z8 h 5, Z8 h 6, Z8 h 7, Z8 h 8, Z8 h 9, Z8 h 10, Z8 h 11, Z8 h 12, Z8 h 13, Z8 h 14, Z8 h 15, Z8 h 16, Z8 h 17, Z8 h 18, Z8 h 19, Z8 h 20, Z8 h 21, ↓J0 _ _ qkb]
 refine cpn (qx3 _ (by simp [h])) ?_
 simp -implicitDefEqProofs -dsimp only [go_sem, seval]
 exact K1 rfl
def z3l (k : Int) : Int := if k = 1 then 5 else if k = 2 then 8 else if k = 3 then 6 else 0
def qqi (k n : Int) : Bool := decide (0 <= n) && decide (n < z3l k)
theorem q3o (k n : Int) : PCalls prog q3i [.agg [.i .i64 k, .i .i64 n]] (.b (qqi k n)) := by
 refine K5 Q7 qmh (by simp) fun T => ?_
 unfold qeb
 simp -implicitDefEqProofs -dsimp only [go_sem, seval]
 (first | (apply J2 <;> intro h_1 <;> simp -implicitDefEqProofs -dsimp only [go_sem, seval, h_1]) | (have h_1 := trivial)) <;>
  (first | (apply J2 <;> intro h_2 <;> simp -implicitDefEqProofs -dsimp only [go_sem, seval, h_1, h_2]) | (have h_2 := trivial)) <;>
  (first | (apply J2 <;> intro h_3 <;> simp -implicitDefEqProofs -dsimp only [go_sem, seval, h_1, h_2, h_3]) | (have h_3 := trivial)) <;>
  (first | (apply J2 <;> intro h_4 <;> simp -implicitDefEqProofs -dsimp only [go_sem, seval, h_1, h_2, h_3, h_4]) | (have h_4 := trivial)) <;>
  (first | (apply J2 <;> intro h_5 <;> simp -implicitDefEqProofs -dsimp only [go_sem, seval, h_1, h_2, h_3, h_4, h_5]) | (have h_5 := trivial))
 all_goals (refine K1 ?_; simp_all [qqi, z3l] <;> omega)
def qe0 (n : Int) : Bool := decide (0 <= n) && decide (n <= 1048576)
theorem q9c (n : Int) : PCalls prog q8t [.i .i64 n] (.b (qe0 n)) := by
 refine K5 Q7 qr7 (by simp) fun T => ?_
 unfold qkc
 simp -implicitDefEqProofs -dsimp only [go_sem, seval]
 (first | (apply J2 <;> intro h_1 <;> simp -implicitDefEqProofs -dsimp only [go_sem, seval, h_1]) | (have h_1 := trivial)) <;>
  (first | (apply J2 <;> intro h_2 <;> simp -implicitDefEqProofs -dsimp only [go_sem, seval, h_1, h_2]) | (have h_2 := trivial)) <;>
  (first | (apply J2 <;> intro h_3 <;> simp -implicitDefEqProofs -dsimp only [go_sem, seval, h_1, h_2, h_3]) | (have h_3 := trivial))
 all_goals (refine K1 ?_; simp_all [qe0] <;> omega)
def qv1 (n : Int) : Bool := decide (0 <= n) && decide (n < 5)
theorem V6 (r n : Int) : PCalls prog q2p [.agg [.i .u64 r, .i .i64 n]] (.b (qv1 n)) := by
 refine K5 Q7 qjt (by simp) fun T => ?_
 unfold qbz
 simp -implicitDefEqProofs -dsimp only [go_sem, seval]
 (first | (apply J2 <;> intro h_1 <;> simp -implicitDefEqProofs -dsimp only [go_sem, seval, h_1]) | (have h_1 := trivial)) <;>
  (first | (apply J2 <;> intro h_2 <;> simp -implicitDefEqProofs -dsimp only [go_sem, seval, h_1, h_2]) | (have h_2 := trivial)) <;>
  (first | (apply J2 <;> intro h_3 <;> simp -implicitDefEqProofs -dsimp only [go_sem, seval, h_1, h_2, h_3]) | (have h_3 := trivial))
 all_goals (refine K1 ?_; simp_all [qv1] <;> omega)
def qyt (v : Vt) : Bool := qe0 v.sl && (qv1 v.nd && decide ((v.v.length : Int) <= 64))
theorem qup (v : Vt) : PCalls prog q6p [.agg (vtC v)] (.b (qyt v)) := by
 refine K5 Q7 qmx (by simp) fun T => ?_
 unfold qeh
 simp -implicitDefEqProofs -dsimp only [go_sem, seval, vtC]
 (first | (apply J2 <;> intro h_1 <;> simp -implicitDefEqProofs -dsimp only [go_sem, seval, ↓J0 _ _ N0, h_1]) | (refine CallK.pure (V6 _ _) (J1 ?_); simp -implicitDefEqProofs -dsimp only [go_sem, seval, ↓J0 _ _ N0]; have h_1 := trivial) | (have h_1 := trivial)) <;>
  (first | (apply J2 <;> intro h_2 <;> simp -implicitDefEqProofs -dsimp only [go_sem, seval, ↓J0 _ _ N0, h_1, h_2]) | (refine CallK.pure (V6 _ _) (J1 ?_); simp -implicitDefEqProofs -dsimp only [go_sem, seval, ↓J0 _ _ N0, h_1]; have h_2 := trivial) | (have h_2 := trivial)) <;>
  (first | (apply J2 <;> intro h_3 <;> simp -implicitDefEqProofs -dsimp only [go_sem, seval, ↓J0 _ _ N0, h_1, h_2, h_3]) | (refine CallK.pure (V6 _ _) (J1 ?_); simp -implicitDefEqProofs -dsimp only [go_sem, seval, ↓J0 _ _ N0, h_1, h_2]; have h_3 := trivial) | (have h_3 := trivial)) <;>
  (first | (apply J2 <;> intro h_4 <;> simp -implicitDefEqProofs -dsimp only [go_sem, seval, ↓J0 _ _ N0, h_1, h_2, h_3, h_4]) | (refine CallK.pure (V6 _ _) (J1 ?_); simp -implicitDefEqProofs -dsimp only [go_sem, seval, ↓J0 _ _ N0, h_1, h_2, h_3]; have h_4 := trivial) | (have h_4 := trivial)) <;>
  (first | (apply J2 <;> intro h_5 <;> simp -implicitDefEqProofs -dsimp only [go_sem, seval, ↓J0 _ _ N0, h_1, h_2, h_3, h_4, h_5]) | (refine CallK.pure (V6 _ _) (J1 ?_); simp -implicitDefEqProofs -dsimp only [go_sem, seval, ↓J0 _ _ N0, h_1, h_2, h_3, h_4]; have h_5 := trivial) | (have h_5 := trivial)) <;>
  (first | (apply J2 <;> intro h_6 <;> simp -implicitDefEqProofs -dsimp only [go_sem, seval, ↓J0 _ _ N0, h_1, h_2, h_3, h_4, h_5, h_6]) | (refine CallK.pure (V6 _ _) (J1 ?_); simp -implicitDefEqProofs -dsimp only [go_sem, seval, ↓J0 _ _ N0, h_1, h_2, h_3, h_4, h_5]; have h_6 := trivial) | (have h_6 := trivial))
 all_goals (refine K1 ?_; simp_all [qyt, qe0, qv1] <;> omega)
end Go.Aw
