import Derived.Test.YtchdmofoaokpjaaGreatDoorM30N17T16B
import Derived.Test.YtchdmofoaokpjaaGreatDoorAwD
import Derived.Test.YtchdmofoaokpjaaGreatDoorM30N17E12X
namespace Go.Aw
open Go
open Go.Proofs.Tryz (prog)
set_option linter.all false
def qqp (l : List (Int × Bool)) : List Int := (l.take 10).map (·.1)
def qqq (l : List (Int × Bool)) : List Bool := (l.take 10).map (·.2)
def Rf.ours (c : Rf) : Cf := ⟨c.ep, c.sh, qqp c.l, qqq c.l, c.ln⟩
theorem z5b {R : G9} (hR : ExtR R) {T : Tab} {c : Rf} {k1 : Option Nat} (hl : Len c.l.length) : ∀ (ys : List (Int × Bool)) (k : Nat), c.l.drop k = ys -> k <= c.l.length -> ∀ (v1 v2 : AV) (T1 : Tab),
  Owns T [⟨1, v1, ((c.l.take k).take 10).length, qdp (qqp (c.l.take k))⟩, ⟨1, v2, ((c.l.take k).take 10).length, qa7 (qqq (c.l.take k))⟩] T1 ->
  (∀ v1 v2 T1, Owns T [⟨1, v1, (c.l.take 10).length, qdp (qqp c.l)⟩, ⟨1, v2, (c.l.take 10).length, qa7 (qqq c.l)⟩] T1 ->
   R (.exit 0) [(2, .lp 2 0), (3, .lp 3 0), (14, .fz c.l.length (mem c.l) k1), (15, .i .i64 c.l.length), (16, .i .i64 c.l.length), (17, .b false)]
    [(2, [.i .u64 0, .i .i64 0, .fz 0 [] (some 0), .fz 0 [] (some 0), .i .i64 0]), (3, [.i .u64 c.ep, .i .i64 c.sh, v1, v2, .i .i64 c.ln])] T1) ->
  AW prog q5c R [(2, .lp 2 0), (3, .lp 3 0), (14, .fz c.l.length (mem c.l) k1), (15, .i .i64 c.l.length), (16, .i .i64 k)]
    [(2, [.i .u64 0, .i .i64 0, .fz 0 [] (some 0), .fz 0 [] (some 0), .i .i64 0]), (3, [.i .u64 c.ep, .i .i64 c.sh, v1, v2, .i .i64 c.ln])] T1 := by
 intro ys
 induction ys with
 | nil =>
  intro k hk hle v1 v2 T1 how h2
  have hk' := V6 hk hle
  refine V1 hR ?_
  unfold q4r
  have ht : c.l.take k = c.l := List.take_of_length_le (by omega)
  rw [ht] at how
  simp -implicitDefEqProofs -dsimp only [go_sem, seval, hk', Int.lt_irrefl]
  have := h2 v1 v2 T1 how
  rw [hk'] at this
  exact this
 | cons y ys ih =>
  intro k hk hle v1 v2 T1 how h2
  obtain ⟨hlt, hy, hk'⟩ := Y6 hk
  have hl' := hl
  unfold Len at hl
  obtain ⟨p1, p2, p3, p4, p5, p6⟩ := how.form (List.mem_cons_self ..)
  obtain ⟨q1, q2, q3, q4, q5, q6⟩ := how.form (List.mem_cons_of_mem _ (List.mem_cons_self ..))
  simp only at p1 p2 p3 p4 p5 p6 q1 q2 q3 q4 q5 q6
  refine Q1 (l := q5c) rfl hR ?_
  unfold q4r
  simp -implicitDefEqProofs -dsimp only [go_sem, seval, Int.ofNat_lt, hlt, Int.natCast_nonneg, Int.toNat_natCast, za0 hy, p1, p2, p3, p4, p5, p6, q1, q2, q3, q4, q5, q6]
  refine K0 (fun h => ?_) (fun h => ?_) <;> simp -implicitDefEqProofs -dsimp only [go_sem, seval, h, p1, p2, p3, p4, p5, p6, q1, q2, q3, q4, q5, q6]
  ·have hk10 : k < 10 := by have := of_decide_eq_true h; omega
   have hlen : ((c.l.take k).take 10).length = k := by simp; omega
   have hlen' : ((c.l.take (k + 1)).take 10).length = k + 1 := by simp; omega
   have ht : (c.l.take k).take 10 = c.l.take k := List.take_of_length_le (by simp; omega)
   have ht' : (c.l.take (k + 1)).take 10 = c.l.take k ++ [y] := by rw [List.take_of_length_le (by simp; omega)]; exact q1v hy
   refine how.app (m := 1) (news := qdp [y.1]) (by simp [Z4, qdp]) rfl (by simp only [hlen]; omega) (by simp only [hlen]; omega) fun v1' T2 how => J1 ?_
   obtain ⟨p1, p2, p3, p4, p5, p6⟩ := how.form (List.mem_cons_self ..)
   simp only at p1 p2 p3 p4 p5 p6
   simp -implicitDefEqProofs -dsimp only [go_sem, seval, p1, p2, p3, p4, p5, p6, q1, q2, q3, q4, q5, q6]
   refine how.swap.app (m := 1) (news := qa7 [y.2]) (by simp [Z4, qa7]) rfl (by simp only [hlen]; omega) (by simp only [hlen]; omega) fun v2' T3 how => J1 ?_
   obtain ⟨q1, q2, q3, q4, q5, q6⟩ := how.form (List.mem_cons_self ..)
   simp only at q1 q2 q3 q4 q5 q6
   simp -implicitDefEqProofs -dsimp only [go_sem, seval, p1, p2, p3, p4, p5, p6, q1, q2, q3, q4, q5, q6]
   rw [O8 (by omega)]
   refine ih (k + 1) hk' hlt _ _ _ ?_ h2
   simpa [qqp, qqq, ht, ht', hlen, hlen', qrt, qpr] using how.swap
  ·have hk10 : 10 <= k := by have := of_decide_eq_false h; omega
   have e : ∀ j, 10 <= j -> (c.l.take j).take 10 = c.l.take 10 := fun j hj => by rw [List.take_take, Nat.min_eq_left hj]
   rw [O8 (by omega)]
   refine ih (k + 1) hk' hlt _ _ _ ?_ h2
   simpa [qqp, qqq, e k hk10, e (k + 1) (by omega)] using how
theorem Wks.cf {a b c : AV} {n m : Nat} {x y : List AV} {k1 k2 : Option Nat} : Wks [a, b, .fz n x k1, .fz m y k2, c] [a, b, .fz n x none, .fz m y none, c] :=
 ⟨.refl _, .refl _, .fz, .fz, .refl _, trivial⟩
theorem z5c (c : Rf) (k : Option Nat) (hl : Len c.l.length) : PCalls prog q3k [.agg (c.cells k)] (.agg (c.ours.cells none none)) := by
 refine K6 U1 qes (by simp) fun T => ?_
 unfold q8r
 simp -implicitDefEqProofs -dsimp only [go_sem, seval, Rf.cells]
 refine z5b (T := T) (c := c) (k1 := k) (by repeat' (first | exact O6 _ _ | assumption | apply O5 | apply N4 | apply V8)) hl c.l 0 rfl (by omega) _ _ T ?_ (fun v1 v2 T1 how => ?_)
 ·exact ⟨T, ⟨T, rfl, .nil T 1⟩, .nil T 1⟩
 ·obtain ⟨p1, p2, p3, p4, p5, p6⟩ := how.form (List.mem_cons_self ..)
  obtain ⟨q1, q2, q3, q4, q5, q6⟩ := how.form (List.mem_cons_of_mem _ (List.mem_cons_self ..))
  simp only at p1 p2 p3 p4 p5 p6 q1 q2 q3 q4 q5 q6
  simp -implicitDefEqProofs -dsimp only [go_sem, seval, p1, p2, p3, p4, p5, p6, q1, q2, q3, q4, q5, q6]
  refine q33 how fun S hS => ?_
  obtain ⟨c1, e1⟩ := hS _ (List.mem_cons_self ..)
  obtain ⟨c2, e2⟩ := hS _ (List.mem_cons_of_mem _ (List.mem_cons_self ..))
  simp only at e1 e2
  simp only [qm5, q99, List.map_cons, List.map_nil, e1, e2, qbs]
  refine Wk.agg ?_
  have hn : (c.l.take 10).length = (qqp c.l).length := by simp [qqp]
  have hn' : (c.l.take 10).length = (qqq c.l).length := by simp [qqq]
  rw [hn] at *
  simp only [Rf.ours, Cf.cells]
  rw [hn] at hn'
  rw [<- hn']
  exact Wks.cf
end Go.Aw
namespace Go.Aw
open Go
open Go.Proofs.Tryz (prog)
set_option linter.all false
def qin (fu : List Bool) : List Int -> Nat -> List (Int × Bool)
 | [], _ => []
 | y :: ys, k => (y, (fu[k]?).getD false) :: qin fu ys (k + 1)
def Cf.plain (c : Cf) : Rf := ⟨c.ep, c.sh, qin c.fu c.ch 0, c.ln⟩
theorem qgq (fu : List Bool) : ∀ (l : List Int) (k : Nat), (qin fu l k).length = l.length
 | [], _ => rfl
 | _ :: l, k => by simp [qin, qgq fu l (k + 1)]
end Go.Aw
namespace Go.Aw
open Go
variable [Glob]
set_option linter.all false
theorem ACalls.wk {P : Program} {f : FuncId} {xs ys : List AV} {T : Tab} {Q : AV -> Tab -> Prop} (hw : Wks xs ys) (h : ACalls P f ys T Q) : ACalls P f xs T Q :=
 fun X lam w cargs hr hv => h X lam w cargs hr (hw.vrs hv)
theorem PCalls.wk {P : Program} {f : FuncId} {xs ys : List AV} {r : AV} (hw : Wks xs ys) (h : PCalls P f ys r) : PCalls P f xs r := fun T => (h T).wk hw
theorem Wks.flatMap {α : Type} {f g : α -> List AV} : ∀ {l : List α}, (∀ x ∈ l, Wks (f x) (g x)) -> Wks (l.flatMap f) (l.flatMap g)
 | [], _ => trivial
 | x :: l, h => by
  simp only [List.flatMap_cons]
  exact (h x (List.mem_cons_self ..)).append (Wks.flatMap fun y hy => h y (List.mem_cons_of_mem _ hy))
theorem Wks.one {x y : AV} (h : Wk x y) : Wks [x] [y] := ⟨h, trivial⟩
theorem Wks.cons {x y : AV} {l m : List AV} (h : Wk x y) (k : Wks l m) : Wks (x :: l) (y :: m) := ⟨h, k⟩
theorem Wks.nil : Wks [] [] := trivial
def kps (e : Env) (L : Loc) (T : Tab) {K : Env -> Loc -> Tab -> Prop} (_ : Hold K) : Prop := K e L T
theorem z1u {P : Program} {R : G9} {e : Env} {L : Loc} {T : Tab} (ts ls : List Nat) : AW P (.keep ts ls) R e L T = kps (qce ts e) (qce ls L) T (Hold.mk (a := R .normal)) := rfl
theorem za2 {K : Env -> Loc -> Tab -> Prop} {e : Env} {L : Loc} {T : Tab} (h : Hold K) : kps e L T h = K e L T := rfl
attribute [irreducible] kps
attribute [go_sem ↓ 1100] z1u
attribute [go_sem] za2
theorem qyw {P : Program} {a b : SC} {R : G9} {e : Env} {L : Loc} {T : Tab} (C : Prop) (E1 : Env) (L1 : Loc) (T1 : Tab) (h1 : ∀ K : Env -> Loc -> Tab -> Prop, (C -> K E1 L1 T1) -> AW P a (qa5 K R) e L T) (h2 : C -> AW P b R E1 L1 T1) : AW P (.seq a b) R e L T := by
 have h := h1 (fun e' L' T' => AW P b R e' L' T') h2
 exact h
end Go.Aw
namespace Go.Aw
open Go
open Go.Proofs.Tryz (prog)
set_option linter.all false
set_option maxHeartbeats 4000000
structure Vt where
 sl : Int
 rd : Int
 nd : Int
 v : Bs
 deriving DecidableEq
def vtC (v : Vt) : List AV := [.i .i64 v.sl, .i .u64 v.rd, .i .i64 v.nd, .s v.v]
def cfC (c : Cf) : List AV := c.cells none none
def rfL (c : Rf) : List AV := c.cells none
def enC (e : En) : List AV := e.cells none none
structure Lt (γ : Type) where
 fk : Int
 fn : Int
 tk : Int
 tn : Int
 k : Int
 sh : Int
 ep : Int
 n : Int
 m : Int
 nd : Int
 fl : Bool
 br : Int
 bn : Int
 vs : List Vt
 cs : List γ
 es : List En
 t : Tx
 cl : Int
 sq : Int
 v : Bs
 q : Int
 co : Int
def Lt.cells {γ : Type} (l : Lt γ) (f : γ -> List AV) : List AV :=
 [.i .i64 l.fk, .i .i64 l.fn, .i .i64 l.tk, .i .i64 l.tn, .i .i64 l.k, .i .i64 l.sh, .i .u64 l.ep, .i .i64 l.n, .i .i64 l.m, .i .i64 l.nd, .b l.fl, .i .u64 l.br, .i .i64 l.bn,
  .fz l.vs.length (l.vs.flatMap vtC) none, .fz l.cs.length (l.cs.flatMap f) none, .fz l.es.length (l.es.flatMap enC) none,
  .i .i64 l.t.cl, .i .u64 l.t.sq, .b l.t.pl, .fz l.t.rs.length (l.t.rs.flatMap rdC) none, .fz l.t.ws.length (l.t.ws.flatMap wtC) none,
  .i .i64 l.cl, .i .u64 l.sq, .s l.v, .i .u64 l.q, .i .i64 l.co]
abbrev Lt.cc (l : Lt Cf) : List AV := l.cells cfC
abbrev Lt.rc (l : Lt Rf) : List AV := l.cells rfL
def Lt.ours (l : Lt Rf) : Lt Cf := { l with vs := l.vs.take 20, cs := (l.cs.take 6).map Rf.ours, es := (l.es.take 10).map En.our, t := l.t.our }
def Lt.plain (l : Lt Cf) : Lt Rf := { l with cs := l.cs.map Cf.plain }
structure Lt.Wide (l : Lt Rf) : Prop where
 vs : Len l.vs.length
 cs : Len l.cs.length
 es : Len l.es.length
 vv : ∀ v ∈ l.vs, Len v.v.length
 cl : ∀ c ∈ l.cs, Len c.l.length
 et : ∀ e ∈ l.es, e.t.Wide
 t : l.t.Wide
 v : Len l.v.length
structure Lt.Fine (l : Lt Cf) : Prop where
 vs : l.vs.length <= 500
 cs : l.cs.length <= 10
 es : l.es.length <= 10
 vv : ∀ v ∈ l.vs, Len v.v.length
 cl : ∀ c ∈ l.cs, c.ch.length <= 1000 /\ c.fu.length = c.ch.length
 et : ∀ e ∈ l.es, e.t.Fine
 t : l.t.Fine
 v : Len l.v.length
end Go.Aw
namespace Go.Aw
open Go
open Go.Proofs.Tryz (prog)
set_option linter.all false
set_option maxHeartbeats 4000000
def qc5 (k : Int) : Bs :=
 if k = 3 then [] else if k = 8 then [98] else if k = 10 then [110] else if k = 20 then [120] else if k = 2 then [110, 99] else if k = 9 then [110, 116] else if k = 5 then [110, 98, 118] else
 if k = 6 then [110, 98, 116] else if k = 4 \/ k = 7 \/ k = 11 then [110, 98] else if k = 1 \/ k = 13 then [115, 101, 110, 102] else if k = 14 then [115, 101, 110] else if k = 15 then [115, 101, 110, 111, 105, 116] else
 if k = 12 then [115, 101, 110, 109, 113, 108] else if k = 16 then [115, 110, 105, 116] else if k = 17 then [115, 120] else if k = 18 then [115, 105, 114] else if k = 19 then [105, 116] else if k = 21 then [110, 105, 116, 113, 114] else []
def qop (k : Int) : Bool := decide (1 <= k /\ k <= 21)
theorem kinds (k : Int) : (k = 1 \/ k = 2 \/ k = 3 \/ k = 4 \/ k = 5 \/ k = 6 \/ k = 7 \/ k = 8 \/ k = 9 \/ k = 10 \/ k = 11 \/ k = 12 \/ k = 13 \/ k = 14 \/ k = 15 \/ k = 16 \/ k = 17 \/ k = 18 \/ k = 19 \/ k = 20 \/ k = 21) \/ qop k = false := by
 simp only [qop, decide_eq_false_iff_not]; omega
theorem q7e {k : Int} (h : qop k = false) (j : Int) (hj : 1 <= j /\ j <= 21 := by decide) : decide (k = j) = false := by
 simp only [qop, decide_eq_false_iff_not] at h ⊢; omega
theorem quk (k : Int) (h : k = 12 \/ k = 16 \/ k = 17 \/ k = 18 \/ k = 19 \/ k = 21 \/ qop k = false) : PCalls prog q7f [.i .i64 k] (.tup [.s (qc5 k), .b (qop k)]) := by
 refine K6 U1 qmf (by simp) fun T => ?_
 unfold qeb
 rcases h with rfl | rfl | rfl | rfl | rfl | rfl | h
 any_goals (simp -implicitDefEqProofs -dsimp only [go_sem, seval, decide_true, decide_false, reduceCtorEq]; refine J9 ?_; simp [qc5, qop]; done)
 have hn : qc5 k = [] := by
  simp only [qop, decide_eq_false_iff_not] at h
  unfold qc5
  repeat' rw [if_neg (by omega)]
 simp -implicitDefEqProofs -dsimp only [go_sem, seval, q7e h 12, q7e h 16, q7e h 17, q7e h 18, q7e h 19, q7e h 21]
 refine J9 ?_
 rw [hn, h]
theorem qgr (k : Int) : PCalls prog q35 [.i .i64 k] (.tup [.s (qc5 k), .b (qop k)]) := by
 refine K6 U1 qkh (by simp) fun T => ?_
 unfold qcn
 rcases kinds k with (rfl | rfl | rfl | rfl | rfl | rfl | rfl | rfl | rfl | rfl | rfl | rfl | rfl | rfl | rfl | rfl | rfl | rfl | rfl | rfl | rfl) | h
 any_goals (simp -implicitDefEqProofs -dsimp only [go_sem, seval, decide_true, decide_false, reduceCtorEq]; refine J9 ?_; simp [qc5, qop]; done)
 any_goals (simp -implicitDefEqProofs -dsimp only [go_sem, seval, decide_true, decide_false, reduceCtorEq, ↓J0 _ _ qec]; refine CallK.pure (quk _ (by simp)) (J1 ?_); simp -implicitDefEqProofs -dsimp only [go_sem, seval]; exact J9 rfl)
 simp -implicitDefEqProofs -dsimp only [go_sem, seval, q7e h 1, q7e h 2, q7e h 3, q7e h 4, q7e h 5, q7e h 6, q7e h 7, q7e h 8, q7e h 9, q7e h 10, q7e h 11, q7e h 12, q7e h 13, q7e h 14, q7e h 15, q7e h 16, q7e h 17, q7e h 18, q7e h 19, q7e h 20, q7e h 21, ↓J0 _ _ qec]
 refine cpn (quk _ (by simp [h])) ?_
 simp -implicitDefEqProofs -dsimp only [go_sem, seval]
 exact J9 rfl
def z1v (k : Int) : Int := if k = 1 then 5 else if k = 2 then 8 else if k = 3 then 6 else 0
def z0t (k n : Int) : Bool := decide (0 <= n) && decide (n < z1v k)
theorem q2l (k n : Int) : PCalls prog q2h [.agg [.i .i64 k, .i .i64 n]] (.b (z0t k n)) := by
 refine K6 U1 qga (by simp) fun T => ?_
 unfold q9i
 simp -implicitDefEqProofs -dsimp only [go_sem, seval]
 (first | (apply K0 <;> intro h_1 <;> simp -implicitDefEqProofs -dsimp only [go_sem, seval, h_1]) | (have h_1 := trivial)) <;>
  (first | (apply K0 <;> intro h_2 <;> simp -implicitDefEqProofs -dsimp only [go_sem, seval, h_1, h_2]) | (have h_2 := trivial)) <;>
  (first | (apply K0 <;> intro h_3 <;> simp -implicitDefEqProofs -dsimp only [go_sem, seval, h_1, h_2, h_3]) | (have h_3 := trivial)) <;>
  (first | (apply K0 <;> intro h_4 <;> simp -implicitDefEqProofs -dsimp only [go_sem, seval, h_1, h_2, h_3, h_4]) | (have h_4 := trivial)) <;>
  (first | (apply K0 <;> intro h_5 <;> simp -implicitDefEqProofs -dsimp only [go_sem, seval, h_1, h_2, h_3, h_4, h_5]) | (have h_5 := trivial))
 all_goals (refine J9 ?_; simp_all [z0t, z1v] <;> omega)
def qm7 (n : Int) : Bool := decide (0 <= n) && decide (n <= 1048576)
theorem q5z (n : Int) : PCalls prog q5l [.i .i64 n] (.b (qm7 n)) := by
 refine K6 U1 qmh (by simp) fun T => ?_
 unfold qed
 simp -implicitDefEqProofs -dsimp only [go_sem, seval]
 (first | (apply K0 <;> intro h_1 <;> simp -implicitDefEqProofs -dsimp only [go_sem, seval, h_1]) | (have h_1 := trivial)) <;>
  (first | (apply K0 <;> intro h_2 <;> simp -implicitDefEqProofs -dsimp only [go_sem, seval, h_1, h_2]) | (have h_2 := trivial)) <;>
  (first | (apply K0 <;> intro h_3 <;> simp -implicitDefEqProofs -dsimp only [go_sem, seval, h_1, h_2, h_3]) | (have h_3 := trivial))
 all_goals (refine J9 ?_; simp_all [qm7] <;> omega)
def qjk (n : Int) : Bool := decide (0 <= n) && decide (n < 5)
theorem V0 (r n : Int) : PCalls prog q1o [.agg [.i .u64 r, .i .i64 n]] (.b (qjk n)) := by
 refine K6 U1 qe3 (by simp) fun T => ?_
 unfold q88
 simp -implicitDefEqProofs -dsimp only [go_sem, seval]
 (first | (apply K0 <;> intro h_1 <;> simp -implicitDefEqProofs -dsimp only [go_sem, seval, h_1]) | (have h_1 := trivial)) <;>
  (first | (apply K0 <;> intro h_2 <;> simp -implicitDefEqProofs -dsimp only [go_sem, seval, h_1, h_2]) | (have h_2 := trivial)) <;>
  (first | (apply K0 <;> intro h_3 <;> simp -implicitDefEqProofs -dsimp only [go_sem, seval, h_1, h_2, h_3]) | (have h_3 := trivial))
 all_goals (refine J9 ?_; simp_all [qjk] <;> omega)
def zb8 (v : Vt) : Bool := qm7 v.sl && (qjk v.nd && decide ((v.v.length : Int) <= 64))
theorem qqr (v : Vt) : PCalls prog q4h [.agg (vtC v)] (.b (zb8 v)) := by
 refine K6 U1 qgl (by simp) fun T => ?_
 unfold q9l
 simp -implicitDefEqProofs -dsimp only [go_sem, seval, vtC]
 (first | (apply K0 <;> intro h_1 <;> simp -implicitDefEqProofs -dsimp only [go_sem, seval, ↓J0 _ _ K9, h_1]) | (refine CallK.pure (V0 _ _) (J1 ?_); simp -implicitDefEqProofs -dsimp only [go_sem, seval, ↓J0 _ _ K9]; have h_1 := trivial) | (have h_1 := trivial)) <;>
  (first | (apply K0 <;> intro h_2 <;> simp -implicitDefEqProofs -dsimp only [go_sem, seval, ↓J0 _ _ K9, h_1, h_2]) | (refine CallK.pure (V0 _ _) (J1 ?_); simp -implicitDefEqProofs -dsimp only [go_sem, seval, ↓J0 _ _ K9, h_1]; have h_2 := trivial) | (have h_2 := trivial)) <;>
  (first | (apply K0 <;> intro h_3 <;> simp -implicitDefEqProofs -dsimp only [go_sem, seval, ↓J0 _ _ K9, h_1, h_2, h_3]) | (refine CallK.pure (V0 _ _) (J1 ?_); simp -implicitDefEqProofs -dsimp only [go_sem, seval, ↓J0 _ _ K9, h_1, h_2]; have h_3 := trivial) | (have h_3 := trivial)) <;>
  (first | (apply K0 <;> intro h_4 <;> simp -implicitDefEqProofs -dsimp only [go_sem, seval, ↓J0 _ _ K9, h_1, h_2, h_3, h_4]) | (refine CallK.pure (V0 _ _) (J1 ?_); simp -implicitDefEqProofs -dsimp only [go_sem, seval, ↓J0 _ _ K9, h_1, h_2, h_3]; have h_4 := trivial) | (have h_4 := trivial)) <;>
  (first | (apply K0 <;> intro h_5 <;> simp -implicitDefEqProofs -dsimp only [go_sem, seval, ↓J0 _ _ K9, h_1, h_2, h_3, h_4, h_5]) | (refine CallK.pure (V0 _ _) (J1 ?_); simp -implicitDefEqProofs -dsimp only [go_sem, seval, ↓J0 _ _ K9, h_1, h_2, h_3, h_4]; have h_5 := trivial) | (have h_5 := trivial)) <;>
  (first | (apply K0 <;> intro h_6 <;> simp -implicitDefEqProofs -dsimp only [go_sem, seval, ↓J0 _ _ K9, h_1, h_2, h_3, h_4, h_5, h_6]) | (refine CallK.pure (V0 _ _) (J1 ?_); simp -implicitDefEqProofs -dsimp only [go_sem, seval, ↓J0 _ _ K9, h_1, h_2, h_3, h_4, h_5]; have h_6 := trivial) | (have h_6 := trivial))
 all_goals (refine J9 ?_; simp_all [zb8, qm7, qjk] <;> omega)
end Go.Aw
