import Derived.Test.YteiamcnjlpbihaaGreatDoorN17T16B
import Derived.Test.YteiamcnjlpbihaaGreatDoorAwD
import Derived.Test.YteiamcnjlpbihaaGreatDoorN17E12X
namespace Go.Aw
open Go
open Go.Proofs.Tryz (prog)
set_option linter.all false
def qtp (l : List (Int × Bool)) : List Int := (l.take 10).map (·.1)
def qtq (l : List (Int × Bool)) : List Bool := (l.take 10).map (·.2)
def Rf.ours (c : Rf) : Cf := ⟨c.ep, c.sh, qtp c.l, qtq c.l, c.ln⟩
theorem z7t {R : Z1} (hR : ExtR R) {T : Tab} {c : Rf} {k1 : Option Nat} (hl : Len c.l.length) : ∀ (ys : List (Int × Bool)) (k : Nat), c.l.drop k = ys -> k <= c.l.length -> ∀ (v1 v2 : AV) (T1 : Tab),
  Owns T [⟨1, v1, ((c.l.take k).take 10).length, qf1 (qtp (c.l.take k))⟩, ⟨1, v2, ((c.l.take k).take 10).length, qcq (qtq (c.l.take k))⟩] T1 ->
  (∀ v1 v2 T1, Owns T [⟨1, v1, (c.l.take 10).length, qf1 (qtp c.l)⟩, ⟨1, v2, (c.l.take 10).length, qcq (qtq c.l)⟩] T1 ->
   R (.exit 0) [(2, .lp 2 0), (3, .lp 3 0), (14, .fz c.l.length (mem c.l) k1), (15, .i .i64 c.l.length), (16, .i .i64 c.l.length), (17, .b false)]
    [(2, [.i .u64 0, .i .i64 0, .fz 0 [] (some 0), .fz 0 [] (some 0), .i .i64 0]), (3, [.i .u64 c.ep, .i .i64 c.sh, v1, v2, .i .i64 c.ln])] T1) ->
  AW prog q77 R [(2, .lp 2 0), (3, .lp 3 0), (14, .fz c.l.length (mem c.l) k1), (15, .i .i64 c.l.length), (16, .i .i64 k)]
    [(2, [.i .u64 0, .i .i64 0, .fz 0 [] (some 0), .fz 0 [] (some 0), .i .i64 0]), (3, [.i .u64 c.ep, .i .i64 c.sh, v1, v2, .i .i64 c.ln])] T1 := by
 intro ys
 induction ys with
 | nil =>
  intro k hk hle v1 v2 T1 how h2
  have hk' := U3 hk hle
  refine U1 hR ?_
  unfold q6k
  have ht : c.l.take k = c.l := List.take_of_length_le (by omega)
  rw [ht] at how
  simp -implicitDefEqProofs -dsimp only [go_sem, seval, hk', Int.lt_irrefl]
  have := h2 v1 v2 T1 how
  rw [hk'] at this
  exact this
 | cons y ys ih =>
  intro k hk hle v1 v2 T1 how h2
  obtain ⟨hlt, hy, hk'⟩ := U9 hk
  have hl' := hl
  unfold Len at hl
  obtain ⟨p1, p2, p3, p4, p5, p6⟩ := how.form (List.mem_cons_self ..)
  obtain ⟨q1, q2, q3, q4, q5, q6⟩ := how.form (List.mem_cons_of_mem _ (List.mem_cons_self ..))
  simp only at p1 p2 p3 p4 p5 p6 q1 q2 q3 q4 q5 q6
  refine O4 (l := q77) rfl hR ?_
  unfold q6k
  simp -implicitDefEqProofs -dsimp only [go_sem, seval, Int.ofNat_lt, hlt, Int.natCast_nonneg, Int.toNat_natCast, qx1 hy, p1, p2, p3, p4, p5, p6, q1, q2, q3, q4, q5, q6]
  refine J2 (fun h => ?_) (fun h => ?_) <;> simp -implicitDefEqProofs -dsimp only [go_sem, seval, h, p1, p2, p3, p4, p5, p6, q1, q2, q3, q4, q5, q6]
  ·have hk10 : k < 10 := by have := of_decide_eq_true h; omega
   have hlen : ((c.l.take k).take 10).length = k := by simp; omega
   have hlen' : ((c.l.take (k + 1)).take 10).length = k + 1 := by simp; omega
   have ht : (c.l.take k).take 10 = c.l.take k := List.take_of_length_le (by simp; omega)
   have ht' : (c.l.take (k + 1)).take 10 = c.l.take k ++ [y] := by rw [List.take_of_length_le (by simp; omega)]; exact I4 hy
   refine how.app (m := 1) (news := qf1 [y.1]) (by simp [q03, qf1]) rfl (by simp only [hlen]; omega) (by simp only [hlen]; omega) fun v1' T2 how => J1 ?_
   obtain ⟨p1, p2, p3, p4, p5, p6⟩ := how.form (List.mem_cons_self ..)
   simp only at p1 p2 p3 p4 p5 p6
   simp -implicitDefEqProofs -dsimp only [go_sem, seval, p1, p2, p3, p4, p5, p6, q1, q2, q3, q4, q5, q6]
   refine how.swap.app (m := 1) (news := qcq [y.2]) (by simp [q03, qcq]) rfl (by simp only [hlen]; omega) (by simp only [hlen]; omega) fun v2' T3 how => J1 ?_
   obtain ⟨q1, q2, q3, q4, q5, q6⟩ := how.form (List.mem_cons_self ..)
   simp only at q1 q2 q3 q4 q5 q6
   simp -implicitDefEqProofs -dsimp only [go_sem, seval, p1, p2, p3, p4, p5, p6, q1, q2, q3, q4, q5, q6]
   rw [N6 (by omega)]
   refine ih (k + 1) hk' hlt _ _ _ ?_ h2
   simpa [qtp, qtq, ht, ht', hlen, hlen', qur, qsm] using how.swap
  ·have hk10 : 10 <= k := by have := of_decide_eq_false h; omega
   have e : ∀ j, 10 <= j -> (c.l.take j).take 10 = c.l.take 10 := fun j hj => by rw [List.take_take, Nat.min_eq_left hj]
   rw [N6 (by omega)]
   refine ih (k + 1) hk' hlt _ _ _ ?_ h2
   simpa [qtp, qtq, e k hk10, e (k + 1) (by omega)] using how
theorem Wks.cf {a b c : AV} {n m : Nat} {x y : List AV} {k1 k2 : Option Nat} : Wks [a, b, .fz n x k1, .fz m y k2, c] [a, b, .fz n x none, .fz m y none, c] :=
 ⟨.refl _, .refl _, .fz, .fz, .refl _, trivial⟩
theorem z7u (c : Rf) (k : Option Nat) (hl : Len c.l.length) : PCalls prog q4z [.agg (c.cells k)] (.agg (c.ours.cells none none)) := by
 refine K6 U7 qia (by simp) fun T => ?_
 unfold qb7
 simp -implicitDefEqProofs -dsimp only [go_sem, seval, Rf.cells]
 refine z7t (T := T) (c := c) (k1 := k) (by repeat' (first | exact N8 _ _ | assumption | apply N7 | apply K8 | apply V0)) hl c.l 0 rfl (by omega) _ _ T ?_ (fun v1 v2 T1 how => ?_)
 ·exact ⟨T, ⟨T, rfl, .nil T 1⟩, .nil T 1⟩
 ·obtain ⟨p1, p2, p3, p4, p5, p6⟩ := how.form (List.mem_cons_self ..)
  obtain ⟨q1, q2, q3, q4, q5, q6⟩ := how.form (List.mem_cons_of_mem _ (List.mem_cons_self ..))
  simp only at p1 p2 p3 p4 p5 p6 q1 q2 q3 q4 q5 q6
  simp -implicitDefEqProofs -dsimp only [go_sem, seval, p1, p2, p3, p4, p5, p6, q1, q2, q3, q4, q5, q6]
  refine q2g how fun S hS => ?_
  obtain ⟨c1, e1⟩ := hS _ (List.mem_cons_self ..)
  obtain ⟨c2, e2⟩ := hS _ (List.mem_cons_of_mem _ (List.mem_cons_self ..))
  simp only at e1 e2
  simp only [qm3, qc5, List.map_cons, List.map_nil, e1, e2, qaz]
  refine Wk.agg ?_
  have hn : (c.l.take 10).length = (qtp c.l).length := by simp [qtp]
  have hn' : (c.l.take 10).length = (qtq c.l).length := by simp [qtq]
  rw [hn] at *
  simp only [Rf.ours, Cf.cells]
  rw [hn] at hn'
  rw [<- hn']
  exact Wks.cf
end Go.Aw
namespace Go.Aw
open Go
open Go.Proofs.Tryz (prog)
set_option linter.all false
def qeo (fu : List Bool) : List Int -> Nat -> List (Int × Bool)
 | [], _ => []
 | y :: ys, k => (y, (fu[k]?).getD false) :: qeo fu ys (k + 1)
def Cf.plain (c : Cf) : Rf := ⟨c.ep, c.sh, qeo c.fu c.ch 0, c.ln⟩
theorem qeh (fu : List Bool) : ∀ (l : List Int) (k : Nat), (qeo fu l k).length = l.length
 | [], _ => rfl
 | _ :: l, k => by simp [qeo, qeh fu l (k + 1)]
theorem z4k {R : Z1} (hR : ExtR R) {T : Tab} {c : Cf} {k1 k2 : Option Nat} (hl : c.ch.length < 1000000000) : ∀ (ys : List Int) (k : Nat), c.ch.drop k = ys -> k <= c.ch.length -> ∀ (v : AV) (T1 : Tab) (acc : List (Int × Bool)),
  acc.length = k -> Owns T [⟨2, v, k, mem acc⟩] T1 ->
  (∀ v T1, Owns T [⟨2, v, c.ch.length, mem (acc ++ qeo c.fu ys k)⟩] T1 ->
   R (.exit 0) [(1, .lp 1 0), (2, .lp 2 0), (3, .lp 3 0), (14, .fz c.ch.length (qf1 c.ch) k1), (15, .i .i64 c.ch.length), (16, .i .i64 c.ch.length), (17, .b false)]
    [(1, c.cells k1 k2), (2, [.i .u64 0, .i .i64 0, .fz 0 [] (some 0), .i .i64 0]), (3, [.i .u64 c.ep, .i .i64 c.sh, v, .i .i64 c.ln])] T1) ->
  AW prog q22 R [(1, .lp 1 0), (2, .lp 2 0), (3, .lp 3 0), (14, .fz c.ch.length (qf1 c.ch) k1), (15, .i .i64 c.ch.length), (16, .i .i64 k)]
    [(1, c.cells k1 k2), (2, [.i .u64 0, .i .i64 0, .fz 0 [] (some 0), .i .i64 0]), (3, [.i .u64 c.ep, .i .i64 c.sh, v, .i .i64 c.ln])] T1 := by
 intro ys
 induction ys with
 | nil =>
  intro k hk hle v T1 acc hacc how h2
  have hk' := U3 hk hle
  refine O4 (l := q22) rfl hR ?_
  unfold q5t
  simp -implicitDefEqProofs -dsimp only [go_sem, seval, hk', Int.lt_irrefl]
  have := h2 v T1 (by rw [hk']; simpa [qeo] using how)
  rw [hk'] at this
  exact this
 | cons y ys ih =>
  intro k hk hle v T1 acc hacc how h2
  obtain ⟨hlt, hy, hk'⟩ := U9 hk
  obtain ⟨p1, p2, p3, p4, p5, p6⟩ := how.form (List.mem_cons_self ..)
  simp only at p1 p2 p3 p4 p5 p6
  refine O4 (l := q22) rfl hR ?_
  unfold q5t
  simp -implicitDefEqProofs -dsimp only [go_sem, seval, Int.ofNat_lt, hlt, Int.natCast_nonneg, Int.toNat_natCast, qn9, hy, p1, p2, p3, p4, p5, p6, Cf.cells]
  have fin : ∀ (b : Bool), (c.fu[k]?).getD false = b -> ∀ K : AV -> Tab -> Prop, (∀ v' T2, Owns T [⟨2, v', k + 1, mem (acc ++ [(y, b)])⟩] T2 -> K v' T2) ->
    q3f 2 16 T1 v (.fz 1 [.i .i64 y, .b b] (some 1)) K := fun b hb K hK => by
   refine how.app (m := 1) (news := mem [(y, b)]) (by simp [q03, mem]) rfl (by simp only; omega) (by simp only; omega) fun v' T2 h' => hK v' T2 ?_
   simpa [q4w] using h'
  have next : ∀ (b : Bool), (c.fu[k]?).getD false = b -> ∀ v' T2, Owns T [⟨2, v', k + 1, mem (acc ++ [(y, b)])⟩] T2 ->
    AW prog q22 R [(1, .lp 1 0), (2, .lp 2 0), (3, .lp 3 0), (14, .fz c.ch.length (qf1 c.ch) k1), (15, .i .i64 c.ch.length), (16, .i .i64 ((k + 1 : Nat) : Int))]
     [(1, c.cells k1 k2), (2, [.i .u64 0, .i .i64 0, .fz 0 [] (some 0), .i .i64 0]), (3, [.i .u64 c.ep, .i .i64 c.sh, v', .i .i64 c.ln])] T2 := fun b hb v' T2 h' => by
   refine ih (k + 1) hk' hlt v' T2 (acc ++ [(y, b)]) (by simp [hacc]) h' fun v'' T3 h'' => h2 v'' T3 ?_
   simpa [qeo, hb] using h''
  refine J2 (fun h => ?_) (fun h => ?_)
  ·have hlt2 := of_decide_eq_true h
   have hb : c.fu[k]? = some c.fu[k] := List.getElem?_eq_getElem hlt2
   simp -implicitDefEqProofs -dsimp only [go_sem, seval, h, Cf.cells, Int.ofNat_lt, hlt2, Int.natCast_nonneg, Int.toNat_natCast, qqo, hb, p1, p2, p3, p4, p5, p6]
   refine fin c.fu[k] (by simp [hb]) _ fun v' T2 h' => ?_
   refine J1 ?_
   obtain ⟨q1, q2, q3, q4, q5, q6⟩ := h'.form (List.mem_cons_self ..)
   simp only at q1 q2 q3 q4 q5 q6
   simp -implicitDefEqProofs -dsimp only [go_sem, seval, q1, q2, q3, q4, q5, q6]
   rw [N6 (by omega)]
   exact next c.fu[k] (by simp [hb]) v' T2 h'
  ·have hlt2 := of_decide_eq_false h
   have hb : c.fu[k]? = none := by simp; omega
   simp -implicitDefEqProofs -dsimp only [go_sem, seval, h, p1, p2, p3, p4, p5, p6]
   refine fin false (by simp [hb]) _ fun v' T2 h' => ?_
   refine J1 ?_
   obtain ⟨q1, q2, q3, q4, q5, q6⟩ := h'.form (List.mem_cons_self ..)
   simp only at q1 q2 q3 q4 q5 q6
   simp -implicitDefEqProofs -dsimp only [go_sem, seval, q1, q2, q3, q4, q5, q6]
   rw [N6 (by omega)]
   exact next false (by simp [hb]) v' T2 h'
theorem z4l (c : Cf) (k1 k2 : Option Nat) (hl : c.ch.length < 1000000000) : PCalls prog q41 [.agg (c.cells k1 k2)] (.agg (c.plain.cells none)) := by
 refine K6 U7 qgq (by simp) fun T => ?_
 unfold qab
 simp -implicitDefEqProofs -dsimp only [go_sem, seval, Cf.cells]
 refine z4k (T := T) (c := c) (k1 := k1) (k2 := k2) (by repeat' (first | exact N8 _ _ | assumption | apply N7 | apply K8 | apply V0)) hl c.ch 0 rfl (by omega) _ T [] rfl ?_ (fun v1 T1 how => ?_)
 ·exact ⟨T, rfl, .nil T 2⟩
 ·obtain ⟨p1, p2, p3, p4, p5, p6⟩ := how.form (List.mem_cons_self ..)
  simp only at p1 p2 p3 p4 p5 p6
  simp -implicitDefEqProofs -dsimp only [go_sem, seval, p1, p2, p3, p4, p5, p6]
  refine q2g how fun S hS => ?_
  obtain ⟨c1, e1⟩ := hS _ (List.mem_cons_self ..)
  simp only at e1
  simp only [qm3, qc5, List.map_cons, List.map_nil, e1, qaz]
  refine Wk.agg ?_
  simp only [Cf.plain, Rf.cells, qeh, List.nil_append]
  exact ⟨.refl _, .refl _, .fz, .refl _, trivial⟩
end Go.Aw
namespace Go.Aw
open Go
variable [Glob]
set_option linter.all false
theorem ACalls.wk {P : Program} {f : FuncId} {xs ys : List AV} {T : Tab} {Q : AV -> Tab -> Prop} (hw : Wks xs ys) (h : ACalls P f ys T Q) : ACalls P f xs T Q :=
 fun X lam w cargs hr hv => h X lam w cargs hr (hw.vrs hv)
theorem PCalls.wk {P : Program} {f : FuncId} {xs ys : List AV} {r : AV} (hw : Wks xs ys) (h : PCalls P f ys r) : PCalls P f xs r := fun T => (h T).wk hw
theorem Wks.flatMap {α : Type} {f g : α -> List AV} : ∀ {l : List α}, (∀ x ∈ l, Wks (f x) (g x)) -> Wks (l.flatMap f) (l.flatMap g)
 | [], _ => trivial
 | x :: l, h => by
  simp only [List.flatMap_cons]
  exact (h x (List.mem_cons_self ..)).append (Wks.flatMap fun y hy => h y (List.mem_cons_of_mem _ hy))
theorem Wks.one {x y : AV} (h : Wk x y) : Wks [x] [y] := ⟨h, trivial⟩
theorem Wks.cons {x y : AV} {l m : List AV} (h : Wk x y) (k : Wks l m) : Wks (x :: l) (y :: m) := ⟨h, k⟩
theorem Wks.nil : Wks [] [] := trivial
def kps (e : Env) (L : Loc) (T : Tab) {K : Env -> Loc -> Tab -> Prop} (_ : Hold K) : Prop := K e L T
theorem z4m {P : Program} {R : Z1} {e : Env} {L : Loc} {T : Tab} (ts ls : List Nat) : AW P (.keep ts ls) R e L T = kps (qf9 ts e) (qf9 ls L) T (Hold.mk (a := R .normal)) := rfl
theorem zc9 {K : Env -> Loc -> Tab -> Prop} {e : Env} {L : Loc} {T : Tab} (h : Hold K) : kps e L T h = K e L T := rfl
attribute [irreducible] kps
attribute [go_sem ↓ 1100] z4m
attribute [go_sem] zc9
theorem q9z {P : Program} {a b : SC} {R : Z1} {e : Env} {L : Loc} {T : Tab} (C : Prop) (E1 : Env) (L1 : Loc) (T1 : Tab) (h1 : ∀ K : Env -> Loc -> Tab -> Prop, (C -> K E1 L1 T1) -> AW P a (qco K R) e L T) (h2 : C -> AW P b R E1 L1 T1) : AW P (.seq a b) R e L T := by
 have h := h1 (fun e' L' T' => AW P b R e' L' T') h2
 exact h
end Go.Aw
namespace Go.Aw
open Go
open Go.Proofs.Tryz (prog)
set_option linter.all false
set_option maxHeartbeats 4000000
structure Vt where
 sl : Int
 rd : Int
 nd : Int
 v : Bs
 deriving DecidableEq
def vtC (v : Vt) : List AV := [.i .i64 v.sl, .i .u64 v.rd, .i .i64 v.nd, .s v.v]
def cfC (c : Cf) : List AV := c.cells none none
def rfL (c : Rf) : List AV := c.cells none
def enC (e : En) : List AV := e.cells none none
structure Lt (γ : Type) where
 fk : Int
 fn : Int
 tk : Int
 tn : Int
 k : Int
 sh : Int
 ep : Int
 n : Int
 m : Int
 nd : Int
 fl : Bool
 br : Int
 bn : Int
 vs : List Vt
 cs : List γ
 es : List En
 t : Tx
 cl : Int
 sq : Int
 v : Bs
 q : Int
 co : Int
def Lt.cells {γ : Type} (l : Lt γ) (f : γ -> List AV) : List AV :=
 [.i .i64 l.fk, .i .i64 l.fn, .i .i64 l.tk, .i .i64 l.tn, .i .i64 l.k, .i .i64 l.sh, .i .u64 l.ep, .i .i64 l.n, .i .i64 l.m, .i .i64 l.nd, .b l.fl, .i .u64 l.br, .i .i64 l.bn,
  .fz l.vs.length (l.vs.flatMap vtC) none, .fz l.cs.length (l.cs.flatMap f) none, .fz l.es.length (l.es.flatMap enC) none,
  .i .i64 l.t.cl, .i .u64 l.t.sq, .b l.t.pl, .fz l.t.rs.length (l.t.rs.flatMap rdC) none, .fz l.t.ws.length (l.t.ws.flatMap wtC) none,
  .i .i64 l.cl, .i .u64 l.sq, .s l.v, .i .u64 l.q, .i .i64 l.co]
abbrev Lt.cc (l : Lt Cf) : List AV := l.cells cfC
abbrev Lt.rc (l : Lt Rf) : List AV := l.cells rfL
def Lt.ours (l : Lt Rf) : Lt Cf := { l with vs := l.vs.take 20, cs := (l.cs.take 6).map Rf.ours, es := (l.es.take 10).map En.our, t := l.t.our }
def Lt.plain (l : Lt Cf) : Lt Rf := { l with cs := l.cs.map Cf.plain }
structure Lt.Wide (l : Lt Rf) : Prop where
 vs : Len l.vs.length
 cs : Len l.cs.length
 es : Len l.es.length
 vv : ∀ v ∈ l.vs, Len v.v.length
 cl : ∀ c ∈ l.cs, Len c.l.length
 et : ∀ e ∈ l.es, e.t.Wide
 t : l.t.Wide
 v : Len l.v.length
structure Lt.Fine (l : Lt Cf) : Prop where
 vs : l.vs.length <= 500
 cs : l.cs.length <= 10
 es : l.es.length <= 10
 vv : ∀ v ∈ l.vs, Len v.v.length
 cl : ∀ c ∈ l.cs, c.ch.length <= 1000 /\ c.fu.length = c.ch.length
 et : ∀ e ∈ l.es, e.t.Fine
 t : l.t.Fine
 v : Len l.v.length
end Go.Aw
namespace Go.Aw
open Go
open Go.Proofs.Tryz (prog)
set_option linter.all false
set_option maxHeartbeats 4000000
def q66 (k : Int) : Bs :=
 if k = 3 then [] else if k = 8 then [98] else if k = 10 then [110] else if k = 20 then [120] else if k = 2 then [110, 99] else if k = 9 then [110, 116] else if k = 5 then [110, 98, 118] else
 if k = 6 then [110, 98, 116] else if k = 4 \/ k = 7 \/ k = 11 then [110, 98] else if k = 1 \/ k = 13 then [115, 101, 110, 102] else if k = 14 then [115, 101, 110] else if k = 15 then [115, 101, 110, 111, 105, 116] else
 if k = 12 then [115, 101, 110, 109, 113, 108] else if k = 16 then [115, 110, 105, 116] else if k = 17 then [115, 120] else if k = 18 then [115, 105, 114] else if k = 19 then [105, 116] else if k = 21 then [110, 105, 116, 113, 114] else []
def qbq (k : Int) : Bool := decide (1 <= k /\ k <= 21)
theorem kinds (k : Int) : (k = 1 \/ k = 2 \/ k = 3 \/ k = 4 \/ k = 5 \/ k = 6 \/ k = 7 \/ k = 8 \/ k = 9 \/ k = 10 \/ k = 11 \/ k = 12 \/ k = 13 \/ k = 14 \/ k = 15 \/ k = 16 \/ k = 17 \/ k = 18 \/ k = 19 \/ k = 20 \/ k = 21) \/ qbq k = false := by
 simp only [qbq, decide_eq_false_iff_not]; omega
theorem G3 {k : Int} (h : qbq k = false) (j : Int) (hj : 1 <= j /\ j <= 21 := by decide) : decide (k = j) = false := by
 simp only [qbq, decide_eq_false_iff_not] at h ⊢; omega
theorem qx2 (k : Int) (h : k = 12 \/ k = 16 \/ k = 17 \/ k = 18 \/ k = 19 \/ k = 21 \/ qbq k = false) : PCalls prog q9i [.i .i64 k] (.tup [.s (q66 k), .b (qbq k)]) := by
 refine K6 U7 qoy (by simp) fun T => ?_
 unfold qhr
 rcases h with rfl | rfl | rfl | rfl | rfl | rfl | h
 any_goals (simp -implicitDefEqProofs -dsimp only [go_sem, seval, decide_true, decide_false, reduceCtorEq]; refine J9 ?_; simp [q66, qbq]; done)
 have hn : q66 k = [] := by
  simp only [qbq, decide_eq_false_iff_not] at h
  unfold q66
  repeat' rw [if_neg (by omega)]
 simp -implicitDefEqProofs -dsimp only [go_sem, seval, G3 h 12, G3 h 16, G3 h 17, G3 h 18, G3 h 19, G3 h 21]
 refine J9 ?_
 rw [hn, h]
theorem qoa (k : Int) : PCalls prog q4c [.i .i64 k] (.tup [.s (q66 k), .b (qbq k)]) := by
 refine K6 U7 qnf (by simp) fun T => ?_
 unfold qfg
 rcases kinds k with (rfl | rfl | rfl | rfl | rfl | rfl | rfl | rfl | rfl | rfl | rfl | rfl | rfl | rfl | rfl | rfl | rfl | rfl | rfl | rfl | rfl) | h
 any_goals (simp -implicitDefEqProofs -dsimp only [go_sem, seval, decide_true, decide_false, reduceCtorEq]; refine J9 ?_; simp [q66, qbq]; done)
 any_goals (simp -implicitDefEqProofs -dsimp only [go_sem, seval, decide_true, decide_false, reduceCtorEq, ↓J0 _ _ qhs]; refine CallK.pure (qx2 _ (by simp)) (J1 ?_); simp -implicitDefEqProofs -dsimp only [go_sem, seval]; exact J9 rfl)
 simp -implicitDefEqProofs -dsimp only [go_sem, seval, G3 h 1, G3 h 2, G3 h 3, G3 h 4, G3 h 5, G3 h 6, G3 h 7, G3 h 8, G3 h 9, G3 h 10, G3 h 11, G3 h 12, G3 h 13, G3 h 14, G3 h 15, G3 h 16, G3 h 17, G3 h 18, G3 h 19, G3 h 20, G3 h 21, ↓J0 _ _ qhs]
 refine cpn (qx2 _ (by simp [h])) ?_
 simp -implicitDefEqProofs -dsimp only [go_sem, seval]
 exact J9 rfl
def z4n (k : Int) : Int := if k = 1 then 5 else if k = 2 then 8 else if k = 3 then 6 else 0
def qyh (k n : Int) : Bool := decide (0 <= n) && decide (n < z4n k)
theorem q3d (k n : Int) : PCalls prog q38 [.agg [.i .i64 k, .i .i64 n]] (.b (qyh k n)) := by
 refine K6 U7 qjr (by simp) fun T => ?_
 unfold qby
 simp -implicitDefEqProofs -dsimp only [go_sem, seval]
 (first | (apply J2 <;> intro h_1 <;> simp -implicitDefEqProofs -dsimp only [go_sem, seval, h_1]) | (have h_1 := trivial)) <;>
  (first | (apply J2 <;> intro h_2 <;> simp -implicitDefEqProofs -dsimp only [go_sem, seval, h_1, h_2]) | (have h_2 := trivial)) <;>
  (first | (apply J2 <;> intro h_3 <;> simp -implicitDefEqProofs -dsimp only [go_sem, seval, h_1, h_2, h_3]) | (have h_3 := trivial)) <;>
  (first | (apply J2 <;> intro h_4 <;> simp -implicitDefEqProofs -dsimp only [go_sem, seval, h_1, h_2, h_3, h_4]) | (have h_4 := trivial)) <;>
  (first | (apply J2 <;> intro h_5 <;> simp -implicitDefEqProofs -dsimp only [go_sem, seval, h_1, h_2, h_3, h_4, h_5]) | (have h_5 := trivial))
 all_goals (refine J9 ?_; simp_all [qyh, z4n] <;> omega)
def q94 (n : Int) : Bool := decide (0 <= n) && decide (n <= 1048576)
theorem q7t (n : Int) : PCalls prog q7f [.i .i64 n] (.b (q94 n)) := by
 refine K6 U7 qp0 (by simp) fun T => ?_
 unfold qht
 simp -implicitDefEqProofs -dsimp only [go_sem, seval]
 (first | (apply J2 <;> intro h_1 <;> simp -implicitDefEqProofs -dsimp only [go_sem, seval, h_1]) | (have h_1 := trivial)) <;>
  (first | (apply J2 <;> intro h_2 <;> simp -implicitDefEqProofs -dsimp only [go_sem, seval, h_1, h_2]) | (have h_2 := trivial)) <;>
  (first | (apply J2 <;> intro h_3 <;> simp -implicitDefEqProofs -dsimp only [go_sem, seval, h_1, h_2, h_3]) | (have h_3 := trivial))
 all_goals (refine J9 ?_; simp_all [q94] <;> omega)
def qhy (n : Int) : Bool := decide (0 <= n) && decide (n < 5)
theorem V9 (r n : Int) : PCalls prog q2j [.agg [.i .u64 r, .i .i64 n]] (.b (qhy n)) := by
 refine K6 U7 qhe (by simp) fun T => ?_
 unfold qal
 simp -implicitDefEqProofs -dsimp only [go_sem, seval]
 (first | (apply J2 <;> intro h_1 <;> simp -implicitDefEqProofs -dsimp only [go_sem, seval, h_1]) | (have h_1 := trivial)) <;>
  (first | (apply J2 <;> intro h_2 <;> simp -implicitDefEqProofs -dsimp only [go_sem, seval, h_1, h_2]) | (have h_2 := trivial)) <;>
  (first | (apply J2 <;> intro h_3 <;> simp -implicitDefEqProofs -dsimp only [go_sem, seval, h_1, h_2, h_3]) | (have h_3 := trivial))
 all_goals (refine J9 ?_; simp_all [qhy] <;> omega)
def qyi (v : Vt) : Bool := q94 v.sl && (qhy v.nd && decide ((v.v.length : Int) <= 64))
theorem qtr (v : Vt) : PCalls prog q65 [.agg (vtC v)] (.b (qyi v)) := by
 refine K6 U7 qk4 (by simp) fun T => ?_
 unfold qc2
 simp -implicitDefEqProofs -dsimp only [go_sem, seval, vtC]
 (first | (apply J2 <;> intro h_1 <;> simp -implicitDefEqProofs -dsimp only [go_sem, seval, ↓J0 _ _ N0, h_1]) | (refine CallK.pure (V9 _ _) (J1 ?_); simp -implicitDefEqProofs -dsimp only [go_sem, seval, ↓J0 _ _ N0]; have h_1 := trivial) | (have h_1 := trivial)) <;>
  (first | (apply J2 <;> intro h_2 <;> simp -implicitDefEqProofs -dsimp only [go_sem, seval, ↓J0 _ _ N0, h_1, h_2]) | (refine CallK.pure (V9 _ _) (J1 ?_); simp -implicitDefEqProofs -dsimp only [go_sem, seval, ↓J0 _ _ N0, h_1]; have h_2 := trivial) | (have h_2 := trivial)) <;>
  (first | (apply J2 <;> intro h_3 <;> simp -implicitDefEqProofs -dsimp only [go_sem, seval, ↓J0 _ _ N0, h_1, h_2, h_3]) | (refine CallK.pure (V9 _ _) (J1 ?_); simp -implicitDefEqProofs -dsimp only [go_sem, seval, ↓J0 _ _ N0, h_1, h_2]; have h_3 := trivial) | (have h_3 := trivial)) <;>
  (first | (apply J2 <;> intro h_4 <;> simp -implicitDefEqProofs -dsimp only [go_sem, seval, ↓J0 _ _ N0, h_1, h_2, h_3, h_4]) | (refine CallK.pure (V9 _ _) (J1 ?_); simp -implicitDefEqProofs -dsimp only [go_sem, seval, ↓J0 _ _ N0, h_1, h_2, h_3]; have h_4 := trivial) | (have h_4 := trivial)) <;>
  (first | (apply J2 <;> intro h_5 <;> simp -implicitDefEqProofs -dsimp only [go_sem, seval, ↓J0 _ _ N0, h_1, h_2, h_3, h_4, h_5]) | (refine CallK.pure (V9 _ _) (J1 ?_); simp -implicitDefEqProofs -dsimp only [go_sem, seval, ↓J0 _ _ N0, h_1, h_2, h_3, h_4]; have h_5 := trivial) | (have h_5 := trivial)) <;>
  (first | (apply J2 <;> intro h_6 <;> simp -implicitDefEqProofs -dsimp only [go_sem, seval, ↓J0 _ _ N0, h_1, h_2, h_3, h_4, h_5, h_6]) | (refine CallK.pure (V9 _ _) (J1 ?_); simp -implicitDefEqProofs -dsimp only [go_sem, seval, ↓J0 _ _ N0, h_1, h_2, h_3, h_4, h_5]; have h_6 := trivial) | (have h_6 := trivial))
 all_goals (refine J9 ?_; simp_all [qyi, q94, qhy] <;> omega)
end Go.Aw
