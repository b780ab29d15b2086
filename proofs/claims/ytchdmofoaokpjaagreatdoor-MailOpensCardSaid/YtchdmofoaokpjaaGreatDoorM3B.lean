import Derived.Test.YtchdmofoaokpjaaGreatDoorM30N17T16J
import Derived.Test.YtchdmofoaokpjaaGreatDoorM30Q17N
import Derived.Test.YtchdmofoaokpjaaGreatDoorM30N17F04Y
import Derived.Test.YtchdmofoaokpjaaGreatDoorM30Q17H
import Derived.Test.YtchdmofoaokpjaaGreatDoorAwD
namespace Go.Aw
open Go
open Go.Proofs.Tryz (prog)
set_option linter.all false
set_option maxHeartbeats 4000000
end Go.Aw
namespace Go.Aw
open Go
open Go.Proofs.Tryz (prog)
set_option linter.all false
set_option maxHeartbeats 8000000
set_option maxRecDepth 8000
end Go.Aw
namespace Go.Aw
open Go
open Go.Proofs.Tryz (prog)
set_option linter.all false
set_option maxHeartbeats 8000000
set_option maxRecDepth 8000
end Go.Aw
namespace Go.Aw
open Go
open Go.Proofs.Tryz (prog)
set_option linter.all false
set_option maxHeartbeats 8000000
set_option maxRecDepth 8000
theorem qjp (b : Bs) (cap : Option Nat) (hl : b.length <= 1000000) : PCalls prog q2g [bts b cap] (.tup [.agg (loA b).cc, .i .i64 (q57 (loE b))]) := by
 refine K6 U1 qo8 (by simp) fun T => ?_
 have h := z3d b cap hl
 have hc := qt1 (loE b)
 generalize loA b = A at *
 unfold qg1
 rcases he : loE b with _ | e
 ·rw [he] at h hc
  simp only [qp6] at h hc
  generalize q57 none = C at *
  simp -implicitDefEqProofs -dsimp only [go_sem, seval, ↓J0 _ _ qg6]
  refine cpn h ?_
  simp -implicitDefEqProofs -dsimp only [go_sem, seval, ↓J0 _ _ q7p]
  refine cpn hc ?_
  simp -implicitDefEqProofs -dsimp only [go_sem, seval]
  exact J9 rfl
 ·rw [he] at h hc
  obtain ⟨t, v, ev⟩ := e.ifc
  simp only [qp6, ev] at h hc
  generalize q57 (some e) = C at *
  simp -implicitDefEqProofs -dsimp only [go_sem, seval, ↓J0 _ _ qg6]
  refine cpn h ?_
  simp -implicitDefEqProofs -dsimp only [go_sem, seval, ↓J0 _ _ q7p]
  refine cpn hc ?_
  simp -implicitDefEqProofs -dsimp only [go_sem, seval]
  exact J9 rfl
theorem z0e {o : Lt Cf} (h : lrF o = true) (hr : o.Rng) : loA (frm (q26 o)) = o /\ loE (frm (q26 o)) = none := by
 have hl := q95 hr h
 obtain ⟨e1, e2⟩ := zb2 (p := q26 o) (by omega)
 have e3 := z6s hr h
 have e4 : lOk (q26 o, false) = true := by unfold lOk; rw [e3, h]; rfl
 unfold loA loE
 rw [e1, e2, e4, e3]
 exact ⟨rfl, rfl⟩
end Go.Aw
namespace Go.Aw
open Go
open Go.Proofs.Tryz (prog)
set_option linter.all false
set_option maxHeartbeats 8000000
set_option maxRecDepth 8000
theorem z6w {T : Tab} (p : List UInt8) (cap : Option Nat) (hp : qmp p = true) : ACalls prog q8j [bts p cap] T (fun r T' => ∃ v, r = .tup [v, .i .i64 0] /\ Own T 1 v (frm p).length (K8 (frm p)) T') := by
 simp only [qmp, Bool.and_eq_true, decide_eq_true_eq] at hp
 obtain ⟨h1, h2⟩ := hp
 refine U7 U1 qkj (by simp) ?_
 unfold qf1
 have d1 : decide ((p.length : Int) < 1) = false := decide_eq_false (by omega)
 have d2 : decide ((65535 : Int) < p.length) = false := decide_eq_false (by omega)
 have c1 := qr6 [hiB p.length, loB p.length] p (some 2) cap (by simp) (by omega)
 have c2 := qt5 (hiB p.length :: loB p.length :: p) none (by simp only [List.length_cons]; omega)
 simp -implicitDefEqProofs -dsimp only [go_sem, seval, d1, d2, zeo _ h2, zep, ↓J0 _ _ q5q]
 refine cpn c1 ?_
 simp -implicitDefEqProofs -dsimp only [go_sem, seval, ↓J0 _ _ qhg]
 refine cpn c2 ?_
 have hsl : (q6a (hiB p.length :: loB p.length :: p)).length = p.length + 6 := by simp only [q6a, List.length_append, qd9, List.length_cons]
 have hg : Gr T 1 (.fz 1 [.i .u8 197] (some 1)) 1 (K8 [197]) T := .inr ⟨rfl, rfl, rfl⟩
 simp -implicitDefEqProofs -dsimp only [go_sem, seval]
 refine hg.app (m := (q6a (hiB p.length :: loB p.length :: p)).length) (q77 _ _) rfl (by omega) (by omega) (by omega) fun v' T2 ho => J1 ?_
 obtain ⟨p1, p2, p3, p4, p5, p6⟩ := ho.form
 simp -implicitDefEqProofs -dsimp only [go_sem, seval, p1, p2, p3, p4, p5, p6]
 refine Y3 _ (fun _ => .inr (.inl rfl)) ⟨v', rfl, ?_⟩
 rw [q0v, show 1 + (q6a (hiB p.length :: loB p.length :: p)).length = (frm p).length by simp only [frm, List.length_cons]; omega] at ho
 exact ho
theorem z3e {T : Tab} (l : Lt Cf) (hs : l.Small) (ht : l.t.Fine) (hr : l.Rng) (h : lrF l = true) : ACalls prog q7i [.agg l.cc] T (fun r T' => ∃ v, r = .tup [v, .i .i64 0] /\ Own T 1 v (frm (q26 l)).length (K8 (frm (q26 l))) T') := by
 refine U7 U1 qi0 (by simp) ?_
 have hri := qle l hs ht
 unfold qck
 simp -implicitDefEqProofs -dsimp only [go_sem, seval, ↓J0 _ _ q9r]
 refine cpn hri ?_
 rw [h]
 have hpo : qmp (q26 l) = true := by
  have := q95 hr h
  simp only [qmp, Bool.and_eq_true, decide_eq_true_eq]; omega
 have hp := fun c => z6w (T := T) (q26 l) c hpo
 obtain ⟨h1, h2, h3, h4, h5⟩ := qh1 h
 have a1 := qnl h2
 have a2 := qnl h3
 have hk := h1
 simp only [qop, decide_eq_true_eq] at hk
 have l1 := K5 (m := l.fk.toNat) (by omega)
 have l2 := K5 (m := l.fn.toNat) (by omega)
 have l3 := K5 (m := l.tk.toNat) (by omega)
 have l4 := K5 (m := l.tn.toNat) (by omega)
 have l5 := K5 (m := l.k.toNat) (by omega)
 have s1 := (qbp l.k).1
 have s2 := (qbp l.k).2
 have hsl := qoq l.k
 have e5 : qth [l.fk, l.fn, l.tk, l.tn, l.k] = enc l.fk.toNat ++ enc l.fn.toNat ++ enc l.tk.toNat ++ enc l.tn.toNat ++ enc l.k.toNat := by simp [qth]
 have key := fun (R : G9) (hR : ExtR R) h => z00 (R := R) hR (T := T) (lc := l.cells cfC) (sg := .s (qc5 l.k)) ⟨rfl, rfl, fun _ => rfl⟩ (xs := [l.fk, l.fn, l.tk, l.tn, l.k]) (q := some 5) (show 5 <= 10 by decide) (by
  intro x hx
  simp only [List.mem_cons, List.not_mem_nil, or_false] at hx
  rcases hx with rfl | rfl | rfl | rfl | rfl <;> omega) [l.fk, l.fn, l.tk, l.tn, l.k] 0 rfl (Nat.zero_le _) [] (some 0) (Nat.zero_le _) h
 simp -implicitDefEqProofs -dsimp only [go_sem, seval, ↓J0 _ _ q6x]
 refine cpn (qgr l.k) ?_
 simp -implicitDefEqProofs -dsimp only [go_sem, seval]
 refine key _ (by repeat' (first | exact O6 _ _ | assumption | apply O5 | apply N4 | apply V8)) (fun c => ?_)
 rw [e5, List.nil_append]
 simp -implicitDefEqProofs -dsimp only [go_sem, seval]
 refine qzz (T := T) (bs := qc5 l.k) (by repeat' (first | exact O6 _ _ | assumption | apply O5 | apply N4 | apply V8)) (by unfold Len; omega) hr ht (qc5 l.k) 0 rfl (Nat.zero_le _) s1 h5 _ c (by simp only [List.length_append]; omega) (fun _ c => ?_)
 simp -implicitDefEqProofs -dsimp only [go_sem, seval, ↓J0 _ _ qkk]
 refine CallK.of (hp c) (fun r T' ⟨v, e, ho⟩ => J1 ?_)
 subst e
 obtain ⟨p1, p2, p3, p4, p5, p6⟩ := ho.form
 simp -implicitDefEqProofs -dsimp only [go_sem, seval, p1, p2, p3, p4, p5, p6]
 exact Y3 _ (fun _ => .inr (.inl rfl)) ⟨v, rfl, ho⟩
end Go.Aw
namespace Go.Aw
open Go
open Go.Proofs.Tryz (prog)
set_option linter.all false
set_option maxHeartbeats 8000000
set_option maxRecDepth 8000
structure Sn where
 k : Int
 n : Int
 id : Nat
 b : Bs
def Sn.cells (s : Sn) : List AV := [.i .i64 s.k, .i .i64 s.n, .sl s.id 0 s.b.length none]
def snC (l : List Sn) : List AV := l.flatMap Sn.cells
theorem q1t (l : List Sn) : (snC l).length = l.length * 3 := Q5 (f := Sn.cells) (z := 3) (fun _ => rfl) l
theorem z48 {l : List Sn} {k : Nat} {s : Sn} (h : l[k]? = some s) : (snC l).drop (k * 3) = s.cells ++ snC (l.drop (k + 1)) := q08 (f := Sn.cells) (z := 3) (fun _ => rfl) h
theorem qhq (a b : List Sn) : snC (a ++ b) = snC a ++ snC b := List.flatMap_append
def TabEq (B T : Tab) : Prop := ∀ j, B j ≠ .unused -> T j = B j
theorem TabEq.refl (T : Tab) : TabEq T T := fun _ _ => rfl
theorem TabEq.put {B T : Tab} {id : Nat} {s : Slot} (h : TabEq B T) (hid : B id = .unused) : TabEq B (T.put id s) := fun j hj => by
 have hne : j ≠ id := fun e => hj (by rw [e]; exact hid)
 rw [Tab.put_ne _ _ hne]; exact h j hj
theorem TabEq.unused {B T : Tab} {id : Nat} (h : TabEq B T) (hid : T id = .unused) : B id = .unused := Classical.byContradiction fun e => e ((h id e).symm.trans hid)
theorem TabEq.le {B T : Tab} (h : TabEq B T) : TabLe B T := fun j => by
 by_cases e : B j = .unused
 ·exact .inl e
 ·exact .inr (.inl (h j e).symm)
structure MS (B T : Tab) (id : Nat) (most : Int) (l : List Sn) (v : AV) : Prop where
 row : T id = .row 2 [.i .i64 most, v]
 sl : (v = .fz 0 [] (some 0) /\ l = []) \/ ∃ idC junk j, v = .sl idC 0 l.length none /\ T idC = .row 3 (snC l ++ junk) /\ junk.length = j * 3 /\ B idC = .unused /\ idC ≠ id /\ ∀ s ∈ l, s.id ≠ idC
 bid : B id = .unused
 byt : ∀ s ∈ l, T s.id = .row 1 (K8 s.b) /\ B s.id = .unused /\ s.id ≠ id /\ 0 < s.b.length /\ s.b.length <= 70000
 nd : (l.map Sn.id).Nodup
 le : TabEq B T
 len : l.length <= 2000
 mo : 1 <= most /\ most <= 2000
def clM (n : Int) : Int := if 2000 < if 1 > n then 1 else n then 2000 else if 1 > n then 1 else n
theorem zb3 (n : Int) : 1 <= clM n /\ clM n <= 2000 := by
 unfold clM
 by_cases h : 1 > n
 ·rw [if_pos h]; decide
 ·rw [if_neg h]
  split <;> omega
theorem MS.base {B T : Tab} {id : Nat} {most : Int} {l : List Sn} {v : AV} (h : MS B T id most l v) {j : Nat} (hj : T j = .unused) (s : Slot) (hs : s ≠ .unused) : MS (B.put j s) (T.put j s) id most l v := by
 have ne : ∀ i, T i ≠ .unused -> i ≠ j := fun i hi e => hi (e ▸ hj)
 have n1 := ne id (by rw [h.row]; simp)
 refine ⟨by rw [Tab.put_ne _ _ n1]; exact h.row, ?_, by rw [Tab.put_ne _ _ n1]; exact h.bid, fun x hx => ?_, h.nd, fun i hi => ?_, h.len, h.mo⟩
 ·rcases h.sl with q | ⟨idC, junk, m, q1, q2, q3, q4, q5, q6⟩
  ·exact .inl q
  ·have n2 := ne idC (by rw [q2]; simp)
   exact .inr ⟨idC, junk, m, q1, by rw [Tab.put_ne _ _ n2]; exact q2, q3, by rw [Tab.put_ne _ _ n2]; exact q4, q5, q6⟩
 ·obtain ⟨q1, q2, q3, q4⟩ := h.byt x hx
  have n3 := ne x.id (by rw [q1]; simp)
  exact ⟨by rw [Tab.put_ne _ _ n3]; exact q1, by rw [Tab.put_ne _ _ n3]; exact q2, q3, q4⟩
 ·by_cases e : i = j
  ·subst e; rw [Tab.put_same, Tab.put_same]
  ·rw [Tab.put_ne _ _ e] at hi ⊢; rw [Tab.put_ne _ _ e]; exact h.le i hi
theorem z0f {T : Tab} (n : Int) : ACalls prog qaa [.i .i64 n] T (fun r T' => ∃ id, r = .ptr id 0 /\ MS T T' id (clM n) [] (.fz 0 [] (some 0)) /\ T' = T.put id (.row 2 [.i .i64 (clM n), .fz 0 [] (some 0)])) := by
 refine U7 U1 qvo (by simp) ?_
 unfold qna
 simp -implicitDefEqProofs -dsimp only [go_sem, seval]
 intro id hid
 refine J1 ?_
 simp -implicitDefEqProofs -dsimp only [go_sem, seval]
 refine Y3 _ (fun _ => .inr (.inl rfl)) ⟨id, rfl, ?_, rfl⟩
 exact ⟨Tab.put_same .., .inl ⟨rfl, rfl⟩, hid, fun s hs => (by cases hs), List.nodup_nil, (TabEq.refl T).put hid, by simp, zb3 n⟩
theorem qp3 {B T : Tab} {id : Nat} {most : Int} {l : List Sn} {v : AV} (h : MS B T id most l v) : ACalls prog q34 [.ptr id 0] T (fun r T' => r = .i .i64 l.length /\ T' = T) := by
 have t1 := h.row
 refine U7 U1 qke (by simp) ?_
 unfold qcj
 rcases h.sl with ⟨rfl, rfl⟩ | ⟨idC, junk, m, rfl, q2, q3, q4, q5, q6⟩
 ·simp -implicitDefEqProofs -dsimp only [go_sem, seval, t1]
  exact q82 (.refl _) rfl
 ·simp -implicitDefEqProofs -dsimp only [go_sem, seval, t1]
  exact q82 (.refl _) rfl
theorem zb4 {n : Nat} (h0 : 0 < n) (hn : n <= 2000) (k : Int) : Int.tmod (IntKind.i64.wrap (Int.tmod k n + n)) n = k % n := by
 have h1 : -(n : Int) < Int.tmod k n /\ Int.tmod k n < n := by
  have := Int.tmod_lt_of_pos k (show (0 : Int) < n by omega)
  have := Int.lt_tmod_of_pos k (show (0 : Int) < n by omega)
  omega
 rw [q0c (by unfold I64; omega), Int.tmod_eq_emod_of_nonneg (by omega), Int.add_emod_right]
 have h2 := Int.tmod_add_mul_tdiv k n
 conv => rhs; rw [<- h2]
 rw [Int.add_mul_emod_self_left]
def plR (n : Nat) (k : Int) : AV := if n = 0 then .tup [.i .i64 0, .b false] else .tup [.i .i64 (k % n), .b true]
theorem qly {B T : Tab} {id : Nat} {most : Int} {l : List Sn} {v : AV} (h : MS B T id most l v) (k : Int) : ACalls prog q1x [.ptr id 0, .i .i64 k] T (fun r T' => r = plR l.length k /\ T' = T) := by
 have hL := qp3 h
 have hl := h.len
 refine U7 U1 qhd (by simp) ?_
 unfold qaf plR
 by_cases h0 : l.length = 0
 ·have d0 : decide ((l.length : Int) = 0) = true := decide_eq_true (by omega)
  rw [if_pos h0]
  simp -implicitDefEqProofs -dsimp only [go_sem, seval, ↓J0 _ _ q4n]
  refine can hL ?_
  simp -implicitDefEqProofs -dsimp only [go_sem, seval, d0]
  exact q82 (.refl _) rfl
 ·have d0 : decide ((l.length : Int) = 0) = false := decide_eq_false (by omega)
  have z0 : ((l.length : Int) = 0) = False := eq_false (by omega)
  rw [if_neg h0]
  simp -implicitDefEqProofs -dsimp only [go_sem, seval, ↓J0 _ _ q4n]
  refine can hL ?_
  simp -implicitDefEqProofs -dsimp only [go_sem, seval, d0, z0, zb4 (by omega) hl]
  exact q82 (.refl _) rfl
end Go.Aw
