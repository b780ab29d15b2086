import Derived.Test.YteiamcnjlpbihaaGreatDoorN17E12D
import Derived.Test.YteiamcnjlpbihaaGreatDoorAwD
import Derived.Test.YteiamcnjlpbihaaGreatDoorN17E12X
namespace Go.Aw
open Go
open Go.Proofs.Tryz (prog)
set_option linter.all false
set_option maxHeartbeats 4000000
theorem qvz (s : RS) : (rID s).2.1.length <= s.1.length := Nat.le_trans (U2 _ _) (U2 _ _)
theorem z0v (s : RS) : (rRd s).2.1.length <= s.1.length := Nat.le_trans (U2 _ _) (q9v _ _)
theorem z6q (s : RS) : (rWt s).2.1.length <= s.1.length := Nat.le_trans (U2 _ _) (Nat.le_trans (q9v _ _) (q9v _ _))
theorem qym {T : Tab} {id : Nat} {s : RS} (h : T id = q9a s) (hl : Len s.1.length) : ACalls prog q8o [.ptr id 0] T (fun v T' => v = .agg [.i .i64 (rID s).1.1, .i .u64 (rID s).1.2] /\ T' = rT T id (rID s).2) := by
 refine Z3 U3 qtn (by simp) ?_
 unfold qkn
 simp -implicitDefEqProofs -dsimp only [go_sem, seval, ↓J0 _ _ N8]
 refine can (q6d h 5 (by decide) hl) ?_
 simp -implicitDefEqProofs -dsimp only [go_sem, seval, ↓J0 _ _ q1n]
 refine can (zav q77 (q26 (U2 _ _) hl)) ?_
 simp -implicitDefEqProofs -dsimp only [go_sem, seval]
 exact qev (.refl _) qif
theorem z0w {R : Z1} (hR : ExtR R) {B : Tab} {id : Nat} {a b c v0 : AV} (ha : a.plain = true /\ b.plain = true /\ c.plain = true /\ v0.plain = true) : ∀ (n : Nat) (s : RS) (os : List Rd) (v : AV) (T1 : Tab), n <= 8 -> os.length + n <= 1000 -> Len s.1.length ->
  Own (rT B id s) 2 v os.length (os.flatMap rdC) T1 ->
  (∀ v T1 m, Own (rT B id (Y5 rRd n s).2) 2 v (os ++ (Y5 rRd n s).1).length ((os ++ (Y5 rRd n s).1).flatMap rdC) T1 -> R (.exit 0) [(0, .ptr id 0), (2, .lp 2 0), (4, .lp 4 0), (5, .i .i64 m), (23, .b false)] [(2, zTx), (4, [a, b, c, v, v0])] T1) ->
  AW prog qbm R [(0, .ptr id 0), (2, .lp 2 0), (4, .lp 4 0), (5, .i .i64 n)] [(2, zTx), (4, [a, b, c, v, v0])] T1 := by
 obtain ⟨a1, a2, a3, a4⟩ := ha
 intro n
 induction n with
 | zero =>
  intro s os v T1 hn hos hl ho h2
  obtain ⟨p1, p2, p3, p4, p5, p6⟩ := ho.form
  refine Q5 hR ?_
  unfold qaw
  simp -implicitDefEqProofs -dsimp only [go_sem, seval, show ((0 : Nat) : Int) = 0 from rfl, ↓Q1, G6, true_and, decide_false]
  exact h2 v T1 0 (by simpa [Y5] using ho)
 | succ n ih =>
  intro s os v T1 hn hos hl ho h2
  obtain ⟨p1, p2, p3, p4, p5, p6⟩ := ho.form
  have hpos : decide ((0 : Int) < ((n + 1 : Nat) : Int)) = true := decide_eq_true (by omega)
  refine O0 (l := qbm) rfl hR ?_
  unfold qaw
  simp -implicitDefEqProofs -dsimp only [go_sem, seval, hpos, ↓Q1, G6, true_and, ↓J0 _ _ Y2]
  refine can (qig ho.rdAt) ?_
  rcases hb : s.2 with _ | _
  case true =>
   have e : Y5 rRd (n + 1) s = ([], s) := by simp [Y5, hb]
   rw [e] at h2
   simp -implicitDefEqProofs -dsimp only [go_sem, seval, hb]
   exact h2 v T1 _ (by simpa using ho)
  have e : Y5 rRd (n + 1) s = ((rRd s).1 :: (Y5 rRd n (rRd s).2).1, (Y5 rRd n (rRd s).2).2) := by simp [Y5, hb]
  rw [e] at h2
  have ho1 := ho.rd (q2f 32 s).2
  have ho2 := ho1.rd (rRd s).2
  have l1 := q26 (q9v 32 s) hl
  simp -implicitDefEqProofs -dsimp only [go_sem, seval, hb, p1, p2, p3, p4, p5, p6, ↓J0 _ _ q25]
  refine can (qot ho.rdAt 32 (by decide) hl) ?_
  simp -implicitDefEqProofs -dsimp only [go_sem, seval, p1, p2, p3, p4, p5, p6, ↓J0 _ _ q1n]
  refine can (zav ho1.rdAt l1) ?_
  simp -implicitDefEqProofs -dsimp only [go_sem, seval, p1, p2, p3, p4, p5, p6, a1, a2, a3, a4]
  refine ho2.app (m := 1) (news := rdC (rRd s).1) rfl rfl (by omega) (by omega) fun v2 T2 ho => J1 ?_
  obtain ⟨p1, p2, p3, p4, p5, p6⟩ := ho.form
  simp -implicitDefEqProofs -dsimp only [go_sem, seval, p1, p2, p3, p4, p5, p6, a1, a2, a3, a4]
  rw [qex (by omega)]
  refine ih (rRd s).2 (os ++ [(rRd s).1]) v2 T2 (by omega) (by simp; omega) (q26 (z0v s) hl) (by simpa using ho) fun v T1 m ho => h2 v T1 m ?_
  simpa only [List.append_assoc, List.cons_append, List.nil_append] using ho
theorem z0x {R : Z1} (hR : ExtR R) {B : Tab} {id : Nat} {a b c v0 : AV} (ha : a.plain = true /\ b.plain = true /\ c.plain = true /\ v0.plain = true) : ∀ (n : Nat) (s : RS) (os : List Wt) (v : AV) (T1 : Tab), n <= 8 -> os.length + n <= 1000 -> Len s.1.length ->
  Own (rT B id s) 3 v os.length (os.flatMap wtC) T1 ->
  (∀ v T1 m, Own (rT B id (Y5 rWt n s).2) 3 v (os ++ (Y5 rWt n s).1).length ((os ++ (Y5 rWt n s).1).flatMap wtC) T1 -> R (.exit 2) [(0, .ptr id 0), (2, .lp 2 0), (4, .lp 4 0), (7, .i .i64 m), (46, .b false)] [(2, zTx), (4, [a, b, c, v0, v])] T1) ->
  AW prog qbn R [(0, .ptr id 0), (2, .lp 2 0), (4, .lp 4 0), (7, .i .i64 n)] [(2, zTx), (4, [a, b, c, v0, v])] T1 := by
 obtain ⟨a1, a2, a3, a4⟩ := ha
 intro n
 induction n with
 | zero =>
  intro s os v T1 hn hos hl ho h2
  obtain ⟨p1, p2, p3, p4, p5, p6⟩ := ho.form
  refine Q5 hR ?_
  unfold qax
  simp -implicitDefEqProofs -dsimp only [go_sem, seval, show ((0 : Nat) : Int) = 0 from rfl, ↓Q1, G6, true_and, decide_false]
  exact h2 v T1 0 (by simpa [Y5] using ho)
 | succ n ih =>
  intro s os v T1 hn hos hl ho h2
  obtain ⟨p1, p2, p3, p4, p5, p6⟩ := ho.form
  have hpos : decide ((0 : Int) < ((n + 1 : Nat) : Int)) = true := decide_eq_true (by omega)
  refine O0 (l := qbn) rfl hR ?_
  unfold qax
  simp -implicitDefEqProofs -dsimp only [go_sem, seval, hpos, ↓Q1, G6, true_and, ↓J0 _ _ Y2]
  refine can (qig ho.rdAt) ?_
  rcases hb : s.2 with _ | _
  case true =>
   have e : Y5 rWt (n + 1) s = ([], s) := by simp [Y5, hb]
   rw [e] at h2
   simp -implicitDefEqProofs -dsimp only [go_sem, seval, hb]
   exact h2 v T1 _ (by simpa using ho)
  have e : Y5 rWt (n + 1) s = ((rWt s).1 :: (Y5 rWt n (rWt s).2).1, (Y5 rWt n (rWt s).2).2) := by simp [Y5, hb]
  rw [e] at h2
  have ho1 := ho.rd (q2f 32 s).2
  have ho2 := ho1.rd (q2f 64 (q2f 32 s).2).2
  have ho3 := ho2.rd (rWt s).2
  have l1 := q26 (q9v 32 s) hl
  have l2 := q26 (q9v 64 _) l1
  simp -implicitDefEqProofs -dsimp only [go_sem, seval, hb, p1, p2, p3, p4, p5, p6, ↓J0 _ _ q25]
  refine can (qot ho.rdAt 32 (by decide) hl) ?_
  simp -implicitDefEqProofs -dsimp only [go_sem, seval, p1, p2, p3, p4, p5, p6, ↓J0 _ _ q25]
  refine can (qot ho1.rdAt 64 (by decide) l1) ?_
  simp -implicitDefEqProofs -dsimp only [go_sem, seval, p1, p2, p3, p4, p5, p6, ↓J0 _ _ q60]
  refine can (qvw ho2.rdAt l2) ?_
  simp -implicitDefEqProofs -dsimp only [go_sem, seval, p1, p2, p3, p4, p5, p6, a1, a2, a3, a4]
  refine ho3.app (m := 1) (news := wtC (rWt s).1) rfl rfl (by omega) (by omega) fun v2 T2 ho => J1 ?_
  obtain ⟨p1, p2, p3, p4, p5, p6⟩ := ho.form
  simp -implicitDefEqProofs -dsimp only [go_sem, seval, p1, p2, p3, p4, p5, p6, a1, a2, a3, a4]
  rw [qex (by omega)]
  refine ih (rWt s).2 (os ++ [(rWt s).1]) v2 T2 (by omega) (by simp; omega) (q26 (z6q s) hl) (by simpa using ho) fun v T1 m ho => h2 v T1 m ?_
  simpa only [List.append_assoc, List.cons_append, List.nil_append] using ho
theorem qyn (s : RS) : (q2f 32 s).1.length <= 32 := qmk 32 s
theorem qw0 (s : RS) : (rTx s).1.Fine := by
 refine ⟨?_, ?_, ?_, ?_, ?_⟩
 ·have h1 := qix (f := rRd) (K2 8 (K2 1 (rID s).2).2).1 (K2 8 (K2 1 (rID s).2).2).2
  have h2 := q1d 8 (K2 1 (rID s).2).2
  show (Y5 rRd _ _).1.length < _; omega
 ·have h1 := qix (f := rWt) (K2 8 (Y5 rRd (K2 8 (K2 1 (rID s).2).2).1 (K2 8 (K2 1 (rID s).2).2).2).2).1 (K2 8 (Y5 rRd (K2 8 (K2 1 (rID s).2).2).1 (K2 8 (K2 1 (rID s).2).2).2).2).2
  have h2 := q1d 8 (Y5 rRd (K2 8 (K2 1 (rID s).2).2).1 (K2 8 (K2 1 (rID s).2).2).2).2
  show (Y5 rWt _ _).1.length < _; omega
 ·exact qcl (p := fun r : Rd => Len r.k.length) (fun s => by have := qyn s; show Len (q2f 32 s).1.length; unfold Len; omega) _ _
 ·exact qcl (p := fun r : Wt => Len r.k.length) (fun s => by have := qyn s; show Len (q2f 32 s).1.length; unfold Len; omega) _ _
 ·exact qcl (p := fun r : Wt => Len r.v.length) (fun s => by have := qmk 64 (q2f 32 s).2; show Len (q2f 64 (q2f 32 s).2).1.length; unfold Len; omega) _ _
def q9o : Tx := ⟨0, 0, false, [], []⟩
def qqb (s : RS) : Bool := !(rTx s).2.2 && qqi (rTx s).1
def q3e (s : RS) : Tx × AV := if qqb s = true then ((rTx s).1, .nilifc) else (q9o, q85 [116, 120, 110] (qs9 3))
theorem quj {T : Tab} {id : Nat} {s : RS} (h : T id = q9a s) (hl : Len s.1.length) : ACalls prog q7a [.ptr id 0] T (fun v T' => v = .tup [.agg ((q3e s).1.cells none none), (q3e s).2] /\ T' = rT T id (rTx s).2) := by
 refine Z3 U3 qrq (by simp) ?_
 have l1 := q26 (qvz s) hl
 have l2 := q26 (U2 1 _) l1
 have l3 := q26 (U2 8 _) l2
 have l4 := q26 (q9w z0v (K2 8 (K2 1 (rID s).2).2).1 _) l3
 have l5 := q26 (U2 8 _) l4
 have b1 := q1d 8 (K2 1 (rID s).2).2
 have b2 := q1d 8 (Y5 rRd (K2 8 (K2 1 (rID s).2).2).1 (K2 8 (K2 1 (rID s).2).2).2).2
 have hf := qw0 s
 unfold qib
 simp -implicitDefEqProofs -dsimp only [go_sem, seval, ↓J0 _ _ qko]
 refine can (qym h hl) ?_
 simp -implicitDefEqProofs -dsimp only [go_sem, seval, ↓J0 _ _ q60]
 refine can (qvw q77 l1) ?_
 simp -implicitDefEqProofs -dsimp only [go_sem, seval, qif, ↓J0 _ _ N8]
 refine can (q6d q77 8 (by decide) l2) ?_
 simp -implicitDefEqProofs -dsimp only [go_sem, seval, qif]
 refine z0w (B := T) (by repeat' (first | exact N2 _ _ | assumption | apply N1 | apply K9 | apply Q3)) ⟨rfl, rfl, rfl, rfl⟩ _ _ [] _ _ b1 (by simp; omega) l3 (.nil ..) (fun v1 T1 m o1 => ?_)
 obtain ⟨p1, p2, p3, p4, p5, p6⟩ := o1.form
 have o1' := o1.rd (K2 8 (Y5 rRd (K2 8 (K2 1 (rID s).2).2).1 (K2 8 (K2 1 (rID s).2).2).2).2).2
 simp -implicitDefEqProofs -dsimp only [go_sem, seval, p1, p2, p3, p4, p5, p6, ↓J0 _ _ N8]
 refine can (q6d o1.rdAt 8 (by decide) l4) ?_
 simp -implicitDefEqProofs -dsimp only [go_sem, seval, p1, p2, p3, p4, p5, p6]
 refine z0x (B := T1) (by repeat' (first | exact N2 _ _ | assumption | apply N1 | apply K9 | apply Q3)) ⟨rfl, rfl, rfl, p1⟩ _ _ [] _ _ b2 (by simp; omega) l5 (.nil ..) (fun v2 T2 m o2 => ?_)
 obtain ⟨q1, q2, q3, q4, q5, q6⟩ := o2.form
 have o1'' := o1.rd (rTx s).2
 have how : Owns (rT T id (rTx s).2) [⟨3, v2, (rTx s).1.ws.length, (rTx s).1.ws.flatMap wtC⟩, ⟨2, v1, (rTx s).1.rs.length, (rTx s).1.rs.flatMap rdC⟩] T2 := ⟨_, ⟨_, rfl, o1''⟩, o2⟩
 simp -implicitDefEqProofs -dsimp only [go_sem, seval, p1, p2, p3, p4, p5, p6, q1, q2, q3, q4, q5, q6, ↓J0 _ _ Y2]
 refine can (qig o2.rdAt) ?_
 have hbad : (Y5 rWt (K2 8 (Y5 rRd (K2 8 (K2 1 (rID s).2).2).1 (K2 8 (K2 1 (rID s).2).2).2).2).1 (K2 8 (Y5 rRd (K2 8 (K2 1 (rID s).2).2).1 (K2 8 (K2 1 (rID s).2).2).2).2).2).2.2 = (rTx s).2.2 := rfl
 rw [hbad]
 have errEnd : qqb s = false -> qta (.tup [.agg [.i .i64 0, .i .u64 0, .b false, .fz 0 [] (some 0), .fz 0 [] (some 0)], q85 [116, 120, 110] (qs9 3)]) (fun v T' => v = .tup [.agg ((q3e s).1.cells none none), (q3e s).2] /\ T' = rT T id (rTx s).2) T2 := by
  intro hb
  refine q1f how fun S hS => ?_
  simp only [q3e, hb, Bool.false_eq_true, if_false, qo7, qdf, q85, qs9, List.map_cons, List.map_nil, qcj, qeu, qkw, z5g, z5f]
  exact Wk.tup ⟨Wk.agg Wks.tx, .refl _, trivial⟩
 have cN := qou [116, 120, 110] 3
 rw [if_neg (by decide)] at cN
 rcases hb : (rTx s).2.2 with _ | _
 ·simp -implicitDefEqProofs -dsimp only [go_sem, seval, hb, p1, p2, p3, p4, p5, p6, q1, q2, q3, q4, q5, q6, ↓Q1, G6, true_and, ↓J0 _ _ Z8]
  refine CallK.borrow (r := .b (qqi (rTx s).1)) how (fun S hS => ?_) .b (J1 ?_)
  ·obtain ⟨c1, e1⟩ := hS _ (List.mem_cons_of_mem _ (List.mem_cons_self ..))
   obtain ⟨c2, e2⟩ := hS _ (List.mem_cons_self ..)
   simp only at e1 e2
   have := qm1 (rTx s).1 c1 c2 hf
   simp only [Tx.cells] at this
   simp only [List.map_cons, List.map_nil, qdf, qcj, qeu, e1, e2]
   exact this
  rcases hok : qqi (rTx s).1 with _ | _
  ·simp -implicitDefEqProofs -dsimp only [go_sem, seval, hb, hok, p1, p2, p3, p4, p5, p6, q1, q2, q3, q4, q5, q6, ↓Q1, G6, true_and, ↓J0 _ _ q0g]
   refine cpn cN ?_
   simp -implicitDefEqProofs -dsimp only [go_sem, seval, q85, zTx]
   exact errEnd (by simp [qqb, hb, hok])
  ·simp -implicitDefEqProofs -dsimp only [go_sem, seval, hb, hok, zTx, p1, p2, p3, p4, p5, p6, q1, q2, q3, q4, q5, q6, ↓Q1, G6, true_and]
   have hk : qqb s = true := by simp [qqb, hb, hok]
   refine q1f how fun S hS => ?_
   obtain ⟨c1, e1⟩ := hS _ (List.mem_cons_of_mem _ (List.mem_cons_self ..))
   obtain ⟨c2, e2⟩ := hS _ (List.mem_cons_self ..)
   simp only at e1 e2
   simp only [q3e, hk, if_true, qo7, qdf, List.map_cons, List.map_nil, qcj, qeu, e1, e2, z5e]
   exact Wk.tup ⟨Wk.agg Wks.tx, .refl _, trivial⟩
 ·simp -implicitDefEqProofs -dsimp only [go_sem, seval, hb, p1, p2, p3, p4, p5, p6, q1, q2, q3, q4, q5, q6, ↓Q1, G6, true_and, ↓J0 _ _ q0g]
  refine cpn cN ?_
  simp -implicitDefEqProofs -dsimp only [go_sem, seval, q85, zTx]
  exact errEnd (by simp [qqb, hb])
end Go.Aw
namespace Go.Aw
open Go
open Go.Proofs.Tryz (prog)
set_option linter.all false
set_option maxHeartbeats 4000000
theorem qsb : ∀ (l seen : List Bs), qd7 seen l = true -> ∀ k ∈ l, qhd k = true
 | [], _, _, k, hk => by cases hk
 | x :: l, seen, h, k, hk => by
  simp only [qd7, Bool.and_eq_true] at h
  rcases List.mem_cons.1 hk with rfl | hk
  ·exact h.1.1
  ·exact qsb l _ h.2 k hk
theorem z6r {k : Bs} (h : qhd k = true) : k.length <= 32 := by
 simp only [qhd, Bool.and_eq_true, decide_eq_true_eq] at h; omega
theorem qj6 {t : Tx} (h : qqi t = true) (hs : t.sq < 18446744073709551616) (hr : ∀ r ∈ t.rs, 0 <= r.n /\ r.n < 18446744073709551616) : t.Good := by
 simp only [qqi, qj0, Bool.and_eq_true, decide_eq_true_eq, Bool.not_eq_true', decide_eq_false_iff_not] at h
 obtain ⟨⟨⟨⟨⟨h1, h2⟩, h3⟩, h4⟩, h5⟩, ⟨h6, h7⟩, h8⟩ := h
 refine ⟨⟨h1.1.1, h1.1.2⟩, ⟨h1.2, hs⟩, by omega, by omega, fun r hm => ⟨z6r (qsb _ _ h6 _ (List.mem_map_of_mem hm)), hr r hm⟩, fun w hm => ⟨z6r (qsb _ _ h7 _ (List.mem_map_of_mem hm)), ?_⟩⟩
 have := List.all_eq_true.1 h8 w hm
 simp only [wOk, qxy, Bool.and_eq_true, decide_eq_true_eq] at this
 omega
theorem qij {t : Tx} (h : t.Good) : (qay t).length <= 2000 := by
 obtain ⟨hcl, hsq, hr, hw, hrr, hww⟩ := h
 have l1 := K5 (m := t.cl.toNat) (by omega)
 have l2 := K5 (m := t.sq.toNat) (by omega)
 have l3 := K5 (m := t.rs.length) (by omega)
 have l4 := K5 (m := t.ws.length) (by omega)
 have l5 := q2x (g := qem) t.rs fun r hr => qsa (hrr r hr)
 have l6 := q2x (g := qgt) t.ws fun r hr => qyj (hww r hr)
 simp only [qay, List.length_append, List.length_cons, List.length_nil]; omega
theorem zhe {n : Nat} {l : List UInt8} {c : Option Nat} (h : l.length = n) : AV.fz n (K8 l) c = bts l c := by subst h; rfl
end Go.Aw
namespace Go.Aw
open Go
open Go.Proofs.Tryz (prog)
set_option linter.all false
set_option maxHeartbeats 4000000
theorem z0y : K6 prog qkx = true := by kernel_rfl
def qwj : Option Er -> AV
 | none => .nilifc
 | some e => e.av
def qe5 : Option Er -> Int
 | none => 0
 | some e => e.code
theorem Er.ifc (e : Er) : ∃ t v, e.av = .ifc t v := by cases e <;> exact ⟨_, _, rfl⟩
theorem z0z (e : Option Er) : PCalls prog q9d [qwj e] (.i .i64 (qe5 e)) := by
 refine K7 U3 qxb (by simp) fun T => ?_
 unfold qp7
 cases e with
 | none =>
  simp -implicitDefEqProofs -dsimp only [go_sem, seval, qwj, qe5, qts]
  intro id hid
  refine J1 ?_
  simp -implicitDefEqProofs -dsimp only [go_sem, seval, qts]
  exact ((TabLe.refl T).put hid).fin
 | some e =>
  obtain ⟨t, v, he⟩ := e.ifc
  have ca := fun (T : Tab) id old hT => z0s (T := T) (id := id) (old := old) e hT
  simp only [qwj, qe5, he] at ca ⊢
  simp -implicitDefEqProofs -dsimp only [go_sem, seval, qts]
  intro id hid
  refine J1 ?_
  simp -implicitDefEqProofs -dsimp only [go_sem, seval, qts, ↓J0 _ _ z0y]
  refine can (ca _ id 0 (Tab.put_same ..)) ?_
  simp -implicitDefEqProofs -dsimp only [go_sem, seval, Tab.put_same]
  rw [Tab.put_put]
  exact ((TabLe.refl T).put hid).fin
theorem zax (w : List UInt8) (e : Er) : PCalls prog qez [.s w, e.av] (q85 w e.av) := by
 refine K7 U3 z39 (by simp) fun T => ?_
 obtain ⟨t, v, he⟩ := e.ifc
 rw [he]
 unfold qud
 simp -implicitDefEqProofs -dsimp only [go_sem, seval, qts]
 intro id hid
 refine J1 ?_
 simp -implicitDefEqProofs -dsimp only [go_sem, seval]
 refine ⟨[id], T, _, by simp, by simp [Tab.put_same], fun j => ?_, ?_, rfl, rfl⟩
 ·simp only [qm9]
  rw [Tab.put_put, Tab.put_self hid]; exact .inr (.inl rfl)
 ·simp only [qo7, qdf, qhg, List.mem_singleton, if_true, Tab.put_same, List.drop_zero]
  exact .refl _
def qaq (e : En) : List UInt8 := enc e.ep.toNat ++ enc e.kd.toNat ++ (if e.kd = 1 then qay e.t else enc e.cl.toNat ++ enc e.sq.toNat ++ enc e.co.toNat)
structure En.Good (e : En) : Prop where
 ep : 0 < e.ep /\ e.ep < 18446744073709551616
 kd : (e.kd = 1 /\ e.t.Good /\ qqi e.t = true /\ e.cl = 0 /\ e.sq = 0 /\ e.co = 0) \/
  (e.kd = 2 /\ e.t = q9o /\ (0 <= e.cl /\ e.cl < 6) /\ (0 < e.sq /\ e.sq < 18446744073709551616) /\ (e.co = 0 \/ e.co = 8 \/ e.co = 11))
theorem z6s {t : Tx} (h : qz2 t = true) : t = q9o := by
 obtain ⟨cl, sq, pl, rs, ws⟩ := t
 simp only [qz2, Bool.and_eq_true, decide_eq_true_eq, Bool.not_eq_true'] at h
 obtain ⟨⟨⟨rfl, rfl⟩, rfl⟩, h⟩ := h
 have h1 : rs = [] := List.length_eq_zero_iff.1 (by omega)
 have h2 : ws = [] := List.length_eq_zero_iff.1 (by omega)
 subst h1; subst h2; rfl
structure En.Rng (e : En) : Prop where
 ep : 0 <= e.ep /\ e.ep < 18446744073709551616
 tsq : e.t.sq < 18446744073709551616
 tr : ∀ r ∈ e.t.rs, 0 <= r.n /\ r.n < 18446744073709551616
 sq : e.sq < 18446744073709551616
theorem En.good_of {e : En} (h : qeo e = true) (hr : e.Rng) : e.Good := by
 obtain ⟨h1, h2, h3, h4⟩ := hr
 simp only [qeo, Bool.and_eq_true, Bool.not_eq_true', decide_eq_false_iff_not] at h
 obtain ⟨hep, h⟩ := h
 refine ⟨⟨by omega, h1.2⟩, ?_⟩
 by_cases hk : e.kd = 1
 ·rw [if_pos (by simpa using hk)] at h
  simp only [Bool.and_eq_true, decide_eq_true_eq] at h
  exact .inl ⟨hk, qj6 h.1.1 h2 h3, h.1.1, h.1.2.1, h.1.2.2, h.2⟩
 ·rw [if_neg (by simpa using hk)] at h
  simp only [Bool.and_eq_true, decide_eq_true_eq, qj0, zap, Bool.or_eq_true] at h
  obtain ⟨hk2, ⟨hn, hid⟩, hco⟩ := h
  exact .inr ⟨hk2, z6s hn, ⟨hid.1.1, hid.1.2⟩, ⟨hid.2, h4⟩, hco⟩
theorem En.Good.ok {e : En} (h : e.Good) : qeo e = true := by
 obtain ⟨h1, h2⟩ := h
 have he : decide (e.ep = 0) = false := decide_eq_false (by omega)
 rcases h2 with ⟨h3, h4, h5, h6, h7, h8⟩ | ⟨h3, h4, h5, h6, h7⟩
 ·simp [qeo, he, h3, h5, h6, h7, h8]
 ·have : qz2 e.t = true := by rw [h4]; rfl
  have e2 : qj0 e.cl e.sq = true := by simp [qj0]; omega
  have e3 : zap e.co = true := by rcases h7 with h | h | h <;> rw [h] <;> rfl
  simp [qeo, he, h3, this, e2, e3]
def rEn (s : RS) : En × RS :=
 let a := K2 18446744073709551615 s
 let k := K2 2 a.2
 if k.1 = 1 then (⟨a.1, k.1, (q3e k.2).1, 0, 0, 0⟩, (rTx k.2).2)
 else if k.1 = 2 then (⟨a.1, k.1, q9o, (rID k.2).1.1, (rID k.2).1.2, (K2 99 (rID k.2).2).1⟩, (K2 99 (rID k.2).2).2)
 else (⟨a.1, k.1, q9o, 0, 0, 0⟩, k.2)
def qqc (s : RS) : Bool := !decide ((K2 2 (K2 18446744073709551615 s).2).1 = 1) || qqb (K2 2 (K2 18446744073709551615 s).2).2
def qce (s : RS) : Bool := qqc s && (!(rEn s).2.2 && decide ((rEn s).2.1 = [])) && qeo (rEn s).1
def zay : En := ⟨0, 0, q9o, 0, 0, 0⟩
def q34 (s : RS) : Option Er := if qce s = true then none else if qqc s = false then some (.flt [101, 110, 116, 114, 121] (.flt [116, 120, 110] (.num 3))) else some (.flt [101, 110, 116, 114, 121] (.num 3))
def qan (s : RS) : En := if qce s = true then (rEn s).1 else zay
theorem z10 (s : RS) : (rEn s).1.Rng := by
 have h1 := q1d 18446744073709551615 s
 unfold rEn
 simp only
 have hz : ∀ a b c d f : Int, 0 <= a /\ a < 18446744073709551616 -> d < 18446744073709551616 -> (⟨a, b, q9o, c, d, f⟩ : En).Rng := fun a b c d f h1 h2 => ⟨h1, (by show (0 : Int) < _; decide), (fun r hr => by cases hr), h2⟩
 split
 ·have ht : ∀ t : Tx, t.sq < 18446744073709551616 -> (∀ r ∈ t.rs, 0 <= r.n /\ r.n < 18446744073709551616) -> (⟨(K2 18446744073709551615 s).1, (K2 2 (K2 18446744073709551615 s).2).1, t, 0, 0, 0⟩ : En).Rng := fun t h2 h3 => ⟨by simp only; omega, h2, h3, by show (0 : Int) < _; decide⟩
  unfold q3e
  split
  ·refine ht _ ?_ ?_
   ·have := q1d 18446744073709551615 (K2 5 (K2 2 (K2 18446744073709551615 s).2).2).2
    show ((K2 18446744073709551615 (K2 5 (K2 2 (K2 18446744073709551615 s).2).2).2).1 : Int) < _
    omega
   ·exact qcl (p := fun r : Rd => 0 <= r.n /\ r.n < 18446744073709551616) (fun s => by
     have := q1d 18446744073709551615 (q2f 32 s).2
     show 0 <= ((K2 18446744073709551615 (q2f 32 s).2).1 : Int) /\ ((K2 18446744073709551615 (q2f 32 s).2).1 : Int) < _
     omega) _ _
  ·exact ht _ (by show (0 : Int) < _; decide) (fun r hr => by cases hr)
 ·split
  ·refine hz _ _ _ _ _ (by omega) ?_
   have := q1d 18446744073709551615 (K2 5 (K2 2 (K2 18446744073709551615 s).2).2).2
   show ((K2 18446744073709551615 (K2 5 (K2 2 (K2 18446744073709551615 s).2).2).2).1 : Int) < _
   omega
  ·exact hz _ _ _ _ _ (by omega) (by decide)
theorem zcy {b : List UInt8} (h : qce (b, false) = true) : (rEn (b, false)).1.Good /\ b = qaq (rEn (b, false)).1 := by
 simp only [qce, Bool.and_eq_true, Bool.not_eq_true', decide_eq_true_eq] at h
 obtain ⟨⟨htx, hb, hnil⟩, hok⟩ := h
 have hg := En.good_of hok (z10 _)
 refine ⟨hg, ?_⟩
 unfold rEn at hb hnil hok hg ⊢
 simp only at hb hnil hok hg ⊢
 by_cases h1 : (K2 2 (K2 18446744073709551615 (b, false)).2).1 = 1
 ·rw [if_pos h1] at hb hnil ⊢
  have hk : qqb (K2 2 (K2 18446744073709551615 (b, false)).2).2 = true := by simpa [qqc, h1] using htx
  obtain ⟨i1, i2⟩ := z6i hb
  obtain ⟨i3, i4, _⟩ := V6 i1
  obtain ⟨i5, i6, _⟩ := V6 i3
  simp only at i6
  rw [hnil, List.append_nil] at i2
  rw [i2] at i4
  rw [i4, h1] at i6
  simp only [qaq, q3e, hk, if_true, Int.toNat_natCast, h1]
  simpa using i6
 ·rw [if_neg h1] at hb hnil hok ⊢
  by_cases h2 : (K2 2 (K2 18446744073709551615 (b, false)).2).1 = 2
  ·rw [if_pos h2] at hb hnil ⊢
   obtain ⟨i1, i2, _⟩ := V6 hb
   unfold rID at i1 i2 hnil ⊢
   simp only at i1 i2 hnil ⊢
   obtain ⟨i3, i4, _⟩ := V6 i1
   obtain ⟨i5, i6, _⟩ := V6 i3
   obtain ⟨i7, i8, _⟩ := V6 i5
   obtain ⟨i9, i10, _⟩ := V6 i7
   simp only at i10
   rw [hnil, List.append_nil] at i2
   rw [i2] at i4
   rw [i4] at i6
   rw [i6] at i8
   rw [i8, h2] at i10
   simp only [qaq, Int.toNat_natCast, h2]
   simpa using i10
  ·rw [if_neg h2] at hok
   exfalso
   simp only [qeo, Bool.and_eq_true] at hok
   have hle := q1d 2 (K2 18446744073709551615 (b, false)).2
   have h0 : (K2 2 (K2 18446744073709551615 (b, false)).2).1 = 0 := by omega
   rw [h0] at hok
   simp at hok
end Go.Aw
