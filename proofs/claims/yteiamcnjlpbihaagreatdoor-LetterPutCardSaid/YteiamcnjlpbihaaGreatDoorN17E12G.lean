import Derived.Test.YteiamcnjlpbihaaGreatDoorN17E12D
import Derived.Test.YteiamcnjlpbihaaGreatDoorAwD
import Derived.Test.YteiamcnjlpbihaaGreatDoorN17E12X
namespace Go.Aw
open Go
open Go.Proofs.Tryz (prog)
set_option linter.all false
set_option maxHeartbeats 4000000
theorem qw6 (s : RS) : (rID s).2.1.length <= s.1.length := Nat.le_trans (U3 _ _) (U3 _ _)
theorem z11 (s : RS) : (rRd s).2.1.length <= s.1.length := Nat.le_trans (U3 _ _) (qa8 _ _)
theorem z76 (s : RS) : (rWt s).2.1.length <= s.1.length := Nat.le_trans (U3 _ _) (Nat.le_trans (qa8 _ _) (qa8 _ _))
theorem qys {T : Tab} {id : Nat} {s : RS} (h : T id = q9n s) (hl : Len s.1.length) : ACalls prog q92 [.ptr id 0] T (fun v T' => v = .agg [.i .i64 (rID s).1.1, .i .u64 (rID s).1.2] /\ T' = rT T id (rID s).2) := by
 refine Z3 U4 qty (by simp) ?_
 unfold qkx
 simp -implicitDefEqProofs -dsimp only [go_sem, seval, ↓J0 _ _ O1]
 refine can (q6h h 5 (by decide) hl) ?_
 simp -implicitDefEqProofs -dsimp only [go_sem, seval, ↓J0 _ _ q1l]
 refine can (zba q7e (q23 (U3 _ _) hl)) ?_
 simp -implicitDefEqProofs -dsimp only [go_sem, seval]
 exact qf1 (.refl _) qin
theorem z12 {R : Y5} (hR : ExtR R) {B : Tab} {id : Nat} {a b c v0 : AV} (ha : a.plain = true /\ b.plain = true /\ c.plain = true /\ v0.plain = true) : ∀ (n : Nat) (s : RS) (os : List Rd) (v : AV) (T1 : Tab), n <= 8 -> os.length + n <= 1000 -> Len s.1.length ->
  Own (rT B id s) 2 v os.length (os.flatMap rdC) T1 ->
  (∀ v T1 m, Own (rT B id (G1 rRd n s).2) 2 v (os ++ (G1 rRd n s).1).length ((os ++ (G1 rRd n s).1).flatMap rdC) T1 -> R (.exit 0) [(0, .ptr id 0), (2, .lp 2 0), (4, .lp 4 0), (5, .i .i64 m), (23, .b false)] [(2, zTx), (4, [a, b, c, v, v0])] T1) ->
  AW prog qbu R [(0, .ptr id 0), (2, .lp 2 0), (4, .lp 4 0), (5, .i .i64 n)] [(2, zTx), (4, [a, b, c, v, v0])] T1 := by
 obtain ⟨a1, a2, a3, a4⟩ := ha
 intro n
 induction n with
 | zero =>
  intro s os v T1 hn hos hl ho h2
  obtain ⟨p1, p2, p3, p4, p5, p6⟩ := ho.form
  refine Q1 hR ?_
  unfold qb4
  simp -implicitDefEqProofs -dsimp only [go_sem, seval, show ((0 : Nat) : Int) = 0 from rfl, ↓O8, G0, true_and, decide_false]
  exact h2 v T1 0 (by simpa [G1] using ho)
 | succ n ih =>
  intro s os v T1 hn hos hl ho h2
  obtain ⟨p1, p2, p3, p4, p5, p6⟩ := ho.form
  have hpos : decide ((0 : Int) < ((n + 1 : Nat) : Int)) = true := decide_eq_true (by omega)
  refine N8 (l := qbu) rfl hR ?_
  unfold qb4
  simp -implicitDefEqProofs -dsimp only [go_sem, seval, hpos, ↓O8, G0, true_and, ↓J0 _ _ Y1]
  refine can (qio ho.rdAt) ?_
  rcases hb : s.2 with _ | _
  case true =>
   have e : G1 rRd (n + 1) s = ([], s) := by simp [G1, hb]
   rw [e] at h2
   simp -implicitDefEqProofs -dsimp only [go_sem, seval, hb]
   exact h2 v T1 _ (by simpa using ho)
  have e : G1 rRd (n + 1) s = ((rRd s).1 :: (G1 rRd n (rRd s).2).1, (G1 rRd n (rRd s).2).2) := by simp [G1, hb]
  rw [e] at h2
  have ho1 := ho.rd (q33 32 s).2
  have ho2 := ho1.rd (rRd s).2
  have l1 := q23 (qa8 32 s) hl
  simp -implicitDefEqProofs -dsimp only [go_sem, seval, hb, p1, p2, p3, p4, p5, p6, ↓J0 _ _ q22]
  refine can (qpc ho.rdAt 32 (by decide) hl) ?_
  simp -implicitDefEqProofs -dsimp only [go_sem, seval, p1, p2, p3, p4, p5, p6, ↓J0 _ _ q1l]
  refine can (zba ho1.rdAt l1) ?_
  simp -implicitDefEqProofs -dsimp only [go_sem, seval, p1, p2, p3, p4, p5, p6, a1, a2, a3, a4]
  refine ho2.app (m := 1) (news := rdC (rRd s).1) rfl rfl (by omega) (by omega) fun v2 T2 ho => J1 ?_
  obtain ⟨p1, p2, p3, p4, p5, p6⟩ := ho.form
  simp -implicitDefEqProofs -dsimp only [go_sem, seval, p1, p2, p3, p4, p5, p6, a1, a2, a3, a4]
  rw [qf3 (by omega)]
  refine ih (rRd s).2 (os ++ [(rRd s).1]) v2 T2 (by omega) (by simp; omega) (q23 (z11 s) hl) (by simpa using ho) fun v T1 m ho => h2 v T1 m ?_
  simpa only [List.append_assoc, List.cons_append, List.nil_append] using ho
theorem z13 {R : Y5} (hR : ExtR R) {B : Tab} {id : Nat} {a b c v0 : AV} (ha : a.plain = true /\ b.plain = true /\ c.plain = true /\ v0.plain = true) : ∀ (n : Nat) (s : RS) (os : List Wt) (v : AV) (T1 : Tab), n <= 8 -> os.length + n <= 1000 -> Len s.1.length ->
  Own (rT B id s) 3 v os.length (os.flatMap wtC) T1 ->
  (∀ v T1 m, Own (rT B id (G1 rWt n s).2) 3 v (os ++ (G1 rWt n s).1).length ((os ++ (G1 rWt n s).1).flatMap wtC) T1 -> R (.exit 2) [(0, .ptr id 0), (2, .lp 2 0), (4, .lp 4 0), (7, .i .i64 m), (46, .b false)] [(2, zTx), (4, [a, b, c, v0, v])] T1) ->
  AW prog qbv R [(0, .ptr id 0), (2, .lp 2 0), (4, .lp 4 0), (7, .i .i64 n)] [(2, zTx), (4, [a, b, c, v0, v])] T1 := by
 obtain ⟨a1, a2, a3, a4⟩ := ha
 intro n
 induction n with
 | zero =>
  intro s os v T1 hn hos hl ho h2
  obtain ⟨p1, p2, p3, p4, p5, p6⟩ := ho.form
  refine Q1 hR ?_
  unfold qb5
  simp -implicitDefEqProofs -dsimp only [go_sem, seval, show ((0 : Nat) : Int) = 0 from rfl, ↓O8, G0, true_and, decide_false]
  exact h2 v T1 0 (by simpa [G1] using ho)
 | succ n ih =>
  intro s os v T1 hn hos hl ho h2
  obtain ⟨p1, p2, p3, p4, p5, p6⟩ := ho.form
  have hpos : decide ((0 : Int) < ((n + 1 : Nat) : Int)) = true := decide_eq_true (by omega)
  refine N8 (l := qbv) rfl hR ?_
  unfold qb5
  simp -implicitDefEqProofs -dsimp only [go_sem, seval, hpos, ↓O8, G0, true_and, ↓J0 _ _ Y1]
  refine can (qio ho.rdAt) ?_
  rcases hb : s.2 with _ | _
  case true =>
   have e : G1 rWt (n + 1) s = ([], s) := by simp [G1, hb]
   rw [e] at h2
   simp -implicitDefEqProofs -dsimp only [go_sem, seval, hb]
   exact h2 v T1 _ (by simpa using ho)
  have e : G1 rWt (n + 1) s = ((rWt s).1 :: (G1 rWt n (rWt s).2).1, (G1 rWt n (rWt s).2).2) := by simp [G1, hb]
  rw [e] at h2
  have ho1 := ho.rd (q33 32 s).2
  have ho2 := ho1.rd (q33 64 (q33 32 s).2).2
  have ho3 := ho2.rd (rWt s).2
  have l1 := q23 (qa8 32 s) hl
  have l2 := q23 (qa8 64 _) l1
  simp -implicitDefEqProofs -dsimp only [go_sem, seval, hb, p1, p2, p3, p4, p5, p6, ↓J0 _ _ q22]
  refine can (qpc ho.rdAt 32 (by decide) hl) ?_
  simp -implicitDefEqProofs -dsimp only [go_sem, seval, p1, p2, p3, p4, p5, p6, ↓J0 _ _ q22]
  refine can (qpc ho1.rdAt 64 (by decide) l1) ?_
  simp -implicitDefEqProofs -dsimp only [go_sem, seval, p1, p2, p3, p4, p5, p6, ↓J0 _ _ q64]
  refine can (qw3 ho2.rdAt l2) ?_
  simp -implicitDefEqProofs -dsimp only [go_sem, seval, p1, p2, p3, p4, p5, p6, a1, a2, a3, a4]
  refine ho3.app (m := 1) (news := wtC (rWt s).1) rfl rfl (by omega) (by omega) fun v2 T2 ho => J1 ?_
  obtain ⟨p1, p2, p3, p4, p5, p6⟩ := ho.form
  simp -implicitDefEqProofs -dsimp only [go_sem, seval, p1, p2, p3, p4, p5, p6, a1, a2, a3, a4]
  rw [qf3 (by omega)]
  refine ih (rWt s).2 (os ++ [(rWt s).1]) v2 T2 (by omega) (by simp; omega) (q23 (z76 s) hl) (by simpa using ho) fun v T1 m ho => h2 v T1 m ?_
  simpa only [List.append_assoc, List.cons_append, List.nil_append] using ho
theorem qyt (s : RS) : (q33 32 s).1.length <= 32 := qn3 32 s
theorem qw7 (s : RS) : (rTx s).1.Fine := by
 refine ⟨?_, ?_, ?_, ?_, ?_⟩
 ·have h1 := qj7 (f := rRd) (K4 8 (K4 1 (rID s).2).2).1 (K4 8 (K4 1 (rID s).2).2).2
  have h2 := q3c 8 (K4 1 (rID s).2).2
  show (G1 rRd _ _).1.length < _; omega
 ·have h1 := qj7 (f := rWt) (K4 8 (G1 rRd (K4 8 (K4 1 (rID s).2).2).1 (K4 8 (K4 1 (rID s).2).2).2).2).1 (K4 8 (G1 rRd (K4 8 (K4 1 (rID s).2).2).1 (K4 8 (K4 1 (rID s).2).2).2).2).2
  have h2 := q3c 8 (G1 rRd (K4 8 (K4 1 (rID s).2).2).1 (K4 8 (K4 1 (rID s).2).2).2).2
  show (G1 rWt _ _).1.length < _; omega
 ·exact qcy (p := fun r : Rd => Len r.k.length) (fun s => by have := qyt s; show Len (q33 32 s).1.length; unfold Len; omega) _ _
 ·exact qcy (p := fun r : Wt => Len r.k.length) (fun s => by have := qyt s; show Len (q33 32 s).1.length; unfold Len; omega) _ _
 ·exact qcy (p := fun r : Wt => Len r.v.length) (fun s => by have := qn3 64 (q33 32 s).2; show Len (q33 64 (q33 32 s).2).1.length; unfold Len; omega) _ _
def q98 : Tx := ⟨0, 0, false, [], []⟩
def qqx (s : RS) : Bool := !(rTx s).2.2 && qqt (rTx s).1
def q3e (s : RS) : Tx × AV := if qqx s = true then ((rTx s).1, .nilifc) else (q98, q8f [116, 120, 110] (qsx 3))
theorem quu {T : Tab} {id : Nat} {s : RS} (h : T id = q9n s) (hl : Len s.1.length) : ACalls prog q7h [.ptr id 0] T (fun v T' => v = .tup [.agg ((q3e s).1.cells none none), (q3e s).2] /\ T' = rT T id (rTx s).2) := by
 refine Z3 U4 qsa (by simp) ?_
 have l1 := q23 (qw6 s) hl
 have l2 := q23 (U3 1 _) l1
 have l3 := q23 (U3 8 _) l2
 have l4 := q23 (qa9 z11 (K4 8 (K4 1 (rID s).2).2).1 _) l3
 have l5 := q23 (U3 8 _) l4
 have b1 := q3c 8 (K4 1 (rID s).2).2
 have b2 := q3c 8 (G1 rRd (K4 8 (K4 1 (rID s).2).2).1 (K4 8 (K4 1 (rID s).2).2).2).2
 have hf := qw7 s
 unfold qii
 simp -implicitDefEqProofs -dsimp only [go_sem, seval, ↓J0 _ _ qky]
 refine can (qys h hl) ?_
 simp -implicitDefEqProofs -dsimp only [go_sem, seval, ↓J0 _ _ q64]
 refine can (qw3 q7e l1) ?_
 simp -implicitDefEqProofs -dsimp only [go_sem, seval, qin, ↓J0 _ _ O1]
 refine can (q6h q7e 8 (by decide) l2) ?_
 simp -implicitDefEqProofs -dsimp only [go_sem, seval, qin]
 refine z12 (B := T) (by repeat' (first | exact N2 _ _ | assumption | apply N1 | apply K8 | apply Q6)) ⟨rfl, rfl, rfl, rfl⟩ _ _ [] _ _ b1 (by simp; omega) l3 (.nil ..) (fun v1 T1 m o1 => ?_)
 obtain ⟨p1, p2, p3, p4, p5, p6⟩ := o1.form
 have o1' := o1.rd (K4 8 (G1 rRd (K4 8 (K4 1 (rID s).2).2).1 (K4 8 (K4 1 (rID s).2).2).2).2).2
 simp -implicitDefEqProofs -dsimp only [go_sem, seval, p1, p2, p3, p4, p5, p6, ↓J0 _ _ O1]
 refine can (q6h o1.rdAt 8 (by decide) l4) ?_
 simp -implicitDefEqProofs -dsimp only [go_sem, seval, p1, p2, p3, p4, p5, p6]
 refine z13 (B := T1) (by repeat' (first | exact N2 _ _ | assumption | apply N1 | apply K8 | apply Q6)) ⟨rfl, rfl, rfl, p1⟩ _ _ [] _ _ b2 (by simp; omega) l5 (.nil ..) (fun v2 T2 m o2 => ?_)
 obtain ⟨q1, q2, q3, q4, q5, q6⟩ := o2.form
 have o1'' := o1.rd (rTx s).2
 have how : Owns (rT T id (rTx s).2) [⟨3, v2, (rTx s).1.ws.length, (rTx s).1.ws.flatMap wtC⟩, ⟨2, v1, (rTx s).1.rs.length, (rTx s).1.rs.flatMap rdC⟩] T2 := ⟨_, ⟨_, rfl, o1''⟩, o2⟩
 simp -implicitDefEqProofs -dsimp only [go_sem, seval, p1, p2, p3, p4, p5, p6, q1, q2, q3, q4, q5, q6, ↓J0 _ _ Y1]
 refine can (qio o2.rdAt) ?_
 have hbad : (G1 rWt (K4 8 (G1 rRd (K4 8 (K4 1 (rID s).2).2).1 (K4 8 (K4 1 (rID s).2).2).2).2).1 (K4 8 (G1 rRd (K4 8 (K4 1 (rID s).2).2).1 (K4 8 (K4 1 (rID s).2).2).2).2).2).2.2 = (rTx s).2.2 := rfl
 rw [hbad]
 have errEnd : qqx s = false -> qtj (.tup [.agg [.i .i64 0, .i .u64 0, .b false, .fz 0 [] (some 0), .fz 0 [] (some 0)], q8f [116, 120, 110] (qsx 3)]) (fun v T' => v = .tup [.agg ((q3e s).1.cells none none), (q3e s).2] /\ T' = rT T id (rTx s).2) T2 := by
  intro hb
  refine q1e how fun S hS => ?_
  simp only [q3e, hb, Bool.false_eq_true, if_false, qoq, qfy, q8f, qsx, List.map_cons, List.map_nil, qcw, qf0, ql5, z5v, z5u]
  exact Wk.tup ⟨Wk.agg Wks.tx, .refl _, trivial⟩
 have cN := qpd [116, 120, 110] 3
 rw [if_neg (by decide)] at cN
 rcases hb : (rTx s).2.2 with _ | _
 ·simp -implicitDefEqProofs -dsimp only [go_sem, seval, hb, p1, p2, p3, p4, p5, p6, q1, q2, q3, q4, q5, q6, ↓O8, G0, true_and, ↓J0 _ _ Z6]
  refine CallK.borrow (r := .b (qqt (rTx s).1)) how (fun S hS => ?_) .b (J1 ?_)
  ·obtain ⟨c1, e1⟩ := hS _ (List.mem_cons_of_mem _ (List.mem_cons_self ..))
   obtain ⟨c2, e2⟩ := hS _ (List.mem_cons_self ..)
   simp only at e1 e2
   have := qmk (rTx s).1 c1 c2 hf
   simp only [Tx.cells] at this
   simp only [List.map_cons, List.map_nil, qfy, qcw, qf0, e1, e2]
   exact this
  rcases hok : qqt (rTx s).1 with _ | _
  ·simp -implicitDefEqProofs -dsimp only [go_sem, seval, hb, hok, p1, p2, p3, p4, p5, p6, q1, q2, q3, q4, q5, q6, ↓O8, G0, true_and, ↓J0 _ _ q0g]
   refine cpn cN ?_
   simp -implicitDefEqProofs -dsimp only [go_sem, seval, q8f, zTx]
   exact errEnd (by simp [qqx, hb, hok])
  ·simp -implicitDefEqProofs -dsimp only [go_sem, seval, hb, hok, zTx, p1, p2, p3, p4, p5, p6, q1, q2, q3, q4, q5, q6, ↓O8, G0, true_and]
   have hk : qqx s = true := by simp [qqx, hb, hok]
   refine q1e how fun S hS => ?_
   obtain ⟨c1, e1⟩ := hS _ (List.mem_cons_of_mem _ (List.mem_cons_self ..))
   obtain ⟨c2, e2⟩ := hS _ (List.mem_cons_self ..)
   simp only at e1 e2
   simp only [q3e, hk, if_true, qoq, qfy, List.map_cons, List.map_nil, qcw, qf0, e1, e2, z5t]
   exact Wk.tup ⟨Wk.agg Wks.tx, .refl _, trivial⟩
 ·simp -implicitDefEqProofs -dsimp only [go_sem, seval, hb, p1, p2, p3, p4, p5, p6, q1, q2, q3, q4, q5, q6, ↓O8, G0, true_and, ↓J0 _ _ q0g]
  refine cpn cN ?_
  simp -implicitDefEqProofs -dsimp only [go_sem, seval, q8f, zTx]
  exact errEnd (by simp [qqx, hb])
end Go.Aw
namespace Go.Aw
open Go
open Go.Proofs.Tryz (prog)
set_option linter.all false
set_option maxHeartbeats 4000000
theorem qsz : ∀ (l seen : List Bs), qdo seen l = true -> ∀ k ∈ l, qhi k = true
 | [], _, _, k, hk => by cases hk
 | x :: l, seen, h, k, hk => by
  simp only [qdo, Bool.and_eq_true] at h
  rcases List.mem_cons.1 hk with rfl | hk
  ·exact h.1.1
  ·exact qsz l _ h.2 k hk
theorem z77 {k : Bs} (h : qhi k = true) : k.length <= 32 := by
 simp only [qhi, Bool.and_eq_true, decide_eq_true_eq] at h; omega
theorem qfr {t : Tx} (h : qqt t = true) (hs : t.sq < 18446744073709551616) (hr : ∀ r ∈ t.rs, 0 <= r.n /\ r.n < 18446744073709551616) : t.Good := by
 simp only [qqt, qhl, Bool.and_eq_true, decide_eq_true_eq, Bool.not_eq_true', decide_eq_false_iff_not] at h
 obtain ⟨⟨⟨⟨⟨h1, h2⟩, h3⟩, h4⟩, h5⟩, ⟨h6, h7⟩, h8⟩ := h
 refine ⟨⟨h1.1.1, h1.1.2⟩, ⟨h1.2, hs⟩, by omega, by omega, fun r hm => ⟨z77 (qsz _ _ h6 _ (List.mem_map_of_mem hm)), hr r hm⟩, fun w hm => ⟨z77 (qsz _ _ h7 _ (List.mem_map_of_mem hm)), ?_⟩⟩
 have := List.all_eq_true.1 h8 w hm
 simp only [wOk, qy5, Bool.and_eq_true, decide_eq_true_eq] at this
 omega
theorem qir {t : Tx} (h : t.Good) : (qa4 t).length <= 2000 := by
 obtain ⟨hcl, hsq, hr, hw, hrr, hww⟩ := h
 have l1 := K6 (m := t.cl.toNat) (by omega)
 have l2 := K6 (m := t.sq.toNat) (by omega)
 have l3 := K6 (m := t.rs.length) (by omega)
 have l4 := K6 (m := t.ws.length) (by omega)
 have l5 := q2u (g := qco) t.rs fun r hr => qsy (hrr r hr)
 have l6 := q2u (g := qdu) t.ws fun r hr => qyq (hww r hr)
 simp only [qa4, List.length_append, List.length_cons, List.length_nil]; omega
theorem qyu {t : Tx} (h : t.Good) (hok : qqt t = true) (rest : List UInt8) : qqx (qa4 t ++ rest, false) = true := by
 unfold qqx; rw [z0w h]; simp [hok]
end Go.Aw
namespace Go.Aw
open Go
open Go.Proofs.Tryz (prog)
set_option linter.all false
set_option maxHeartbeats 4000000
theorem z14 : K5 prog ql8 = true := by kernel_rfl
def qwr : Option Er -> AV
 | none => .nilifc
 | some e => e.av
def qh9 : Option Er -> Int
 | none => 0
 | some e => e.code
theorem Er.ifc (e : Er) : ∃ t v, e.av = .ifc t v := by cases e <;> exact ⟨_, _, rfl⟩
theorem z15 (e : Option Er) : PCalls prog q9s [qwr e] (.i .i64 (qh9 e)) := by
 refine K7 U4 qxi (by simp) fun T => ?_
 unfold qpr
 cases e with
 | none =>
  simp -implicitDefEqProofs -dsimp only [go_sem, seval, qwr, qh9, qu4]
  intro id hid
  refine J1 ?_
  simp -implicitDefEqProofs -dsimp only [go_sem, seval, qu4]
  exact ((TabLe.refl T).put hid).fin
 | some e =>
  obtain ⟨t, v, he⟩ := e.ifc
  have ca := fun (T : Tab) id old hT => z0y (T := T) (id := id) (old := old) e hT
  simp only [qwr, qh9, he] at ca ⊢
  simp -implicitDefEqProofs -dsimp only [go_sem, seval, qu4]
  intro id hid
  refine J1 ?_
  simp -implicitDefEqProofs -dsimp only [go_sem, seval, qu4, ↓J0 _ _ z14]
  refine can (ca _ id 0 (Tab.put_same ..)) ?_
  simp -implicitDefEqProofs -dsimp only [go_sem, seval, Tab.put_same]
  rw [Tab.put_put]
  exact ((TabLe.refl T).put hid).fin
theorem zbc (w : List UInt8) (e : Er) : PCalls prog qf5 [.s w, e.av] (q8f w e.av) := by
 refine K7 U4 z3n (by simp) fun T => ?_
 obtain ⟨t, v, he⟩ := e.ifc
 rw [he]
 unfold qup
 simp -implicitDefEqProofs -dsimp only [go_sem, seval, qu4]
 intro id hid
 refine J1 ?_
 simp -implicitDefEqProofs -dsimp only [go_sem, seval]
 refine ⟨[id], T, _, by simp, by simp [Tab.put_same], fun j => ?_, ?_, rfl, rfl⟩
 ·simp only [qor]
  rw [Tab.put_put, Tab.put_self hid]; exact .inr (.inl rfl)
 ·simp only [qoq, qfy, qiy, List.mem_singleton, if_true, Tab.put_same, List.drop_zero]
  exact .refl _
def q8g (e : En) : List UInt8 := enc e.ep.toNat ++ enc e.kd.toNat ++ (if e.kd = 1 then qa4 e.t else enc e.cl.toNat ++ enc e.sq.toNat ++ enc e.co.toNat)
structure En.Good (e : En) : Prop where
 ep : 0 < e.ep /\ e.ep < 18446744073709551616
 kd : (e.kd = 1 /\ e.t.Good /\ qqt e.t = true /\ e.cl = 0 /\ e.sq = 0 /\ e.co = 0) \/
  (e.kd = 2 /\ e.t = q98 /\ (0 <= e.cl /\ e.cl < 6) /\ (0 < e.sq /\ e.sq < 18446744073709551616) /\ (e.co = 0 \/ e.co = 8 \/ e.co = 11))
theorem z78 {t : Tx} (h : qz6 t = true) : t = q98 := by
 obtain ⟨cl, sq, pl, rs, ws⟩ := t
 simp only [qz6, Bool.and_eq_true, decide_eq_true_eq, Bool.not_eq_true'] at h
 obtain ⟨⟨⟨rfl, rfl⟩, rfl⟩, h⟩ := h
 have h1 : rs = [] := List.length_eq_zero_iff.1 (by omega)
 have h2 : ws = [] := List.length_eq_zero_iff.1 (by omega)
 subst h1; subst h2; rfl
structure En.Rng (e : En) : Prop where
 ep : 0 <= e.ep /\ e.ep < 18446744073709551616
 tsq : e.t.sq < 18446744073709551616
 tr : ∀ r ∈ e.t.rs, 0 <= r.n /\ r.n < 18446744073709551616
 sq : e.sq < 18446744073709551616
theorem En.good_of {e : En} (h : qfu e = true) (hr : e.Rng) : e.Good := by
 obtain ⟨h1, h2, h3, h4⟩ := hr
 simp only [qfu, Bool.and_eq_true, Bool.not_eq_true', decide_eq_false_iff_not] at h
 obtain ⟨hep, h⟩ := h
 refine ⟨⟨by omega, h1.2⟩, ?_⟩
 by_cases hk : e.kd = 1
 ·rw [if_pos (by simpa using hk)] at h
  simp only [Bool.and_eq_true, decide_eq_true_eq] at h
  exact .inl ⟨hk, qfr h.1.1 h2 h3, h.1.1, h.1.2.1, h.1.2.2, h.2⟩
 ·rw [if_neg (by simpa using hk)] at h
  simp only [Bool.and_eq_true, decide_eq_true_eq, qhl, zb4, Bool.or_eq_true] at h
  obtain ⟨hk2, ⟨hn, hid⟩, hco⟩ := h
  exact .inr ⟨hk2, z78 hn, ⟨hid.1.1, hid.1.2⟩, ⟨hid.2, h4⟩, hco⟩
theorem En.Good.ok {e : En} (h : e.Good) : qfu e = true := by
 obtain ⟨h1, h2⟩ := h
 have he : decide (e.ep = 0) = false := decide_eq_false (by omega)
 rcases h2 with ⟨h3, h4, h5, h6, h7, h8⟩ | ⟨h3, h4, h5, h6, h7⟩
 ·simp [qfu, he, h3, h5, h6, h7, h8]
 ·have : qz6 e.t = true := by rw [h4]; rfl
  have e2 : qhl e.cl e.sq = true := by simp [qhl]; omega
  have e3 : zb4 e.co = true := by rcases h7 with h | h | h <;> rw [h] <;> rfl
  simp [qfu, he, h3, this, e2, e3]
def rEn (s : RS) : En × RS :=
 let a := K4 18446744073709551615 s
 let k := K4 2 a.2
 if k.1 = 1 then (⟨a.1, k.1, (q3e k.2).1, 0, 0, 0⟩, (rTx k.2).2)
 else if k.1 = 2 then (⟨a.1, k.1, q98, (rID k.2).1.1, (rID k.2).1.2, (K4 99 (rID k.2).2).1⟩, (K4 99 (rID k.2).2).2)
 else (⟨a.1, k.1, q98, 0, 0, 0⟩, k.2)
def qoj (s : RS) : Bool := !decide ((K4 2 (K4 18446744073709551615 s).2).1 = 1) || qqx (K4 2 (K4 18446744073709551615 s).2).2
def qcp (s : RS) : Bool := qoj s && (!(rEn s).2.2 && decide ((rEn s).2.1 = [])) && qfu (rEn s).1
def zbd : En := ⟨0, 0, q98, 0, 0, 0⟩
def q30 (s : RS) : Option Er := if qcp s = true then none else if qoj s = false then some (.flt [101, 110, 116, 114, 121] (.flt [116, 120, 110] (.num 3))) else some (.flt [101, 110, 116, 114, 121] (.num 3))
def qa3 (s : RS) : En := if qcp s = true then (rEn s).1 else zbd
theorem zdf {e : En} (h : e.Good) : rEn (q8g e, false) = (e, ([], false)) /\ qoj (q8g e, false) = true := by
 obtain ⟨ep, kd, t, cl, sq, co⟩ := e
 obtain ⟨h1, h2⟩ := h
 simp only at h1 h2
 rcases h2 with ⟨rfl, h4, h5, rfl, rfl, rfl⟩ | ⟨rfl, rfl, h5, h6, h7⟩
 ·have e : q8g ⟨ep, 1, t, 0, 0, 0⟩ = enc ep.toNat ++ (enc 1 ++ (qa4 t ++ [])) := by simp [q8g]
  have hx := z0w h4 []
  have hk := qyu h4 h5 []
  rw [List.append_nil] at hx hk
  unfold rEn qoj
  rw [e, V5 (by omega) (by omega)]
  simp only [V5 (show 1 <= 2 by omega) (by omega), if_true, q3e, List.append_nil, hx, hk]
  rw [show ((ep.toNat : Nat) : Int) = ep by omega]
  exact ⟨rfl, rfl⟩
 ·have e : q8g ⟨ep, 2, q98, cl, sq, co⟩ = enc ep.toNat ++ (enc 2 ++ (enc cl.toNat ++ (enc sq.toNat ++ (enc co.toNat ++ [])))) := by simp [q8g]
  unfold rEn qoj rID
  rw [e, V5 (by omega) (by omega)]
  simp only [V5 (show 2 <= 2 by omega) (by omega)]
  rw [if_neg (by decide), if_pos trivial, V5 (by omega) (by omega)]
  simp only [V5 (show sq.toNat <= 18446744073709551615 by omega) (by omega)]
  rw [V5 (by omega) (by omega)]
  simp only
  rw [show ((ep.toNat : Nat) : Int) = ep by omega, show ((cl.toNat : Nat) : Int) = cl by omega, show ((sq.toNat : Nat) : Int) = sq by omega, show ((co.toNat : Nat) : Int) = co by omega]
  exact ⟨rfl, rfl⟩
theorem z79 {e : En} (h : e.Good) : qcp (q8g e, false) = true /\ qa3 (q8g e, false) = e := by
 have h1 := zdf h
 have h2 : qcp (q8g e, false) = true := by simp [qcp, h1.1, h1.2, h.ok]
 exact ⟨h2, by simp [qa3, h2, h1.1]⟩
theorem z7a (s : RS) : (rEn s).1.Rng := by
 have h1 := q3c 18446744073709551615 s
 unfold rEn
 simp only
 have hz : ∀ a b c d f : Int, 0 <= a /\ a < 18446744073709551616 -> d < 18446744073709551616 -> (⟨a, b, q98, c, d, f⟩ : En).Rng := fun a b c d f h1 h2 => ⟨h1, (by show (0 : Int) < _; decide), (fun r hr => by cases hr), h2⟩
 split
 ·have ht : ∀ t : Tx, t.sq < 18446744073709551616 -> (∀ r ∈ t.rs, 0 <= r.n /\ r.n < 18446744073709551616) -> (⟨(K4 18446744073709551615 s).1, (K4 2 (K4 18446744073709551615 s).2).1, t, 0, 0, 0⟩ : En).Rng := fun t h2 h3 => ⟨by simp only; omega, h2, h3, by show (0 : Int) < _; decide⟩
  unfold q3e
  split
  ·refine ht _ ?_ ?_
   ·have := q3c 18446744073709551615 (K4 5 (K4 2 (K4 18446744073709551615 s).2).2).2
    show ((K4 18446744073709551615 (K4 5 (K4 2 (K4 18446744073709551615 s).2).2).2).1 : Int) < _
    omega
   ·exact qcy (p := fun r : Rd => 0 <= r.n /\ r.n < 18446744073709551616) (fun s => by
     have := q3c 18446744073709551615 (q33 32 s).2
     show 0 <= ((K4 18446744073709551615 (q33 32 s).2).1 : Int) /\ ((K4 18446744073709551615 (q33 32 s).2).1 : Int) < _
     omega) _ _
  ·exact ht _ (by show (0 : Int) < _; decide) (fun r hr => by cases hr)
 ·split
  ·refine hz _ _ _ _ _ (by omega) ?_
   have := q3c 18446744073709551615 (K4 5 (K4 2 (K4 18446744073709551615 s).2).2).2
   show ((K4 18446744073709551615 (K4 5 (K4 2 (K4 18446744073709551615 s).2).2).2).1 : Int) < _
   omega
  ·exact hz _ _ _ _ _ (by omega) (by decide)
end Go.Aw
