import Derived.Test.YtchdmofoaokpjaaGreatDoorM30N17E12D
import Derived.Test.YtchdmofoaokpjaaGreatDoorAwD
import Derived.Test.YtchdmofoaokpjaaGreatDoorM30N17E12X
namespace Go.Aw
open Go
open Go.Proofs.Tryz (prog)
set_option linter.all false
set_option maxHeartbeats 4000000
theorem qou (s : RS) : (rID s).2.1.length <= s.1.length := Nat.le_trans (O5 _ _) (O5 _ _)
theorem qsu (s : RS) : (rRd s).2.1.length <= s.1.length := Nat.le_trans (O5 _ _) (q6c _ _)
theorem qz5 (s : RS) : (rWt s).2.1.length <= s.1.length := Nat.le_trans (O5 _ _) (Nat.le_trans (q6c _ _) (q6c _ _))
theorem qqv {T : Tab} {id : Nat} {s : RS} (h : T id = q5y s) (hl : Len s.1.length) : ACalls prog q5c [.ptr id 0] T (fun v T' => v = .agg [.i .i64 (rID s).1.1, .i .u64 (rID s).1.2] /\ T' = rT T id (rID s).2) := by
 refine U7 Q9 qmg (by simp) ?_
 unfold qee
 simp -implicitDefEqProofs -dsimp only [go_sem, seval, ↓J0 _ _ N1]
 refine can (q40 h 5 (by decide) hl) ?_
 simp -implicitDefEqProofs -dsimp only [go_sem, seval, ↓J0 _ _ q0q]
 refine can (z3d q4c (q10 (O5 _ _) hl)) ?_
 simp -implicitDefEqProofs -dsimp only [go_sem, seval]
 exact q7v (.refl _) qcx
theorem qsv {R : I2} (hR : ExtR R) {B : Tab} {id : Nat} {a b c v0 : AV} (ha : a.plain = true /\ b.plain = true /\ c.plain = true /\ v0.plain = true) : ∀ (n : Nat) (s : RS) (os : List Rd) (v : AV) (T1 : Tab), n <= 8 -> os.length + n <= 1000 -> Len s.1.length ->
  Own (rT B id s) 2 v os.length (os.flatMap rdC) T1 ->
  (∀ v T1 m, Own (rT B id (V9 rRd n s).2) 2 v (os ++ (V9 rRd n s).1).length ((os ++ (V9 rRd n s).1).flatMap rdC) T1 -> R (.exit 0) [(0, .ptr id 0), (2, .lp 2 0), (4, .lp 4 0), (5, .i .i64 m), (23, .b false)] [(2, zTx), (4, [a, b, c, v, v0])] T1) ->
  AW prog q7t R [(0, .ptr id 0), (2, .lp 2 0), (4, .lp 4 0), (5, .i .i64 n)] [(2, zTx), (4, [a, b, c, v, v0])] T1 := by
 obtain ⟨a1, a2, a3, a4⟩ := ha
 intro n
 induction n with
 | zero =>
  intro s os v T1 hn hos hl ho h2
  obtain ⟨p1, p2, p3, p4, p5, p6⟩ := ho.form
  refine V1 hR ?_
  unfold q72
  simp -implicitDefEqProofs -dsimp only [go_sem, seval, show ((0 : Nat) : Int) = 0 from rfl, ↓Q4, I4, true_and, decide_false]
  exact h2 v T1 0 (by simpa [V9] using ho)
 | succ n ih =>
  intro s os v T1 hn hos hl ho h2
  obtain ⟨p1, p2, p3, p4, p5, p6⟩ := ho.form
  have hpos : decide ((0 : Int) < ((n + 1 : Nat) : Int)) = true := decide_eq_true (by omega)
  refine Q3 (l := q7t) rfl hR ?_
  unfold q72
  simp -implicitDefEqProofs -dsimp only [go_sem, seval, hpos, ↓Q4, I4, true_and, ↓J0 _ _ U4]
  refine can (qcy ho.rdAt) ?_
  rcases hb : s.2 with _ | _
  case true =>
   have e : V9 rRd (n + 1) s = ([], s) := by simp [V9, hb]
   rw [e] at h2
   simp -implicitDefEqProofs -dsimp only [go_sem, seval, hb]
   exact h2 v T1 _ (by simpa using ho)
  have e : V9 rRd (n + 1) s = ((rRd s).1 :: (V9 rRd n (rRd s).2).1, (V9 rRd n (rRd s).2).2) := by simp [V9, hb]
  rw [e] at h2
  have ho1 := ho.rd (q1o 32 s).2
  have ho2 := ho1.rd (rRd s).2
  have l1 := q10 (q6c 32 s) hl
  simp -implicitDefEqProofs -dsimp only [go_sem, seval, hb, p1, p2, p3, p4, p5, p6, ↓J0 _ _ q0z]
  refine can (qhl ho.rdAt 32 (by decide) hl) ?_
  simp -implicitDefEqProofs -dsimp only [go_sem, seval, p1, p2, p3, p4, p5, p6, ↓J0 _ _ q0q]
  refine can (z3d ho1.rdAt l1) ?_
  simp -implicitDefEqProofs -dsimp only [go_sem, seval, p1, p2, p3, p4, p5, p6, a1, a2, a3, a4]
  refine ho2.app (m := 1) (news := rdC (rRd s).1) rfl rfl (by omega) (by omega) fun v2 T2 ho => J1 ?_
  obtain ⟨p1, p2, p3, p4, p5, p6⟩ := ho.form
  simp -implicitDefEqProofs -dsimp only [go_sem, seval, p1, p2, p3, p4, p5, p6, a1, a2, a3, a4]
  rw [q9z (by omega)]
  refine ih (rRd s).2 (os ++ [(rRd s).1]) v2 T2 (by omega) (by simp; omega) (q10 (qsu s) hl) (by simpa using ho) fun v T1 m ho => h2 v T1 m ?_
  simpa only [List.append_assoc, List.cons_append, List.nil_append] using ho
theorem qsw {R : I2} (hR : ExtR R) {B : Tab} {id : Nat} {a b c v0 : AV} (ha : a.plain = true /\ b.plain = true /\ c.plain = true /\ v0.plain = true) : ∀ (n : Nat) (s : RS) (os : List Wt) (v : AV) (T1 : Tab), n <= 8 -> os.length + n <= 1000 -> Len s.1.length ->
  Own (rT B id s) 3 v os.length (os.flatMap wtC) T1 ->
  (∀ v T1 m, Own (rT B id (V9 rWt n s).2) 3 v (os ++ (V9 rWt n s).1).length ((os ++ (V9 rWt n s).1).flatMap wtC) T1 -> R (.exit 2) [(0, .ptr id 0), (2, .lp 2 0), (4, .lp 4 0), (7, .i .i64 m), (46, .b false)] [(2, zTx), (4, [a, b, c, v0, v])] T1) ->
  AW prog q7u R [(0, .ptr id 0), (2, .lp 2 0), (4, .lp 4 0), (7, .i .i64 n)] [(2, zTx), (4, [a, b, c, v0, v])] T1 := by
 obtain ⟨a1, a2, a3, a4⟩ := ha
 intro n
 induction n with
 | zero =>
  intro s os v T1 hn hos hl ho h2
  obtain ⟨p1, p2, p3, p4, p5, p6⟩ := ho.form
  refine V1 hR ?_
  unfold q73
  simp -implicitDefEqProofs -dsimp only [go_sem, seval, show ((0 : Nat) : Int) = 0 from rfl, ↓Q4, I4, true_and, decide_false]
  exact h2 v T1 0 (by simpa [V9] using ho)
 | succ n ih =>
  intro s os v T1 hn hos hl ho h2
  obtain ⟨p1, p2, p3, p4, p5, p6⟩ := ho.form
  have hpos : decide ((0 : Int) < ((n + 1 : Nat) : Int)) = true := decide_eq_true (by omega)
  refine Q3 (l := q7u) rfl hR ?_
  unfold q73
  simp -implicitDefEqProofs -dsimp only [go_sem, seval, hpos, ↓Q4, I4, true_and, ↓J0 _ _ U4]
  refine can (qcy ho.rdAt) ?_
  rcases hb : s.2 with _ | _
  case true =>
   have e : V9 rWt (n + 1) s = ([], s) := by simp [V9, hb]
   rw [e] at h2
   simp -implicitDefEqProofs -dsimp only [go_sem, seval, hb]
   exact h2 v T1 _ (by simpa using ho)
  have e : V9 rWt (n + 1) s = ((rWt s).1 :: (V9 rWt n (rWt s).2).1, (V9 rWt n (rWt s).2).2) := by simp [V9, hb]
  rw [e] at h2
  have ho1 := ho.rd (q1o 32 s).2
  have ho2 := ho1.rd (q1o 64 (q1o 32 s).2).2
  have ho3 := ho2.rd (rWt s).2
  have l1 := q10 (q6c 32 s) hl
  have l2 := q10 (q6c 64 _) l1
  simp -implicitDefEqProofs -dsimp only [go_sem, seval, hb, p1, p2, p3, p4, p5, p6, ↓J0 _ _ q0z]
  refine can (qhl ho.rdAt 32 (by decide) hl) ?_
  simp -implicitDefEqProofs -dsimp only [go_sem, seval, p1, p2, p3, p4, p5, p6, ↓J0 _ _ q0z]
  refine can (qhl ho1.rdAt 64 (by decide) l1) ?_
  simp -implicitDefEqProofs -dsimp only [go_sem, seval, p1, p2, p3, p4, p5, p6, ↓J0 _ _ q3q]
  refine can (qop ho2.rdAt l2) ?_
  simp -implicitDefEqProofs -dsimp only [go_sem, seval, p1, p2, p3, p4, p5, p6, a1, a2, a3, a4]
  refine ho3.app (m := 1) (news := wtC (rWt s).1) rfl rfl (by omega) (by omega) fun v2 T2 ho => J1 ?_
  obtain ⟨p1, p2, p3, p4, p5, p6⟩ := ho.form
  simp -implicitDefEqProofs -dsimp only [go_sem, seval, p1, p2, p3, p4, p5, p6, a1, a2, a3, a4]
  rw [q9z (by omega)]
  refine ih (rWt s).2 (os ++ [(rWt s).1]) v2 T2 (by omega) (by simp; omega) (q10 (qz5 s) hl) (by simpa using ho) fun v T1 m ho => h2 v T1 m ?_
  simpa only [List.append_assoc, List.cons_append, List.nil_append] using ho
theorem qqw (s : RS) : (q1o 32 s).1.length <= 32 := qfz 32 s
theorem qov (s : RS) : (rTx s).1.Fine := by
 refine ⟨?_, ?_, ?_, ?_, ?_⟩
 ·have h1 := qdd (f := rRd) (K3 8 (K3 1 (rID s).2).2).1 (K3 8 (K3 1 (rID s).2).2).2
  have h2 := q21 8 (K3 1 (rID s).2).2
  show (V9 rRd _ _).1.length < _; omega
 ·have h1 := qdd (f := rWt) (K3 8 (V9 rRd (K3 8 (K3 1 (rID s).2).2).1 (K3 8 (K3 1 (rID s).2).2).2).2).1 (K3 8 (V9 rRd (K3 8 (K3 1 (rID s).2).2).1 (K3 8 (K3 1 (rID s).2).2).2).2).2
  have h2 := q21 8 (V9 rRd (K3 8 (K3 1 (rID s).2).2).1 (K3 8 (K3 1 (rID s).2).2).2).2
  show (V9 rWt _ _).1.length < _; omega
 ·exact q8c (p := fun r : Rd => Len r.k.length) (fun s => by have := qqw s; show Len (q1o 32 s).1.length; unfold Len; omega) _ _
 ·exact q8c (p := fun r : Wt => Len r.k.length) (fun s => by have := qqw s; show Len (q1o 32 s).1.length; unfold Len; omega) _ _
 ·exact q8c (p := fun r : Wt => Len r.v.length) (fun s => by have := qfz 64 (q1o 32 s).2; show Len (q1o 64 (q1o 32 s).2).1.length; unfold Len; omega) _ _
def q5i : Tx := ⟨0, 0, false, [], []⟩
def qjd (s : RS) : Bool := !(rTx s).2.2 && qsn (rTx s).1
def q23 (s : RS) : Tx × AV := if qjd s = true then ((rTx s).1, .nilifc) else (q5i, q4z [116, 120, 110] (qla 3))
theorem qnc {T : Tab} {id : Nat} {s : RS} (h : T id = q5y s) (hl : Len s.1.length) : ACalls prog q4g [.ptr id 0] T (fun v T' => v = .tup [.agg ((q23 s).1.cells none none), (q23 s).2] /\ T' = rT T id (rTx s).2) := by
 refine U7 Q9 qkt (by simp) ?_
 have l1 := q10 (qou s) hl
 have l2 := q10 (O5 1 _) l1
 have l3 := q10 (O5 8 _) l2
 have l4 := q10 (q6d qsu (K3 8 (K3 1 (rID s).2).2).1 _) l3
 have l5 := q10 (O5 8 _) l4
 have b1 := q21 8 (K3 1 (rID s).2).2
 have b2 := q21 8 (V9 rRd (K3 8 (K3 1 (rID s).2).2).1 (K3 8 (K3 1 (rID s).2).2).2).2
 have hf := qov s
 unfold qcm
 simp -implicitDefEqProofs -dsimp only [go_sem, seval, ↓J0 _ _ qef]
 refine can (qqv h hl) ?_
 simp -implicitDefEqProofs -dsimp only [go_sem, seval, ↓J0 _ _ q3q]
 refine can (qop q4c l1) ?_
 simp -implicitDefEqProofs -dsimp only [go_sem, seval, qcx, ↓J0 _ _ N1]
 refine can (q40 q4c 8 (by decide) l2) ?_
 simp -implicitDefEqProofs -dsimp only [go_sem, seval, qcx]
 refine qsv (B := T) (by repeat' (first | exact O7 _ _ | assumption | apply O6 | apply N6 | apply Y1)) ⟨rfl, rfl, rfl, rfl⟩ _ _ [] _ _ b1 (by simp; omega) l3 (.nil ..) (fun v1 T1 m o1 => ?_)
 obtain ⟨p1, p2, p3, p4, p5, p6⟩ := o1.form
 have o1' := o1.rd (K3 8 (V9 rRd (K3 8 (K3 1 (rID s).2).2).1 (K3 8 (K3 1 (rID s).2).2).2).2).2
 simp -implicitDefEqProofs -dsimp only [go_sem, seval, p1, p2, p3, p4, p5, p6, ↓J0 _ _ N1]
 refine can (q40 o1.rdAt 8 (by decide) l4) ?_
 simp -implicitDefEqProofs -dsimp only [go_sem, seval, p1, p2, p3, p4, p5, p6]
 refine qsw (B := T1) (by repeat' (first | exact O7 _ _ | assumption | apply O6 | apply N6 | apply Y1)) ⟨rfl, rfl, rfl, p1⟩ _ _ [] _ _ b2 (by simp; omega) l5 (.nil ..) (fun v2 T2 m o2 => ?_)
 obtain ⟨q1, q2, q3, q4, q5, q6⟩ := o2.form
 have o1'' := o1.rd (rTx s).2
 have how : Owns (rT T id (rTx s).2) [⟨3, v2, (rTx s).1.ws.length, (rTx s).1.ws.flatMap wtC⟩, ⟨2, v1, (rTx s).1.rs.length, (rTx s).1.rs.flatMap rdC⟩] T2 := ⟨_, ⟨_, rfl, o1''⟩, o2⟩
 simp -implicitDefEqProofs -dsimp only [go_sem, seval, p1, p2, p3, p4, p5, p6, q1, q2, q3, q4, q5, q6, ↓J0 _ _ U4]
 refine can (qcy o2.rdAt) ?_
 have hbad : (V9 rWt (K3 8 (V9 rRd (K3 8 (K3 1 (rID s).2).2).1 (K3 8 (K3 1 (rID s).2).2).2).2).1 (K3 8 (V9 rRd (K3 8 (K3 1 (rID s).2).2).1 (K3 8 (K3 1 (rID s).2).2).2).2).2).2.2 = (rTx s).2.2 := rfl
 rw [hbad]
 have errEnd : qjd s = false -> qn0 (.tup [.agg [.i .i64 0, .i .u64 0, .b false, .fz 0 [] (some 0), .fz 0 [] (some 0)], q4z [116, 120, 110] (qla 3)]) (fun v T' => v = .tup [.agg ((q23 s).1.cells none none), (q23 s).2] /\ T' = rT T id (rTx s).2) T2 := by
  intro hb
  refine q30 how fun S hS => ?_
  simp only [q23, hb, Bool.false_eq_true, if_false, qlw, qah, q4z, qla, List.map_cons, List.map_nil, qbg, qc8, qha, qy2, qy1]
  exact Wk.tup ⟨Wk.agg Wks.tx, .refl _, trivial⟩
 have cN := qhm [116, 120, 110] 3
 rw [if_neg (by decide)] at cN
 rcases hb : (rTx s).2.2 with _ | _
 ·simp -implicitDefEqProofs -dsimp only [go_sem, seval, hb, p1, p2, p3, p4, p5, p6, q1, q2, q3, q4, q5, q6, ↓Q4, I4, true_and, ↓J0 _ _ V4]
  refine CallK.borrow (r := .b (qsn (rTx s).1)) how (fun S hS => ?_) .b (J1 ?_)
  ·obtain ⟨c1, e1⟩ := hS _ (List.mem_cons_of_mem _ (List.mem_cons_self ..))
   obtain ⟨c2, e2⟩ := hS _ (List.mem_cons_self ..)
   simp only at e1 e2
   have := qfj (rTx s).1 c1 c2 hf
   simp only [Tx.cells] at this
   simp only [List.map_cons, List.map_nil, qah, qbg, qc8, e1, e2]
   exact this
  rcases hok : qsn (rTx s).1 with _ | _
  ·simp -implicitDefEqProofs -dsimp only [go_sem, seval, hb, hok, p1, p2, p3, p4, p5, p6, q1, q2, q3, q4, q5, q6, ↓Q4, I4, true_and, ↓J0 _ _ I0]
   refine cpn cN ?_
   simp -implicitDefEqProofs -dsimp only [go_sem, seval, q4z, zTx]
   exact errEnd (by simp [qjd, hb, hok])
  ·simp -implicitDefEqProofs -dsimp only [go_sem, seval, hb, hok, zTx, p1, p2, p3, p4, p5, p6, q1, q2, q3, q4, q5, q6, ↓Q4, I4, true_and]
   have hk : qjd s = true := by simp [qjd, hb, hok]
   refine q30 how fun S hS => ?_
   obtain ⟨c1, e1⟩ := hS _ (List.mem_cons_of_mem _ (List.mem_cons_self ..))
   obtain ⟨c2, e2⟩ := hS _ (List.mem_cons_self ..)
   simp only at e1 e2
   simp only [q23, hk, if_true, qlw, qah, List.map_cons, List.map_nil, qbg, qc8, e1, e2, qy0]
   exact Wk.tup ⟨Wk.agg Wks.tx, .refl _, trivial⟩
 ·simp -implicitDefEqProofs -dsimp only [go_sem, seval, hb, p1, p2, p3, p4, p5, p6, q1, q2, q3, q4, q5, q6, ↓Q4, I4, true_and, ↓J0 _ _ I0]
  refine cpn cN ?_
  simp -implicitDefEqProofs -dsimp only [go_sem, seval, q4z, zTx]
  exact errEnd (by simp [qjd, hb])
end Go.Aw
namespace Go.Aw
open Go
open Go.Proofs.Tryz (prog)
set_option linter.all false
set_option maxHeartbeats 4000000
theorem qlb : ∀ (l seen : List Bs), ql4 seen l = true -> ∀ k ∈ l, qok k = true
 | [], _, _, k, hk => by cases hk
 | x :: l, seen, h, k, hk => by
  simp only [ql4, Bool.and_eq_true] at h
  rcases List.mem_cons.1 hk with rfl | hk
  ·exact h.1.1
  ·exact qlb l _ h.2 k hk
theorem qz6 {k : Bs} (h : qok k = true) : k.length <= 32 := by
 simp only [qok, Bool.and_eq_true, decide_eq_true_eq] at h; omega
theorem qdk {t : Tx} (h : qsn t = true) (hs : t.sq < 18446744073709551616) (hr : ∀ r ∈ t.rs, 0 <= r.n /\ r.n < 18446744073709551616) : t.Good := by
 simp only [qsn, qlx, Bool.and_eq_true, decide_eq_true_eq, Bool.not_eq_true', decide_eq_false_iff_not] at h
 obtain ⟨⟨⟨⟨⟨h1, h2⟩, h3⟩, h4⟩, h5⟩, ⟨h6, h7⟩, h8⟩ := h
 refine ⟨⟨h1.1.1, h1.1.2⟩, ⟨h1.2, hs⟩, by omega, by omega, fun r hm => ⟨qz6 (qlb _ _ h6 _ (List.mem_map_of_mem hm)), hr r hm⟩, fun w hm => ⟨qz6 (qlb _ _ h7 _ (List.mem_map_of_mem hm)), ?_⟩⟩
 have := List.all_eq_true.1 h8 w hm
 simp only [wOk, qyb, Bool.and_eq_true, decide_eq_true_eq] at this
 omega
theorem qqx {t : Tx} (h : t.Good) : (qgv t).length <= 2000 := by
 obtain ⟨hcl, hsq, hr, hw, hrr, hww⟩ := h
 have l1 := K6 (m := t.cl.toNat) (by omega)
 have l2 := K6 (m := t.sq.toNat) (by omega)
 have l3 := K6 (m := t.rs.length) (by omega)
 have l4 := K6 (m := t.ws.length) (by omega)
 have l5 := q58 (g := qcz) t.rs fun r hr => qqs (hrr r hr)
 have l6 := q58 (g := qe4) t.ws fun r hr => qqt (hww r hr)
 simp only [qgv, List.length_append, List.length_cons, List.length_nil]; omega
theorem qqy {t : Tx} (h : t.Good) (hok : qsn t = true) (rest : List UInt8) : qjd (qgv t ++ rest, false) = true := by
 unfold qjd; rw [qsr h]; simp [hok]
end Go.Aw
namespace Go.Aw
open Go
open Go.Proofs.Tryz (prog)
set_option linter.all false
set_option maxHeartbeats 4000000
theorem qsx : K4 prog qel = true := by kernel_rfl
def qp3 : Option Er -> AV
 | none => .nilifc
 | some e => e.av
def qbp : Option Er -> Int
 | none => 0
 | some e => e.code
theorem Er.ifc (e : Er) : ∃ t v, e.av = .ifc t v := by cases e <;> exact ⟨_, _, rfl⟩
theorem qsy (e : Option Er) : PCalls prog q62 [qp3 e] (.i .i64 (qbp e)) := by
 refine K5 Q9 qpr (by simp) fun T => ?_
 unfold qi3
 cases e with
 | none =>
  simp -implicitDefEqProofs -dsimp only [go_sem, seval, qp3, qbp, qmm]
  intro id hid
  refine J1 ?_
  simp -implicitDefEqProofs -dsimp only [go_sem, seval, qmm]
  exact ((TabLe.refl T).put hid).fin
 | some e =>
  obtain ⟨t, v, he⟩ := e.ifc
  have ca := fun (T : Tab) id old hT => qst (T := T) (id := id) (old := old) e hT
  simp only [qp3, qbp, he] at ca ⊢
  simp -implicitDefEqProofs -dsimp only [go_sem, seval, qmm]
  intro id hid
  refine J1 ?_
  simp -implicitDefEqProofs -dsimp only [go_sem, seval, qmm, ↓J0 _ _ qsx]
  refine can (ca _ id 0 (Tab.put_same ..)) ?_
  simp -implicitDefEqProofs -dsimp only [go_sem, seval, Tab.put_same]
  rw [Tab.put_put]
  exact ((TabLe.refl T).put hid).fin
theorem z3e (w : List UInt8) (e : Er) : PCalls prog qa1 [.s w, e.av] (q4z w e.av) := by
 refine K5 Q9 qvr (by simp) fun T => ?_
 obtain ⟨t, v, he⟩ := e.ifc
 rw [he]
 unfold qn8
 simp -implicitDefEqProofs -dsimp only [go_sem, seval, qmm]
 intro id hid
 refine J1 ?_
 simp -implicitDefEqProofs -dsimp only [go_sem, seval]
 refine ⟨[id], T, _, by simp, by simp [Tab.put_same], fun j => ?_, ?_, rfl, rfl⟩
 ·simp only [qfo]
  rw [Tab.put_put, Tab.put_self hid]; exact .inr (.inl rfl)
 ·simp only [qlw, qah, qd6, List.mem_singleton, if_true, Tab.put_same, List.drop_zero]
  exact .refl _
def q8x (e : En) : List UInt8 := enc e.ep.toNat ++ enc e.kd.toNat ++ (if e.kd = 1 then qgv e.t else enc e.cl.toNat ++ enc e.sq.toNat ++ enc e.co.toNat)
structure En.Good (e : En) : Prop where
 ep : 0 < e.ep /\ e.ep < 18446744073709551616
 kd : (e.kd = 1 /\ e.t.Good /\ qsn e.t = true /\ e.cl = 0 /\ e.sq = 0 /\ e.co = 0) \/
  (e.kd = 2 /\ e.t = q5i /\ (0 <= e.cl /\ e.cl < 6) /\ (0 < e.sq /\ e.sq < 18446744073709551616) /\ (e.co = 0 \/ e.co = 8 \/ e.co = 11))
theorem qz7 {t : Tx} (h : z4p t = true) : t = q5i := by
 obtain ⟨cl, sq, pl, rs, ws⟩ := t
 simp only [z4p, Bool.and_eq_true, decide_eq_true_eq, Bool.not_eq_true'] at h
 obtain ⟨⟨⟨rfl, rfl⟩, rfl⟩, h⟩ := h
 have h1 : rs = [] := List.length_eq_zero_iff.1 (by omega)
 have h2 : ws = [] := List.length_eq_zero_iff.1 (by omega)
 subst h1; subst h2; rfl
structure En.Rng (e : En) : Prop where
 ep : 0 <= e.ep /\ e.ep < 18446744073709551616
 tsq : e.t.sq < 18446744073709551616
 tr : ∀ r ∈ e.t.rs, 0 <= r.n /\ r.n < 18446744073709551616
 sq : e.sq < 18446744073709551616
theorem En.good_of {e : En} (h : qin e = true) (hr : e.Rng) : e.Good := by
 obtain ⟨h1, h2, h3, h4⟩ := hr
 simp only [qin, Bool.and_eq_true, Bool.not_eq_true', decide_eq_false_iff_not] at h
 obtain ⟨hep, h⟩ := h
 refine ⟨⟨by omega, h1.2⟩, ?_⟩
 by_cases hk : e.kd = 1
 ·rw [if_pos (by simpa using hk)] at h
  simp only [Bool.and_eq_true, decide_eq_true_eq] at h
  exact .inl ⟨hk, qdk h.1.1 h2 h3, h.1.1, h.1.2.1, h.1.2.2, h.2⟩
 ·rw [if_neg (by simpa using hk)] at h
  simp only [Bool.and_eq_true, decide_eq_true_eq, qlx, z9f, Bool.or_eq_true] at h
  obtain ⟨hk2, ⟨hn, hid⟩, hco⟩ := h
  exact .inr ⟨hk2, qz7 hn, ⟨hid.1.1, hid.1.2⟩, ⟨hid.2, h4⟩, hco⟩
theorem En.Good.ok {e : En} (h : e.Good) : qin e = true := by
 obtain ⟨h1, h2⟩ := h
 have he : decide (e.ep = 0) = false := decide_eq_false (by omega)
 rcases h2 with ⟨h3, h4, h5, h6, h7, h8⟩ | ⟨h3, h4, h5, h6, h7⟩
 ·simp [qin, he, h3, h5, h6, h7, h8]
 ·have : z4p e.t = true := by rw [h4]; rfl
  have e2 : qlx e.cl e.sq = true := by simp [qlx]; omega
  have e3 : z9f e.co = true := by rcases h7 with h | h | h <;> rw [h] <;> rfl
  simp [qin, he, h3, this, e2, e3]
def rEn (s : RS) : En × RS :=
 let a := K3 18446744073709551615 s
 let k := K3 2 a.2
 if k.1 = 1 then (⟨a.1, k.1, (q23 k.2).1, 0, 0, 0⟩, (rTx k.2).2)
 else if k.1 = 2 then (⟨a.1, k.1, q5i, (rID k.2).1.1, (rID k.2).1.2, (K3 99 (rID k.2).2).1⟩, (K3 99 (rID k.2).2).2)
 else (⟨a.1, k.1, q5i, 0, 0, 0⟩, k.2)
def qgw (s : RS) : Bool := !decide ((K3 2 (K3 18446744073709551615 s).2).1 = 1) || qjd (K3 2 (K3 18446744073709551615 s).2).2
def q87 (s : RS) : Bool := qgw s && (!(rEn s).2.2 && decide ((rEn s).2.1 = [])) && qin (rEn s).1
def z3f : En := ⟨0, 0, q5i, 0, 0, 0⟩
def q1n (s : RS) : Option Er := if q87 s = true then none else if qgw s = false then some (.flt [101, 110, 116, 114, 121] (.flt [116, 120, 110] (.num 3))) else some (.flt [101, 110, 116, 114, 121] (.num 3))
def q69 (s : RS) : En := if q87 s = true then (rEn s).1 else z3f
theorem z5h {e : En} (h : e.Good) : rEn (q8x e, false) = (e, ([], false)) /\ qgw (q8x e, false) = true := by
 obtain ⟨ep, kd, t, cl, sq, co⟩ := e
 obtain ⟨h1, h2⟩ := h
 simp only at h1 h2
 rcases h2 with ⟨rfl, h4, h5, rfl, rfl, rfl⟩ | ⟨rfl, rfl, h5, h6, h7⟩
 ·have e : q8x ⟨ep, 1, t, 0, 0, 0⟩ = enc ep.toNat ++ (enc 1 ++ (qgv t ++ [])) := by simp [q8x]
  have hx := qsr h4 []
  have hk := qqy h4 h5 []
  rw [List.append_nil] at hx hk
  unfold rEn qgw
  rw [e, U0 (by omega) (by omega)]
  simp only [U0 (show 1 <= 2 by omega) (by omega), if_true, q23, List.append_nil, hx, hk]
  rw [show ((ep.toNat : Nat) : Int) = ep by omega]
  exact ⟨rfl, rfl⟩
 ·have e : q8x ⟨ep, 2, q5i, cl, sq, co⟩ = enc ep.toNat ++ (enc 2 ++ (enc cl.toNat ++ (enc sq.toNat ++ (enc co.toNat ++ [])))) := by simp [q8x]
  unfold rEn qgw rID
  rw [e, U0 (by omega) (by omega)]
  simp only [U0 (show 2 <= 2 by omega) (by omega)]
  rw [if_neg (by decide), if_pos trivial, U0 (by omega) (by omega)]
  simp only [U0 (show sq.toNat <= 18446744073709551615 by omega) (by omega)]
  rw [U0 (by omega) (by omega)]
  simp only
  rw [show ((ep.toNat : Nat) : Int) = ep by omega, show ((cl.toNat : Nat) : Int) = cl by omega, show ((sq.toNat : Nat) : Int) = sq by omega, show ((co.toNat : Nat) : Int) = co by omega]
  exact ⟨rfl, rfl⟩
theorem qz8 {e : En} (h : e.Good) : q87 (q8x e, false) = true /\ q69 (q8x e, false) = e := by
 have h1 := z5h h
 have h2 : q87 (q8x e, false) = true := by simp [q87, h1.1, h1.2, h.ok]
 exact ⟨h2, by simp [q69, h2, h1.1]⟩
theorem qz9 (s : RS) : (rEn s).1.Rng := by
 have h1 := q21 18446744073709551615 s
 unfold rEn
 simp only
 have hz : ∀ a b c d f : Int, 0 <= a /\ a < 18446744073709551616 -> d < 18446744073709551616 -> (⟨a, b, q5i, c, d, f⟩ : En).Rng := fun a b c d f h1 h2 => ⟨h1, (by show (0 : Int) < _; decide), (fun r hr => by cases hr), h2⟩
 split
 ·have ht : ∀ t : Tx, t.sq < 18446744073709551616 -> (∀ r ∈ t.rs, 0 <= r.n /\ r.n < 18446744073709551616) -> (⟨(K3 18446744073709551615 s).1, (K3 2 (K3 18446744073709551615 s).2).1, t, 0, 0, 0⟩ : En).Rng := fun t h2 h3 => ⟨by simp only; omega, h2, h3, by show (0 : Int) < _; decide⟩
  unfold q23
  split
  ·refine ht _ ?_ ?_
   ·have := q21 18446744073709551615 (K3 5 (K3 2 (K3 18446744073709551615 s).2).2).2
    show ((K3 18446744073709551615 (K3 5 (K3 2 (K3 18446744073709551615 s).2).2).2).1 : Int) < _
    omega
   ·exact q8c (p := fun r : Rd => 0 <= r.n /\ r.n < 18446744073709551616) (fun s => by
     have := q21 18446744073709551615 (q1o 32 s).2
     show 0 <= ((K3 18446744073709551615 (q1o 32 s).2).1 : Int) /\ ((K3 18446744073709551615 (q1o 32 s).2).1 : Int) < _
     omega) _ _
  ·exact ht _ (by show (0 : Int) < _; decide) (fun r hr => by cases hr)
 ·split
  ·refine hz _ _ _ _ _ (by omega) ?_
   have := q21 18446744073709551615 (K3 5 (K3 2 (K3 18446744073709551615 s).2).2).2
   show ((K3 18446744073709551615 (K3 5 (K3 2 (K3 18446744073709551615 s).2).2).2).1 : Int) < _
   omega
  ·exact hz _ _ _ _ _ (by omega) (by decide)
end Go.Aw
