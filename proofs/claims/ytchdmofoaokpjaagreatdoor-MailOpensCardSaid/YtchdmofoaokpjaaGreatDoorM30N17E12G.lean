import Derived.Test.YtchdmofoaokpjaaGreatDoorM30N17E12D
import Derived.Test.YtchdmofoaokpjaaGreatDoorAwD
import Derived.Test.YtchdmofoaokpjaaGreatDoorM30N17E12X
namespace Go.Aw
open Go
open Go.Proofs.Tryz (prog)
set_option linter.all false
set_option maxHeartbeats 4000000
theorem qow (s : RS) : (rID s).2.1.length <= s.1.length := Nat.le_trans (O7 _ _) (O7 _ _)
theorem qsx (s : RS) : (rRd s).2.1.length <= s.1.length := Nat.le_trans (O7 _ _) (q6o _ _)
theorem qze (s : RS) : (rWt s).2.1.length <= s.1.length := Nat.le_trans (O7 _ _) (Nat.le_trans (q6o _ _) (q6o _ _))
theorem qqy {T : Tab} {id : Nat} {s : RS} (h : T id = q69 s) (hl : Len s.1.length) : ACalls prog q5m [.ptr id 0] T (fun v T' => v = .agg [.i .i64 (rID s).1.1, .i .u64 (rID s).1.2] /\ T' = rT T id (rID s).2) := by
 refine U7 U1 qmm (by simp) ?_
 unfold qef
 simp -implicitDefEqProofs -dsimp only [go_sem, seval, ↓J0 _ _ N2]
 refine can (q45 h 5 (by decide) hl) ?_
 simp -implicitDefEqProofs -dsimp only [go_sem, seval, ↓J0 _ _ q0s]
 refine can (z3v q4i (q14 (O7 _ _) hl)) ?_
 simp -implicitDefEqProofs -dsimp only [go_sem, seval]
 exact q82 (.refl _) qd6
theorem qsy {R : G9} (hR : ExtR R) {B : Tab} {id : Nat} {a b c v0 : AV} (ha : a.plain = true /\ b.plain = true /\ c.plain = true /\ v0.plain = true) : ∀ (n : Nat) (s : RS) (os : List Rd) (v : AV) (T1 : Tab), n <= 8 -> os.length + n <= 1000 -> Len s.1.length ->
  Own (rT B id s) 2 v os.length (os.flatMap rdC) T1 ->
  (∀ v T1 m, Own (rT B id (Y1 rRd n s).2) 2 v (os ++ (Y1 rRd n s).1).length ((os ++ (Y1 rRd n s).1).flatMap rdC) T1 -> R (.exit 0) [(0, .ptr id 0), (2, .lp 2 0), (4, .lp 4 0), (5, .i .i64 m), (23, .b false)] [(2, zTx), (4, [a, b, c, v, v0])] T1) ->
  AW prog q80 R [(0, .ptr id 0), (2, .lp 2 0), (4, .lp 4 0), (5, .i .i64 n)] [(2, zTx), (4, [a, b, c, v, v0])] T1 := by
 obtain ⟨a1, a2, a3, a4⟩ := ha
 intro n
 induction n with
 | zero =>
  intro s os v T1 hn hos hl ho h2
  obtain ⟨p1, p2, p3, p4, p5, p6⟩ := ho.form
  refine V1 hR ?_
  unfold q7c
  simp -implicitDefEqProofs -dsimp only [go_sem, seval, show ((0 : Nat) : Int) = 0 from rfl, ↓Q2, I2, true_and, decide_false]
  exact h2 v T1 0 (by simpa [Y1] using ho)
 | succ n ih =>
  intro s os v T1 hn hos hl ho h2
  obtain ⟨p1, p2, p3, p4, p5, p6⟩ := ho.form
  have hpos : decide ((0 : Int) < ((n + 1 : Nat) : Int)) = true := decide_eq_true (by omega)
  refine Q1 (l := q80) rfl hR ?_
  unfold q7c
  simp -implicitDefEqProofs -dsimp only [go_sem, seval, hpos, ↓Q2, I2, true_and, ↓J0 _ _ U4]
  refine can (qd7 ho.rdAt) ?_
  rcases hb : s.2 with _ | _
  case true =>
   have e : Y1 rRd (n + 1) s = ([], s) := by simp [Y1, hb]
   rw [e] at h2
   simp -implicitDefEqProofs -dsimp only [go_sem, seval, hb]
   exact h2 v T1 _ (by simpa using ho)
  have e : Y1 rRd (n + 1) s = ((rRd s).1 :: (Y1 rRd n (rRd s).2).1, (Y1 rRd n (rRd s).2).2) := by simp [Y1, hb]
  rw [e] at h2
  have ho1 := ho.rd (q1q 32 s).2
  have ho2 := ho1.rd (rRd s).2
  have l1 := q14 (q6o 32 s) hl
  simp -implicitDefEqProofs -dsimp only [go_sem, seval, hb, p1, p2, p3, p4, p5, p6, ↓J0 _ _ q13]
  refine can (qhm ho.rdAt 32 (by decide) hl) ?_
  simp -implicitDefEqProofs -dsimp only [go_sem, seval, p1, p2, p3, p4, p5, p6, ↓J0 _ _ q0s]
  refine can (z3v ho1.rdAt l1) ?_
  simp -implicitDefEqProofs -dsimp only [go_sem, seval, p1, p2, p3, p4, p5, p6, a1, a2, a3, a4]
  refine ho2.app (m := 1) (news := rdC (rRd s).1) rfl rfl (by omega) (by omega) fun v2 T2 ho => J1 ?_
  obtain ⟨p1, p2, p3, p4, p5, p6⟩ := ho.form
  simp -implicitDefEqProofs -dsimp only [go_sem, seval, p1, p2, p3, p4, p5, p6, a1, a2, a3, a4]
  rw [qa9 (by omega)]
  refine ih (rRd s).2 (os ++ [(rRd s).1]) v2 T2 (by omega) (by simp; omega) (q14 (qsx s) hl) (by simpa using ho) fun v T1 m ho => h2 v T1 m ?_
  simpa only [List.append_assoc, List.cons_append, List.nil_append] using ho
theorem qsz {R : G9} (hR : ExtR R) {B : Tab} {id : Nat} {a b c v0 : AV} (ha : a.plain = true /\ b.plain = true /\ c.plain = true /\ v0.plain = true) : ∀ (n : Nat) (s : RS) (os : List Wt) (v : AV) (T1 : Tab), n <= 8 -> os.length + n <= 1000 -> Len s.1.length ->
  Own (rT B id s) 3 v os.length (os.flatMap wtC) T1 ->
  (∀ v T1 m, Own (rT B id (Y1 rWt n s).2) 3 v (os ++ (Y1 rWt n s).1).length ((os ++ (Y1 rWt n s).1).flatMap wtC) T1 -> R (.exit 2) [(0, .ptr id 0), (2, .lp 2 0), (4, .lp 4 0), (7, .i .i64 m), (46, .b false)] [(2, zTx), (4, [a, b, c, v0, v])] T1) ->
  AW prog q81 R [(0, .ptr id 0), (2, .lp 2 0), (4, .lp 4 0), (7, .i .i64 n)] [(2, zTx), (4, [a, b, c, v0, v])] T1 := by
 obtain ⟨a1, a2, a3, a4⟩ := ha
 intro n
 induction n with
 | zero =>
  intro s os v T1 hn hos hl ho h2
  obtain ⟨p1, p2, p3, p4, p5, p6⟩ := ho.form
  refine V1 hR ?_
  unfold q7d
  simp -implicitDefEqProofs -dsimp only [go_sem, seval, show ((0 : Nat) : Int) = 0 from rfl, ↓Q2, I2, true_and, decide_false]
  exact h2 v T1 0 (by simpa [Y1] using ho)
 | succ n ih =>
  intro s os v T1 hn hos hl ho h2
  obtain ⟨p1, p2, p3, p4, p5, p6⟩ := ho.form
  have hpos : decide ((0 : Int) < ((n + 1 : Nat) : Int)) = true := decide_eq_true (by omega)
  refine Q1 (l := q81) rfl hR ?_
  unfold q7d
  simp -implicitDefEqProofs -dsimp only [go_sem, seval, hpos, ↓Q2, I2, true_and, ↓J0 _ _ U4]
  refine can (qd7 ho.rdAt) ?_
  rcases hb : s.2 with _ | _
  case true =>
   have e : Y1 rWt (n + 1) s = ([], s) := by simp [Y1, hb]
   rw [e] at h2
   simp -implicitDefEqProofs -dsimp only [go_sem, seval, hb]
   exact h2 v T1 _ (by simpa using ho)
  have e : Y1 rWt (n + 1) s = ((rWt s).1 :: (Y1 rWt n (rWt s).2).1, (Y1 rWt n (rWt s).2).2) := by simp [Y1, hb]
  rw [e] at h2
  have ho1 := ho.rd (q1q 32 s).2
  have ho2 := ho1.rd (q1q 64 (q1q 32 s).2).2
  have ho3 := ho2.rd (rWt s).2
  have l1 := q14 (q6o 32 s) hl
  have l2 := q14 (q6o 64 _) l1
  simp -implicitDefEqProofs -dsimp only [go_sem, seval, hb, p1, p2, p3, p4, p5, p6, ↓J0 _ _ q13]
  refine can (qhm ho.rdAt 32 (by decide) hl) ?_
  simp -implicitDefEqProofs -dsimp only [go_sem, seval, p1, p2, p3, p4, p5, p6, ↓J0 _ _ q13]
  refine can (qhm ho1.rdAt 64 (by decide) l1) ?_
  simp -implicitDefEqProofs -dsimp only [go_sem, seval, p1, p2, p3, p4, p5, p6, ↓J0 _ _ q3t]
  refine can (qor ho2.rdAt l2) ?_
  simp -implicitDefEqProofs -dsimp only [go_sem, seval, p1, p2, p3, p4, p5, p6, a1, a2, a3, a4]
  refine ho3.app (m := 1) (news := wtC (rWt s).1) rfl rfl (by omega) (by omega) fun v2 T2 ho => J1 ?_
  obtain ⟨p1, p2, p3, p4, p5, p6⟩ := ho.form
  simp -implicitDefEqProofs -dsimp only [go_sem, seval, p1, p2, p3, p4, p5, p6, a1, a2, a3, a4]
  rw [qa9 (by omega)]
  refine ih (rWt s).2 (os ++ [(rWt s).1]) v2 T2 (by omega) (by simp; omega) (q14 (qze s) hl) (by simpa using ho) fun v T1 m ho => h2 v T1 m ?_
  simpa only [List.append_assoc, List.cons_append, List.nil_append] using ho
theorem qqz (s : RS) : (q1q 32 s).1.length <= 32 := qfz 32 s
theorem qox (s : RS) : (rTx s).1.Fine := by
 refine ⟨?_, ?_, ?_, ?_, ?_⟩
 ·have h1 := qdi (f := rRd) (K3 8 (K3 1 (rID s).2).2).1 (K3 8 (K3 1 (rID s).2).2).2
  have h2 := q24 8 (K3 1 (rID s).2).2
  show (Y1 rRd _ _).1.length < _; omega
 ·have h1 := qdi (f := rWt) (K3 8 (Y1 rRd (K3 8 (K3 1 (rID s).2).2).1 (K3 8 (K3 1 (rID s).2).2).2).2).1 (K3 8 (Y1 rRd (K3 8 (K3 1 (rID s).2).2).1 (K3 8 (K3 1 (rID s).2).2).2).2).2
  have h2 := q24 8 (Y1 rRd (K3 8 (K3 1 (rID s).2).2).1 (K3 8 (K3 1 (rID s).2).2).2).2
  show (Y1 rWt _ _).1.length < _; omega
 ·exact q8i (p := fun r : Rd => Len r.k.length) (fun s => by have := qqz s; show Len (q1q 32 s).1.length; unfold Len; omega) _ _
 ·exact q8i (p := fun r : Wt => Len r.k.length) (fun s => by have := qqz s; show Len (q1q 32 s).1.length; unfold Len; omega) _ _
 ·exact q8i (p := fun r : Wt => Len r.v.length) (fun s => by have := qfz 64 (q1q 32 s).2; show Len (q1q 64 (q1q 32 s).2).1.length; unfold Len; omega) _ _
def q5s : Tx := ⟨0, 0, false, [], []⟩
def qjf (s : RS) : Bool := !(rTx s).2.2 && qsq (rTx s).1
def q27 (s : RS) : Tx × AV := if qjf s = true then ((rTx s).1, .nilifc) else (q5s, q56 [116, 120, 110] (qlg 3))
theorem qni {T : Tab} {id : Nat} {s : RS} (h : T id = q69 s) (hl : Len s.1.length) : ACalls prog q4m [.ptr id 0] T (fun v T' => v = .tup [.agg ((q27 s).1.cells none none), (q27 s).2] /\ T' = rT T id (rTx s).2) := by
 refine U7 U1 qky (by simp) ?_
 have l1 := q14 (qow s) hl
 have l2 := q14 (O7 1 _) l1
 have l3 := q14 (O7 8 _) l2
 have l4 := q14 (q6p qsx (K3 8 (K3 1 (rID s).2).2).1 _) l3
 have l5 := q14 (O7 8 _) l4
 have b1 := q24 8 (K3 1 (rID s).2).2
 have b2 := q24 8 (Y1 rRd (K3 8 (K3 1 (rID s).2).2).1 (K3 8 (K3 1 (rID s).2).2).2).2
 have hf := qox s
 unfold qcv
 simp -implicitDefEqProofs -dsimp only [go_sem, seval, ↓J0 _ _ qeg]
 refine can (qqy h hl) ?_
 simp -implicitDefEqProofs -dsimp only [go_sem, seval, ↓J0 _ _ q3t]
 refine can (qor q4i l1) ?_
 simp -implicitDefEqProofs -dsimp only [go_sem, seval, qd6, ↓J0 _ _ N2]
 refine can (q45 q4i 8 (by decide) l2) ?_
 simp -implicitDefEqProofs -dsimp only [go_sem, seval, qd6]
 refine qsy (B := T) (by repeat' (first | exact O6 _ _ | assumption | apply O5 | apply N4 | apply V8)) ⟨rfl, rfl, rfl, rfl⟩ _ _ [] _ _ b1 (by simp; omega) l3 (.nil ..) (fun v1 T1 m o1 => ?_)
 obtain ⟨p1, p2, p3, p4, p5, p6⟩ := o1.form
 have o1' := o1.rd (K3 8 (Y1 rRd (K3 8 (K3 1 (rID s).2).2).1 (K3 8 (K3 1 (rID s).2).2).2).2).2
 simp -implicitDefEqProofs -dsimp only [go_sem, seval, p1, p2, p3, p4, p5, p6, ↓J0 _ _ N2]
 refine can (q45 o1.rdAt 8 (by decide) l4) ?_
 simp -implicitDefEqProofs -dsimp only [go_sem, seval, p1, p2, p3, p4, p5, p6]
 refine qsz (B := T1) (by repeat' (first | exact O6 _ _ | assumption | apply O5 | apply N4 | apply V8)) ⟨rfl, rfl, rfl, p1⟩ _ _ [] _ _ b2 (by simp; omega) l5 (.nil ..) (fun v2 T2 m o2 => ?_)
 obtain ⟨q1, q2, q3, q4, q5, q6⟩ := o2.form
 have o1'' := o1.rd (rTx s).2
 have how : Owns (rT T id (rTx s).2) [⟨3, v2, (rTx s).1.ws.length, (rTx s).1.ws.flatMap wtC⟩, ⟨2, v1, (rTx s).1.rs.length, (rTx s).1.rs.flatMap rdC⟩] T2 := ⟨_, ⟨_, rfl, o1''⟩, o2⟩
 simp -implicitDefEqProofs -dsimp only [go_sem, seval, p1, p2, p3, p4, p5, p6, q1, q2, q3, q4, q5, q6, ↓J0 _ _ U4]
 refine can (qd7 o2.rdAt) ?_
 have hbad : (Y1 rWt (K3 8 (Y1 rRd (K3 8 (K3 1 (rID s).2).2).1 (K3 8 (K3 1 (rID s).2).2).2).2).1 (K3 8 (Y1 rRd (K3 8 (K3 1 (rID s).2).2).1 (K3 8 (K3 1 (rID s).2).2).2).2).2).2.2 = (rTx s).2.2 := rfl
 rw [hbad]
 have errEnd : qjf s = false -> qn5 (.tup [.agg [.i .i64 0, .i .u64 0, .b false, .fz 0 [] (some 0), .fz 0 [] (some 0)], q56 [116, 120, 110] (qlg 3)]) (fun v T' => v = .tup [.agg ((q27 s).1.cells none none), (q27 s).2] /\ T' = rT T id (rTx s).2) T2 := by
  intro hb
  refine q33 how fun S hS => ?_
  simp only [q27, hb, Bool.false_eq_true, if_false, qm5, q99, q56, qlg, List.map_cons, List.map_nil, qbs, qch, qha, qy7, qy6]
  exact Wk.tup ⟨Wk.agg Wks.tx, .refl _, trivial⟩
 have cN := qhn [116, 120, 110] 3
 rw [if_neg (by decide)] at cN
 rcases hb : (rTx s).2.2 with _ | _
 ·simp -implicitDefEqProofs -dsimp only [go_sem, seval, hb, p1, p2, p3, p4, p5, p6, q1, q2, q3, q4, q5, q6, ↓Q2, I2, true_and, ↓J0 _ _ V4]
  refine CallK.borrow (r := .b (qsq (rTx s).1)) how (fun S hS => ?_) .b (J1 ?_)
  ·obtain ⟨c1, e1⟩ := hS _ (List.mem_cons_of_mem _ (List.mem_cons_self ..))
   obtain ⟨c2, e2⟩ := hS _ (List.mem_cons_self ..)
   simp only at e1 e2
   have := qfi (rTx s).1 c1 c2 hf
   simp only [Tx.cells] at this
   simp only [List.map_cons, List.map_nil, q99, qbs, qch, e1, e2]
   exact this
  rcases hok : qsq (rTx s).1 with _ | _
  ·simp -implicitDefEqProofs -dsimp only [go_sem, seval, hb, hok, p1, p2, p3, p4, p5, p6, q1, q2, q3, q4, q5, q6, ↓Q2, I2, true_and, ↓J0 _ _ I3]
   refine cpn cN ?_
   simp -implicitDefEqProofs -dsimp only [go_sem, seval, q56, zTx]
   exact errEnd (by simp [qjf, hb, hok])
  ·simp -implicitDefEqProofs -dsimp only [go_sem, seval, hb, hok, zTx, p1, p2, p3, p4, p5, p6, q1, q2, q3, q4, q5, q6, ↓Q2, I2, true_and]
   have hk : qjf s = true := by simp [qjf, hb, hok]
   refine q33 how fun S hS => ?_
   obtain ⟨c1, e1⟩ := hS _ (List.mem_cons_of_mem _ (List.mem_cons_self ..))
   obtain ⟨c2, e2⟩ := hS _ (List.mem_cons_self ..)
   simp only at e1 e2
   simp only [q27, hk, if_true, qm5, q99, List.map_cons, List.map_nil, qbs, qch, e1, e2, qy5]
   exact Wk.tup ⟨Wk.agg Wks.tx, .refl _, trivial⟩
 ·simp -implicitDefEqProofs -dsimp only [go_sem, seval, hb, p1, p2, p3, p4, p5, p6, q1, q2, q3, q4, q5, q6, ↓Q2, I2, true_and, ↓J0 _ _ I3]
  refine cpn cN ?_
  simp -implicitDefEqProofs -dsimp only [go_sem, seval, q56, zTx]
  exact errEnd (by simp [qjf, hb])
end Go.Aw
namespace Go.Aw
open Go
open Go.Proofs.Tryz (prog)
set_option linter.all false
set_option maxHeartbeats 4000000
theorem qlh : ∀ (l seen : List Bs), ql9 seen l = true -> ∀ k ∈ l, qoo k = true
 | [], _, _, k, hk => by cases hk
 | x :: l, seen, h, k, hk => by
  simp only [ql9, Bool.and_eq_true] at h
  rcases List.mem_cons.1 hk with rfl | hk
  ·exact h.1.1
  ·exact qlh l _ h.2 k hk
theorem qzf {k : Bs} (h : qoo k = true) : k.length <= 32 := by
 simp only [qoo, Bool.and_eq_true, decide_eq_true_eq] at h; omega
theorem qdn {t : Tx} (h : qsq t = true) (hs : t.sq < 18446744073709551616) (hr : ∀ r ∈ t.rs, 0 <= r.n /\ r.n < 18446744073709551616) : t.Good := by
 simp only [qsq, qm6, Bool.and_eq_true, decide_eq_true_eq, Bool.not_eq_true', decide_eq_false_iff_not] at h
 obtain ⟨⟨⟨⟨⟨h1, h2⟩, h3⟩, h4⟩, h5⟩, ⟨h6, h7⟩, h8⟩ := h
 refine ⟨⟨h1.1.1, h1.1.2⟩, ⟨h1.2, hs⟩, by omega, by omega, fun r hm => ⟨qzf (qlh _ _ h6 _ (List.mem_map_of_mem hm)), hr r hm⟩, fun w hm => ⟨qzf (qlh _ _ h7 _ (List.mem_map_of_mem hm)), ?_⟩⟩
 have := List.all_eq_true.1 h8 w hm
 simp only [wOk, qyj, Bool.and_eq_true, decide_eq_true_eq] at this
 omega
theorem qr0 {t : Tx} (h : t.Good) : (qgv t).length <= 2000 := by
 obtain ⟨hcl, hsq, hr, hw, hrr, hww⟩ := h
 have l1 := K5 (m := t.cl.toNat) (by omega)
 have l2 := K5 (m := t.sq.toNat) (by omega)
 have l3 := K5 (m := t.rs.length) (by omega)
 have l4 := K5 (m := t.ws.length) (by omega)
 have l5 := q5i (g := qd8) t.rs fun r hr => qqv (hrr r hr)
 have l6 := q5i (g := qe6) t.ws fun r hr => qqw (hww r hr)
 simp only [qgv, List.length_append, List.length_cons, List.length_nil]; omega
theorem qr1 {t : Tx} (h : t.Good) (hok : qsq t = true) (rest : List UInt8) : qjf (qgv t ++ rest, false) = true := by
 unfold qjf; rw [qsu h]; simp [hok]
end Go.Aw
namespace Go.Aw
open Go
open Go.Proofs.Tryz (prog)
set_option linter.all false
set_option maxHeartbeats 4000000
theorem qt0 : K4 prog qem = true := by kernel_rfl
def qp6 : Option Er -> AV
 | none => .nilifc
 | some e => e.av
def q57 : Option Er -> Int
 | none => 0
 | some e => e.code
theorem Er.ifc (e : Er) : ∃ t v, e.av = .ifc t v := by cases e <;> exact ⟨_, _, rfl⟩
theorem qt1 (e : Option Er) : PCalls prog q6d [qp6 e] (.i .i64 (q57 e)) := by
 refine K6 U1 qpu (by simp) fun T => ?_
 unfold qi2
 cases e with
 | none =>
  simp -implicitDefEqProofs -dsimp only [go_sem, seval, qp6, q57, qm1]
  intro id hid
  refine J1 ?_
  simp -implicitDefEqProofs -dsimp only [go_sem, seval, qm1]
  exact ((TabLe.refl T).put hid).fin
 | some e =>
  obtain ⟨t, v, he⟩ := e.ifc
  have ca := fun (T : Tab) id old hT => qsw (T := T) (id := id) (old := old) e hT
  simp only [qp6, q57, he] at ca ⊢
  simp -implicitDefEqProofs -dsimp only [go_sem, seval, qm1]
  intro id hid
  refine J1 ?_
  simp -implicitDefEqProofs -dsimp only [go_sem, seval, qm1, ↓J0 _ _ qt0]
  refine can (ca _ id 0 (Tab.put_same ..)) ?_
  simp -implicitDefEqProofs -dsimp only [go_sem, seval, Tab.put_same]
  rw [Tab.put_put]
  exact ((TabLe.refl T).put hid).fin
theorem z3w (w : List UInt8) (e : Er) : PCalls prog qac [.s w, e.av] (q56 w e.av) := by
 refine K6 U1 qvv (by simp) fun T => ?_
 obtain ⟨t, v, he⟩ := e.ifc
 rw [he]
 unfold qne
 simp -implicitDefEqProofs -dsimp only [go_sem, seval, qm1]
 intro id hid
 refine J1 ?_
 simp -implicitDefEqProofs -dsimp only [go_sem, seval]
 refine ⟨[id], T, _, by simp, by simp [Tab.put_same], fun j => ?_, ?_, rfl, rfl⟩
 ·simp only [qfo]
  rw [Tab.put_put, Tab.put_self hid]; exact .inr (.inl rfl)
 ·simp only [qm5, q99, qc6, List.mem_singleton, if_true, Tab.put_same, List.drop_zero]
  exact .refl _
def q93 (e : En) : List UInt8 := enc e.ep.toNat ++ enc e.kd.toNat ++ (if e.kd = 1 then qgv e.t else enc e.cl.toNat ++ enc e.sq.toNat ++ enc e.co.toNat)
structure En.Good (e : En) : Prop where
 ep : 0 < e.ep /\ e.ep < 18446744073709551616
 kd : (e.kd = 1 /\ e.t.Good /\ qsq e.t = true /\ e.cl = 0 /\ e.sq = 0 /\ e.co = 0) \/
  (e.kd = 2 /\ e.t = q5s /\ (0 <= e.cl /\ e.cl < 6) /\ (0 < e.sq /\ e.sq < 18446744073709551616) /\ (e.co = 0 \/ e.co = 8 \/ e.co = 11))
theorem qzg {t : Tx} (h : z58 t = true) : t = q5s := by
 obtain ⟨cl, sq, pl, rs, ws⟩ := t
 simp only [z58, Bool.and_eq_true, decide_eq_true_eq, Bool.not_eq_true'] at h
 obtain ⟨⟨⟨rfl, rfl⟩, rfl⟩, h⟩ := h
 have h1 : rs = [] := List.length_eq_zero_iff.1 (by omega)
 have h2 : ws = [] := List.length_eq_zero_iff.1 (by omega)
 subst h1; subst h2; rfl
structure En.Rng (e : En) : Prop where
 ep : 0 <= e.ep /\ e.ep < 18446744073709551616
 tsq : e.t.sq < 18446744073709551616
 tr : ∀ r ∈ e.t.rs, 0 <= r.n /\ r.n < 18446744073709551616
 sq : e.sq < 18446744073709551616
theorem En.good_of {e : En} (h : qim e = true) (hr : e.Rng) : e.Good := by
 obtain ⟨h1, h2, h3, h4⟩ := hr
 simp only [qim, Bool.and_eq_true, Bool.not_eq_true', decide_eq_false_iff_not] at h
 obtain ⟨hep, h⟩ := h
 refine ⟨⟨by omega, h1.2⟩, ?_⟩
 by_cases hk : e.kd = 1
 ·rw [if_pos (by simpa using hk)] at h
  simp only [Bool.and_eq_true, decide_eq_true_eq] at h
  exact .inl ⟨hk, qdn h.1.1 h2 h3, h.1.1, h.1.2.1, h.1.2.2, h.2⟩
 ·rw [if_neg (by simpa using hk)] at h
  simp only [Bool.and_eq_true, decide_eq_true_eq, qm6, z9z, Bool.or_eq_true] at h
  obtain ⟨hk2, ⟨hn, hid⟩, hco⟩ := h
  exact .inr ⟨hk2, qzg hn, ⟨hid.1.1, hid.1.2⟩, ⟨hid.2, h4⟩, hco⟩
theorem En.Good.ok {e : En} (h : e.Good) : qim e = true := by
 obtain ⟨h1, h2⟩ := h
 have he : decide (e.ep = 0) = false := decide_eq_false (by omega)
 rcases h2 with ⟨h3, h4, h5, h6, h7, h8⟩ | ⟨h3, h4, h5, h6, h7⟩
 ·simp [qim, he, h3, h5, h6, h7, h8]
 ·have : z58 e.t = true := by rw [h4]; rfl
  have e2 : qm6 e.cl e.sq = true := by simp [qm6]; omega
  have e3 : z9z e.co = true := by rcases h7 with h | h | h <;> rw [h] <;> rfl
  simp [qim, he, h3, this, e2, e3]
def rEn (s : RS) : En × RS :=
 let a := K3 18446744073709551615 s
 let k := K3 2 a.2
 if k.1 = 1 then (⟨a.1, k.1, (q27 k.2).1, 0, 0, 0⟩, (rTx k.2).2)
 else if k.1 = 2 then (⟨a.1, k.1, q5s, (rID k.2).1.1, (rID k.2).1.2, (K3 99 (rID k.2).2).1⟩, (K3 99 (rID k.2).2).2)
 else (⟨a.1, k.1, q5s, 0, 0, 0⟩, k.2)
def qgw (s : RS) : Bool := !decide ((K3 2 (K3 18446744073709551615 s).2).1 = 1) || qjf (K3 2 (K3 18446744073709551615 s).2).2
def q8d (s : RS) : Bool := qgw s && (!(rEn s).2.2 && decide ((rEn s).2.1 = [])) && qim (rEn s).1
def z3x : En := ⟨0, 0, q5s, 0, 0, 0⟩
def q1p (s : RS) : Option Er := if q8d s = true then none else if qgw s = false then some (.flt [101, 110, 116, 114, 121] (.flt [116, 120, 110] (.num 3))) else some (.flt [101, 110, 116, 114, 121] (.num 3))
def q6l (s : RS) : En := if q8d s = true then (rEn s).1 else z3x
theorem z60 {e : En} (h : e.Good) : rEn (q93 e, false) = (e, ([], false)) /\ qgw (q93 e, false) = true := by
 obtain ⟨ep, kd, t, cl, sq, co⟩ := e
 obtain ⟨h1, h2⟩ := h
 simp only at h1 h2
 rcases h2 with ⟨rfl, h4, h5, rfl, rfl, rfl⟩ | ⟨rfl, rfl, h5, h6, h7⟩
 ·have e : q93 ⟨ep, 1, t, 0, 0, 0⟩ = enc ep.toNat ++ (enc 1 ++ (qgv t ++ [])) := by simp [q93]
  have hx := qsu h4 []
  have hk := qr1 h4 h5 []
  rw [List.append_nil] at hx hk
  unfold rEn qgw
  rw [e, Q9 (by omega) (by omega)]
  simp only [Q9 (show 1 <= 2 by omega) (by omega), if_true, q27, List.append_nil, hx, hk]
  rw [show ((ep.toNat : Nat) : Int) = ep by omega]
  exact ⟨rfl, rfl⟩
 ·have e : q93 ⟨ep, 2, q5s, cl, sq, co⟩ = enc ep.toNat ++ (enc 2 ++ (enc cl.toNat ++ (enc sq.toNat ++ (enc co.toNat ++ [])))) := by simp [q93]
  unfold rEn qgw rID
  rw [e, Q9 (by omega) (by omega)]
  simp only [Q9 (show 2 <= 2 by omega) (by omega)]
  rw [if_neg (by decide), if_pos trivial, Q9 (by omega) (by omega)]
  simp only [Q9 (show sq.toNat <= 18446744073709551615 by omega) (by omega)]
  rw [Q9 (by omega) (by omega)]
  simp only
  rw [show ((ep.toNat : Nat) : Int) = ep by omega, show ((cl.toNat : Nat) : Int) = cl by omega, show ((sq.toNat : Nat) : Int) = sq by omega, show ((co.toNat : Nat) : Int) = co by omega]
  exact ⟨rfl, rfl⟩
theorem qzh {e : En} (h : e.Good) : q8d (q93 e, false) = true /\ q6l (q93 e, false) = e := by
 have h1 := z60 h
 have h2 : q8d (q93 e, false) = true := by simp [q8d, h1.1, h1.2, h.ok]
 exact ⟨h2, by simp [q6l, h2, h1.1]⟩
theorem qzi (s : RS) : (rEn s).1.Rng := by
 have h1 := q24 18446744073709551615 s
 unfold rEn
 simp only
 have hz : ∀ a b c d f : Int, 0 <= a /\ a < 18446744073709551616 -> d < 18446744073709551616 -> (⟨a, b, q5s, c, d, f⟩ : En).Rng := fun a b c d f h1 h2 => ⟨h1, (by show (0 : Int) < _; decide), (fun r hr => by cases hr), h2⟩
 split
 ·have ht : ∀ t : Tx, t.sq < 18446744073709551616 -> (∀ r ∈ t.rs, 0 <= r.n /\ r.n < 18446744073709551616) -> (⟨(K3 18446744073709551615 s).1, (K3 2 (K3 18446744073709551615 s).2).1, t, 0, 0, 0⟩ : En).Rng := fun t h2 h3 => ⟨by simp only; omega, h2, h3, by show (0 : Int) < _; decide⟩
  unfold q27
  split
  ·refine ht _ ?_ ?_
   ·have := q24 18446744073709551615 (K3 5 (K3 2 (K3 18446744073709551615 s).2).2).2
    show ((K3 18446744073709551615 (K3 5 (K3 2 (K3 18446744073709551615 s).2).2).2).1 : Int) < _
    omega
   ·exact q8i (p := fun r : Rd => 0 <= r.n /\ r.n < 18446744073709551616) (fun s => by
     have := q24 18446744073709551615 (q1q 32 s).2
     show 0 <= ((K3 18446744073709551615 (q1q 32 s).2).1 : Int) /\ ((K3 18446744073709551615 (q1q 32 s).2).1 : Int) < _
     omega) _ _
  ·exact ht _ (by show (0 : Int) < _; decide) (fun r hr => by cases hr)
 ·split
  ·refine hz _ _ _ _ _ (by omega) ?_
   have := q24 18446744073709551615 (K3 5 (K3 2 (K3 18446744073709551615 s).2).2).2
   show ((K3 18446744073709551615 (K3 5 (K3 2 (K3 18446744073709551615 s).2).2).2).1 : Int) < _
   omega
  ·exact hz _ _ _ _ _ (by omega) (by decide)
end Go.Aw
