import Derived.Test.YteiamcnjlpbihaaGreatDoorN17E12D
import Derived.Test.YteiamcnjlpbihaaGreatDoorAwD
import Derived.Test.YteiamcnjlpbihaaGreatDoorN17E12X
namespace Go.Aw
open Go
open Go.Proofs.Tryz (prog)
set_option linter.all false
set_option maxHeartbeats 4000000
theorem qrh (s : RS) : (rID s).2.1.length <= s.1.length := Nat.le_trans (Q8 _ _) (Q8 _ _)
theorem qw7 (s : RS) : (rRd s).2.1.length <= s.1.length := Nat.le_trans (Q8 _ _) (q8h _ _)
theorem z1w (s : RS) : (rWt s).2.1.length <= s.1.length := Nat.le_trans (Q8 _ _) (Nat.le_trans (q8h _ _) (q8h _ _))
theorem qtz {T : Tab} {id : Nat} {s : RS} (h : T id = q81 s) (hl : Len s.1.length) : ACalls prog q7g [.ptr id 0] T (fun v T' => v = .agg [.i .i64 (rID s).1.1, .i .u64 (rID s).1.2] /\ T' = rT T id (rID s).2) := by
 refine q06 U7 qp5 (by simp) ?_
 unfold qhv
 simp -implicitDefEqProofs -dsimp only [go_sem, seval, ↓J0 _ _ N3]
 refine can (q5l h 5 (by decide) hl) ?_
 simp -implicitDefEqProofs -dsimp only [go_sem, seval, ↓J0 _ _ q1a]
 refine can (z6e q67 (q1l (Q8 _ _) hl)) ?_
 simp -implicitDefEqProofs -dsimp only [go_sem, seval]
 exact qfc (.refl _) qg1
theorem qw8 {R : Z1} (hR : ExtR R) {B : Tab} {id : Nat} {a b c v0 : AV} (ha : a.plain = true /\ b.plain = true /\ c.plain = true /\ v0.plain = true) : ∀ (n : Nat) (s : RS) (os : List Rd) (v : AV) (T1 : Tab), n <= 8 -> os.length + n <= 1000 -> Len s.1.length ->
  Own (rT B id s) 2 v os.length (os.flatMap rdC) T1 ->
  (∀ v T1 m, Own (rT B id (Z2 rRd n s).2) 2 v (os ++ (Z2 rRd n s).1).length ((os ++ (Z2 rRd n s).1).flatMap rdC) T1 -> R (.exit 0) [(0, .ptr id 0), (2, .lp 2 0), (4, .lp 4 0), (5, .i .i64 m), (23, .b false)] [(2, zTx), (4, [a, b, c, v, v0])] T1) ->
  AW prog qa4 R [(0, .ptr id 0), (2, .lp 2 0), (4, .lp 4 0), (5, .i .i64 n)] [(2, zTx), (4, [a, b, c, v, v0])] T1 := by
 obtain ⟨a1, a2, a3, a4⟩ := ha
 intro n
 induction n with
 | zero =>
  intro s os v T1 hn hos hl ho h2
  obtain ⟨p1, p2, p3, p4, p5, p6⟩ := ho.form
  refine U1 hR ?_
  unfold q9f
  simp -implicitDefEqProofs -dsimp only [go_sem, seval, show ((0 : Nat) : Int) = 0 from rfl, ↓O9, Z3, true_and, decide_false]
  exact h2 v T1 0 (by simpa [Z2] using ho)
 | succ n ih =>
  intro s os v T1 hn hos hl ho h2
  obtain ⟨p1, p2, p3, p4, p5, p6⟩ := ho.form
  have hpos : decide ((0 : Int) < ((n + 1 : Nat) : Int)) = true := decide_eq_true (by omega)
  refine O4 (l := qa4) rfl hR ?_
  unfold q9f
  simp -implicitDefEqProofs -dsimp only [go_sem, seval, hpos, ↓O9, Z3, true_and, ↓J0 _ _ V4]
  refine can (qg2 ho.rdAt) ?_
  rcases hb : s.2 with _ | _
  case true =>
   have e : Z2 rRd (n + 1) s = ([], s) := by simp [Z2, hb]
   rw [e] at h2
   simp -implicitDefEqProofs -dsimp only [go_sem, seval, hb]
   exact h2 v T1 _ (by simpa using ho)
  have e : Z2 rRd (n + 1) s = ((rRd s).1 :: (Z2 rRd n (rRd s).2).1, (Z2 rRd n (rRd s).2).2) := by simp [Z2, hb]
  rw [e] at h2
  have ho1 := ho.rd (q2u 32 s).2
  have ho2 := ho1.rd (rRd s).2
  have l1 := q1l (q8h 32 s) hl
  simp -implicitDefEqProofs -dsimp only [go_sem, seval, hb, p1, p2, p3, p4, p5, p6, ↓J0 _ _ q1k]
  refine can (qkw ho.rdAt 32 (by decide) hl) ?_
  simp -implicitDefEqProofs -dsimp only [go_sem, seval, p1, p2, p3, p4, p5, p6, ↓J0 _ _ q1a]
  refine can (z6e ho1.rdAt l1) ?_
  simp -implicitDefEqProofs -dsimp only [go_sem, seval, p1, p2, p3, p4, p5, p6, a1, a2, a3, a4]
  refine ho2.app (m := 1) (news := rdC (rRd s).1) rfl rfl (by omega) (by omega) fun v2 T2 ho => J1 ?_
  obtain ⟨p1, p2, p3, p4, p5, p6⟩ := ho.form
  simp -implicitDefEqProofs -dsimp only [go_sem, seval, p1, p2, p3, p4, p5, p6, a1, a2, a3, a4]
  rw [qcs (by omega)]
  refine ih (rRd s).2 (os ++ [(rRd s).1]) v2 T2 (by omega) (by simp; omega) (q1l (qw7 s) hl) (by simpa using ho) fun v T1 m ho => h2 v T1 m ?_
  simpa only [List.append_assoc, List.cons_append, List.nil_append] using ho
theorem qw9 {R : Z1} (hR : ExtR R) {B : Tab} {id : Nat} {a b c v0 : AV} (ha : a.plain = true /\ b.plain = true /\ c.plain = true /\ v0.plain = true) : ∀ (n : Nat) (s : RS) (os : List Wt) (v : AV) (T1 : Tab), n <= 8 -> os.length + n <= 1000 -> Len s.1.length ->
  Own (rT B id s) 3 v os.length (os.flatMap wtC) T1 ->
  (∀ v T1 m, Own (rT B id (Z2 rWt n s).2) 3 v (os ++ (Z2 rWt n s).1).length ((os ++ (Z2 rWt n s).1).flatMap wtC) T1 -> R (.exit 2) [(0, .ptr id 0), (2, .lp 2 0), (4, .lp 4 0), (7, .i .i64 m), (46, .b false)] [(2, zTx), (4, [a, b, c, v0, v])] T1) ->
  AW prog qa5 R [(0, .ptr id 0), (2, .lp 2 0), (4, .lp 4 0), (7, .i .i64 n)] [(2, zTx), (4, [a, b, c, v0, v])] T1 := by
 obtain ⟨a1, a2, a3, a4⟩ := ha
 intro n
 induction n with
 | zero =>
  intro s os v T1 hn hos hl ho h2
  obtain ⟨p1, p2, p3, p4, p5, p6⟩ := ho.form
  refine U1 hR ?_
  unfold q9g
  simp -implicitDefEqProofs -dsimp only [go_sem, seval, show ((0 : Nat) : Int) = 0 from rfl, ↓O9, Z3, true_and, decide_false]
  exact h2 v T1 0 (by simpa [Z2] using ho)
 | succ n ih =>
  intro s os v T1 hn hos hl ho h2
  obtain ⟨p1, p2, p3, p4, p5, p6⟩ := ho.form
  have hpos : decide ((0 : Int) < ((n + 1 : Nat) : Int)) = true := decide_eq_true (by omega)
  refine O4 (l := qa5) rfl hR ?_
  unfold q9g
  simp -implicitDefEqProofs -dsimp only [go_sem, seval, hpos, ↓O9, Z3, true_and, ↓J0 _ _ V4]
  refine can (qg2 ho.rdAt) ?_
  rcases hb : s.2 with _ | _
  case true =>
   have e : Z2 rWt (n + 1) s = ([], s) := by simp [Z2, hb]
   rw [e] at h2
   simp -implicitDefEqProofs -dsimp only [go_sem, seval, hb]
   exact h2 v T1 _ (by simpa using ho)
  have e : Z2 rWt (n + 1) s = ((rWt s).1 :: (Z2 rWt n (rWt s).2).1, (Z2 rWt n (rWt s).2).2) := by simp [Z2, hb]
  rw [e] at h2
  have ho1 := ho.rd (q2u 32 s).2
  have ho2 := ho1.rd (q2u 64 (q2u 32 s).2).2
  have ho3 := ho2.rd (rWt s).2
  have l1 := q1l (q8h 32 s) hl
  have l2 := q1l (q8h 64 _) l1
  simp -implicitDefEqProofs -dsimp only [go_sem, seval, hb, p1, p2, p3, p4, p5, p6, ↓J0 _ _ q1k]
  refine can (qkw ho.rdAt 32 (by decide) hl) ?_
  simp -implicitDefEqProofs -dsimp only [go_sem, seval, p1, p2, p3, p4, p5, p6, ↓J0 _ _ q1k]
  refine can (qkw ho1.rdAt 64 (by decide) l1) ?_
  simp -implicitDefEqProofs -dsimp only [go_sem, seval, p1, p2, p3, p4, p5, p6, ↓J0 _ _ q5a]
  refine can (qrc ho2.rdAt l2) ?_
  simp -implicitDefEqProofs -dsimp only [go_sem, seval, p1, p2, p3, p4, p5, p6, a1, a2, a3, a4]
  refine ho3.app (m := 1) (news := wtC (rWt s).1) rfl rfl (by omega) (by omega) fun v2 T2 ho => J1 ?_
  obtain ⟨p1, p2, p3, p4, p5, p6⟩ := ho.form
  simp -implicitDefEqProofs -dsimp only [go_sem, seval, p1, p2, p3, p4, p5, p6, a1, a2, a3, a4]
  rw [qcs (by omega)]
  refine ih (rWt s).2 (os ++ [(rWt s).1]) v2 T2 (by omega) (by simp; omega) (q1l (z1w s) hl) (by simpa using ho) fun v T1 m ho => h2 v T1 m ?_
  simpa only [List.append_assoc, List.cons_append, List.nil_append] using ho
theorem qu0 (s : RS) : (q2u 32 s).1.length <= 32 := qji 32 s
theorem qri (s : RS) : (rTx s).1.Fine := by
 refine ⟨?_, ?_, ?_, ?_, ?_⟩
 ·have h1 := qgd (f := rRd) (K4 8 (K4 1 (rID s).2).2).1 (K4 8 (K4 1 (rID s).2).2).2
  have h2 := q2y 8 (K4 1 (rID s).2).2
  show (Z2 rRd _ _).1.length < _; omega
 ·have h1 := qgd (f := rWt) (K4 8 (Z2 rRd (K4 8 (K4 1 (rID s).2).2).1 (K4 8 (K4 1 (rID s).2).2).2).2).1 (K4 8 (Z2 rRd (K4 8 (K4 1 (rID s).2).2).1 (K4 8 (K4 1 (rID s).2).2).2).2).2
  have h2 := q2y 8 (Z2 rRd (K4 8 (K4 1 (rID s).2).2).1 (K4 8 (K4 1 (rID s).2).2).2).2
  show (Z2 rWt _ _).1.length < _; omega
 ·exact qb0 (p := fun r : Rd => Len r.k.length) (fun s => by have := qu0 s; show Len (q2u 32 s).1.length; unfold Len; omega) _ _
 ·exact qb0 (p := fun r : Wt => Len r.k.length) (fun s => by have := qu0 s; show Len (q2u 32 s).1.length; unfold Len; omega) _ _
 ·exact qb0 (p := fun r : Wt => Len r.v.length) (fun s => by have := qji 64 (q2u 32 s).2; show Len (q2u 64 (q2u 32 s).2).1.length; unfold Len; omega) _ _
def q8e : Tx := ⟨0, 0, false, [], []⟩
def qp8 (s : RS) : Bool := !(rTx s).2.2 && qo7 (rTx s).1
def q3y (s : RS) : Tx × AV := if qp8 s = true then ((rTx s).1, .nilifc) else (q8e, q72 [116, 120, 110] (qog 3))
theorem qq1 {T : Tab} {id : Nat} {s : RS} (h : T id = q81 s) (hl : Len s.1.length) : ACalls prog q6c [.ptr id 0] T (fun v T' => v = .tup [.agg ((q3y s).1.cells none none), (q3y s).2] /\ T' = rT T id (rTx s).2) := by
 refine q06 U7 qnw (by simp) ?_
 have l1 := q1l (qrh s) hl
 have l2 := q1l (Q8 1 _) l1
 have l3 := q1l (Q8 8 _) l2
 have l4 := q1l (q8i qw7 (K4 8 (K4 1 (rID s).2).2).1 _) l3
 have l5 := q1l (Q8 8 _) l4
 have b1 := q2y 8 (K4 1 (rID s).2).2
 have b2 := q2y 8 (Z2 rRd (K4 8 (K4 1 (rID s).2).2).1 (K4 8 (K4 1 (rID s).2).2).2).2
 have hf := qri s
 unfold qfx
 simp -implicitDefEqProofs -dsimp only [go_sem, seval, ↓J0 _ _ qhw]
 refine can (qtz h hl) ?_
 simp -implicitDefEqProofs -dsimp only [go_sem, seval, ↓J0 _ _ q5a]
 refine can (qrc q67 l1) ?_
 simp -implicitDefEqProofs -dsimp only [go_sem, seval, qg1, ↓J0 _ _ N3]
 refine can (q5l q67 8 (by decide) l2) ?_
 simp -implicitDefEqProofs -dsimp only [go_sem, seval, qg1]
 refine qw8 (B := T) (by repeat' (first | exact N8 _ _ | assumption | apply N7 | apply K8 | apply V0)) ⟨rfl, rfl, rfl, rfl⟩ _ _ [] _ _ b1 (by simp; omega) l3 (.nil ..) (fun v1 T1 m o1 => ?_)
 obtain ⟨p1, p2, p3, p4, p5, p6⟩ := o1.form
 have o1' := o1.rd (K4 8 (Z2 rRd (K4 8 (K4 1 (rID s).2).2).1 (K4 8 (K4 1 (rID s).2).2).2).2).2
 simp -implicitDefEqProofs -dsimp only [go_sem, seval, p1, p2, p3, p4, p5, p6, ↓J0 _ _ N3]
 refine can (q5l o1.rdAt 8 (by decide) l4) ?_
 simp -implicitDefEqProofs -dsimp only [go_sem, seval, p1, p2, p3, p4, p5, p6]
 refine qw9 (B := T1) (by repeat' (first | exact N8 _ _ | assumption | apply N7 | apply K8 | apply V0)) ⟨rfl, rfl, rfl, p1⟩ _ _ [] _ _ b2 (by simp; omega) l5 (.nil ..) (fun v2 T2 m o2 => ?_)
 obtain ⟨q1, q2, q3, q4, q5, q6⟩ := o2.form
 have o1'' := o1.rd (rTx s).2
 have how : Owns (rT T id (rTx s).2) [⟨3, v2, (rTx s).1.ws.length, (rTx s).1.ws.flatMap wtC⟩, ⟨2, v1, (rTx s).1.rs.length, (rTx s).1.rs.flatMap rdC⟩] T2 := ⟨_, ⟨_, rfl, o1''⟩, o2⟩
 simp -implicitDefEqProofs -dsimp only [go_sem, seval, p1, p2, p3, p4, p5, p6, q1, q2, q3, q4, q5, q6, ↓J0 _ _ V4]
 refine can (qg2 o2.rdAt) ?_
 have hbad : (Z2 rWt (K4 8 (Z2 rRd (K4 8 (K4 1 (rID s).2).2).1 (K4 8 (K4 1 (rID s).2).2).2).2).1 (K4 8 (Z2 rRd (K4 8 (K4 1 (rID s).2).2).1 (K4 8 (K4 1 (rID s).2).2).2).2).2).2.2 = (rTx s).2.2 := rfl
 rw [hbad]
 have errEnd : qp8 s = false -> qor (.tup [.agg [.i .i64 0, .i .u64 0, .b false, .fz 0 [] (some 0), .fz 0 [] (some 0)], q72 [116, 120, 110] (qog 3)]) (fun v T' => v = .tup [.agg ((q3y s).1.cells none none), (q3y s).2] /\ T' = rT T id (rTx s).2) T2 := by
  intro hb
  refine q2g how fun S hS => ?_
  simp only [q3y, hb, Bool.false_eq_true, if_false, qm3, qc5, q72, qog, List.map_cons, List.map_nil, qaz, qcr, qi5, z0m, z0l]
  exact Wk.tup ⟨Wk.agg Wks.tx, .refl _, trivial⟩
 have cN := qkx [116, 120, 110] 3
 rw [if_neg (by decide)] at cN
 rcases hb : (rTx s).2.2 with _ | _
 ·simp -implicitDefEqProofs -dsimp only [go_sem, seval, hb, p1, p2, p3, p4, p5, p6, q1, q2, q3, q4, q5, q6, ↓O9, Z3, true_and, ↓J0 _ _ Y6]
  refine CallK.borrow (r := .b (qo7 (rTx s).1)) how (fun S hS => ?_) .b (J1 ?_)
  ·obtain ⟨c1, e1⟩ := hS _ (List.mem_cons_of_mem _ (List.mem_cons_self ..))
   obtain ⟨c2, e2⟩ := hS _ (List.mem_cons_self ..)
   simp only at e1 e2
   have := qj1 (rTx s).1 c1 c2 hf
   simp only [Tx.cells] at this
   simp only [List.map_cons, List.map_nil, qc5, qaz, qcr, e1, e2]
   exact this
  rcases hok : qo7 (rTx s).1 with _ | _
  ·simp -implicitDefEqProofs -dsimp only [go_sem, seval, hb, hok, p1, p2, p3, p4, p5, p6, q1, q2, q3, q4, q5, q6, ↓O9, Z3, true_and, ↓J0 _ _ q04]
   refine cpn cN ?_
   simp -implicitDefEqProofs -dsimp only [go_sem, seval, q72, zTx]
   exact errEnd (by simp [qp8, hb, hok])
  ·simp -implicitDefEqProofs -dsimp only [go_sem, seval, hb, hok, zTx, p1, p2, p3, p4, p5, p6, q1, q2, q3, q4, q5, q6, ↓O9, Z3, true_and]
   have hk : qp8 s = true := by simp [qp8, hb, hok]
   refine q2g how fun S hS => ?_
   obtain ⟨c1, e1⟩ := hS _ (List.mem_cons_of_mem _ (List.mem_cons_self ..))
   obtain ⟨c2, e2⟩ := hS _ (List.mem_cons_self ..)
   simp only at e1 e2
   simp only [q3y, hk, if_true, qm3, qc5, List.map_cons, List.map_nil, qaz, qcr, e1, e2, z0k]
   exact Wk.tup ⟨Wk.agg Wks.tx, .refl _, trivial⟩
 ·simp -implicitDefEqProofs -dsimp only [go_sem, seval, hb, p1, p2, p3, p4, p5, p6, q1, q2, q3, q4, q5, q6, ↓O9, Z3, true_and, ↓J0 _ _ q04]
  refine cpn cN ?_
  simp -implicitDefEqProofs -dsimp only [go_sem, seval, q72, zTx]
  exact errEnd (by simp [qp8, hb])
end Go.Aw
namespace Go.Aw
open Go
open Go.Proofs.Tryz (prog)
set_option linter.all false
set_option maxHeartbeats 4000000
theorem qoh : ∀ (l seen : List Bs), qbl seen l = true -> ∀ k ∈ l, qez k = true
 | [], _, _, k, hk => by cases hk
 | x :: l, seen, h, k, hk => by
  simp only [qbl, Bool.and_eq_true] at h
  rcases List.mem_cons.1 hk with rfl | hk
  ·exact h.1.1
  ·exact qoh l _ h.2 k hk
theorem z1x {k : Bs} (h : qez k = true) : k.length <= 32 := by
 simp only [qez, Bool.and_eq_true, decide_eq_true_eq] at h; omega
theorem qky {t : Tx} (h : qo7 t = true) (hs : t.sq < 18446744073709551616) (hr : ∀ r ∈ t.rs, 0 <= r.n /\ r.n < 18446744073709551616) : t.Good := by
 simp only [qo7, qhx, Bool.and_eq_true, decide_eq_true_eq, Bool.not_eq_true', decide_eq_false_iff_not] at h
 obtain ⟨⟨⟨⟨⟨h1, h2⟩, h3⟩, h4⟩, h5⟩, ⟨h6, h7⟩, h8⟩ := h
 refine ⟨⟨h1.1.1, h1.1.2⟩, ⟨h1.2, hs⟩, by omega, by omega, fun r hm => ⟨z1x (qoh _ _ h6 _ (List.mem_map_of_mem hm)), hr r hm⟩, fun w hm => ⟨z1x (qoh _ _ h7 _ (List.mem_map_of_mem hm)), ?_⟩⟩
 have := List.all_eq_true.1 h8 w hm
 simp only [wOk, qte, Bool.and_eq_true, decide_eq_true_eq] at this
 omega
theorem qu1 {t : Tx} (h : t.Good) : (qrd t).length <= 2000 := by
 obtain ⟨hcl, hsq, hr, hw, hrr, hww⟩ := h
 have l1 := K7 (m := t.cl.toNat) (by omega)
 have l2 := K7 (m := t.sq.toNat) (by omega)
 have l3 := K7 (m := t.rs.length) (by omega)
 have l4 := K7 (m := t.ws.length) (by omega)
 have l5 := q7c (g := qmh) t.rs fun r hr => qtw (hrr r hr)
 have l6 := q7c (g := qof) t.ws fun r hr => qtx (hww r hr)
 simp only [qrd, List.length_append, List.length_cons, List.length_nil]; omega
end Go.Aw
namespace Go.Aw
open Go
open Go.Proofs.Tryz (prog)
set_option linter.all false
set_option maxHeartbeats 4000000
theorem qwa : K5 prog qi6 = true := by kernel_rfl
def qs1 : Option Er -> AV
 | none => .nilifc
 | some e => e.av
def qd8 : Option Er -> Int
 | none => 0
 | some e => e.code
theorem Er.ifc (e : Er) : ∃ t v, e.av = .ifc t v := by cases e <;> exact ⟨_, _, rfl⟩
theorem qwb (e : Option Er) : PCalls prog q84 [qs1 e] (.i .i64 (qd8 e)) := by
 refine K6 U7 qsr (by simp) fun T => ?_
 unfold qlc
 cases e with
 | none =>
  simp -implicitDefEqProofs -dsimp only [go_sem, seval, qs1, qd8, qpa]
  intro id hid
  refine J1 ?_
  simp -implicitDefEqProofs -dsimp only [go_sem, seval, qpa]
  exact ((TabLe.refl T).put hid).fin
 | some e =>
  obtain ⟨t, v, he⟩ := e.ifc
  have ca := fun (T : Tab) id old hT => qw5 (T := T) (id := id) (old := old) e hT
  simp only [qs1, qd8, he] at ca ⊢
  simp -implicitDefEqProofs -dsimp only [go_sem, seval, qpa]
  intro id hid
  refine J1 ?_
  simp -implicitDefEqProofs -dsimp only [go_sem, seval, qpa, ↓J0 _ _ qwa]
  refine can (ca _ id 0 (Tab.put_same ..)) ?_
  simp -implicitDefEqProofs -dsimp only [go_sem, seval, Tab.put_same]
  rw [Tab.put_put]
  exact ((TabLe.refl T).put hid).fin
theorem z6f (w : List UInt8) (e : Er) : PCalls prog qcu [.s w, e.av] (q72 w e.av) := by
 refine K6 U7 qyd (by simp) fun T => ?_
 obtain ⟨t, v, he⟩ := e.ifc
 rw [he]
 unfold qpw
 simp -implicitDefEqProofs -dsimp only [go_sem, seval, qpa]
 intro id hid
 refine J1 ?_
 simp -implicitDefEqProofs -dsimp only [go_sem, seval]
 refine ⟨[id], T, _, by simp, by simp [Tab.put_same], fun j => ?_, ?_, rfl, rfl⟩
 ·simp only [qj7]
  rw [Tab.put_put, Tab.put_self hid]; exact .inr (.inl rfl)
 ·simp only [qm3, qc5, qgi, List.mem_singleton, if_true, Tab.put_same, List.drop_zero]
  exact .refl _
def qkc (e : En) : List UInt8 := enc e.ep.toNat ++ enc e.kd.toNat ++ (if e.kd = 1 then qrd e.t else enc e.cl.toNat ++ enc e.sq.toNat ++ enc e.co.toNat)
structure En.Good (e : En) : Prop where
 ep : 0 < e.ep /\ e.ep < 18446744073709551616
 kd : (e.kd = 1 /\ e.t.Good /\ qo7 e.t = true /\ e.cl = 0 /\ e.sq = 0 /\ e.co = 0) \/
  (e.kd = 2 /\ e.t = q8e /\ (0 <= e.cl /\ e.cl < 6) /\ (0 < e.sq /\ e.sq < 18446744073709551616) /\ (e.co = 0 \/ e.co = 8 \/ e.co = 11))
theorem z1y {t : Tx} (h : qu9 t = true) : t = q8e := by
 obtain ⟨cl, sq, pl, rs, ws⟩ := t
 simp only [qu9, Bool.and_eq_true, decide_eq_true_eq, Bool.not_eq_true'] at h
 obtain ⟨⟨⟨rfl, rfl⟩, rfl⟩, h⟩ := h
 have h1 : rs = [] := List.length_eq_zero_iff.1 (by omega)
 have h2 : ws = [] := List.length_eq_zero_iff.1 (by omega)
 subst h1; subst h2; rfl
structure En.Rng (e : En) : Prop where
 ep : 0 <= e.ep /\ e.ep < 18446744073709551616
 tsq : e.t.sq < 18446744073709551616
 tr : ∀ r ∈ e.t.rs, 0 <= r.n /\ r.n < 18446744073709551616
 sq : e.sq < 18446744073709551616
theorem En.good_of {e : En} (h : qdb e = true) (hr : e.Rng) : e.Good := by
 obtain ⟨h1, h2, h3, h4⟩ := hr
 simp only [qdb, Bool.and_eq_true, Bool.not_eq_true', decide_eq_false_iff_not] at h
 obtain ⟨hep, h⟩ := h
 refine ⟨⟨by omega, h1.2⟩, ?_⟩
 by_cases hk : e.kd = 1
 ·rw [if_pos (by simpa using hk)] at h
  simp only [Bool.and_eq_true, decide_eq_true_eq] at h
  exact .inl ⟨hk, qky h.1.1 h2 h3, h.1.1, h.1.2.1, h.1.2.2, h.2⟩
 ·rw [if_neg (by simpa using hk)] at h
  simp only [Bool.and_eq_true, decide_eq_true_eq, qhx, z69, Bool.or_eq_true] at h
  obtain ⟨hk2, ⟨hn, hid⟩, hco⟩ := h
  exact .inr ⟨hk2, z1y hn, ⟨hid.1.1, hid.1.2⟩, ⟨hid.2, h4⟩, hco⟩
theorem En.Good.ok {e : En} (h : e.Good) : qdb e = true := by
 obtain ⟨h1, h2⟩ := h
 have he : decide (e.ep = 0) = false := decide_eq_false (by omega)
 rcases h2 with ⟨h3, h4, h5, h6, h7, h8⟩ | ⟨h3, h4, h5, h6, h7⟩
 ·simp [qdb, he, h3, h5, h6, h7, h8]
 ·have : qu9 e.t = true := by rw [h4]; rfl
  have e2 : qhx e.cl e.sq = true := by simp [qhx]; omega
  have e3 : z69 e.co = true := by rcases h7 with h | h | h <;> rw [h] <;> rfl
  simp [qdb, he, h3, this, e2, e3]
def rEn (s : RS) : En × RS :=
 let a := K4 18446744073709551615 s
 let k := K4 2 a.2
 if k.1 = 1 then (⟨a.1, k.1, (q3y k.2).1, 0, 0, 0⟩, (rTx k.2).2)
 else if k.1 = 2 then (⟨a.1, k.1, q8e, (rID k.2).1.1, (rID k.2).1.2, (K4 99 (rID k.2).2).1⟩, (K4 99 (rID k.2).2).2)
 else (⟨a.1, k.1, q8e, 0, 0, 0⟩, k.2)
def qoi (s : RS) : Bool := !decide ((K4 2 (K4 18446744073709551615 s).2).1 = 1) || qp8 (K4 2 (K4 18446744073709551615 s).2).2
def qck (s : RS) : Bool := qoi s && (!(rEn s).2.2 && decide ((rEn s).2.1 = [])) && qdb (rEn s).1
def z6g : En := ⟨0, 0, q8e, 0, 0, 0⟩
def q2l (s : RS) : Option Er := if qck s = true then none else if qoi s = false then some (.flt [101, 110, 116, 114, 121] (.flt [116, 120, 110] (.num 3))) else some (.flt [101, 110, 116, 114, 121] (.num 3))
def q9d (s : RS) : En := if qck s = true then (rEn s).1 else z6g
theorem z1z (s : RS) : (rEn s).1.Rng := by
 have h1 := q2y 18446744073709551615 s
 unfold rEn
 simp only
 have hz : ∀ a b c d f : Int, 0 <= a /\ a < 18446744073709551616 -> d < 18446744073709551616 -> (⟨a, b, q8e, c, d, f⟩ : En).Rng := fun a b c d f h1 h2 => ⟨h1, (by show (0 : Int) < _; decide), (fun r hr => by cases hr), h2⟩
 split
 ·have ht : ∀ t : Tx, t.sq < 18446744073709551616 -> (∀ r ∈ t.rs, 0 <= r.n /\ r.n < 18446744073709551616) -> (⟨(K4 18446744073709551615 s).1, (K4 2 (K4 18446744073709551615 s).2).1, t, 0, 0, 0⟩ : En).Rng := fun t h2 h3 => ⟨by simp only; omega, h2, h3, by show (0 : Int) < _; decide⟩
  unfold q3y
  split
  ·refine ht _ ?_ ?_
   ·have := q2y 18446744073709551615 (K4 5 (K4 2 (K4 18446744073709551615 s).2).2).2
    show ((K4 18446744073709551615 (K4 5 (K4 2 (K4 18446744073709551615 s).2).2).2).1 : Int) < _
    omega
   ·exact qb0 (p := fun r : Rd => 0 <= r.n /\ r.n < 18446744073709551616) (fun s => by
     have := q2y 18446744073709551615 (q2u 32 s).2
     show 0 <= ((K4 18446744073709551615 (q2u 32 s).2).1 : Int) /\ ((K4 18446744073709551615 (q2u 32 s).2).1 : Int) < _
     omega) _ _
  ·exact ht _ (by show (0 : Int) < _; decide) (fun r hr => by cases hr)
 ·split
  ·refine hz _ _ _ _ _ (by omega) ?_
   have := q2y 18446744073709551615 (K4 5 (K4 2 (K4 18446744073709551615 s).2).2).2
   show ((K4 18446744073709551615 (K4 5 (K4 2 (K4 18446744073709551615 s).2).2).2).1 : Int) < _
   omega
  ·exact hz _ _ _ _ _ (by omega) (by decide)
end Go.Aw
