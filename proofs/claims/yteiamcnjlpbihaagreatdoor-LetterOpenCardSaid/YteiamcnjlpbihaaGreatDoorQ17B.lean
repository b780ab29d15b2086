import Derived.Test.YteiamcnjlpbihaaGreatDoorN17O16C
import Derived.Test.YteiamcnjlpbihaaGreatDoorN17F04S
import Derived.Test.YteiamcnjlpbihaaGreatDoorN17E12J
namespace Go.Aw
open Go
open Go.Proofs.Tryz (prog)
set_option linter.all false
set_option maxHeartbeats 4000000
def zCf : List AV := [.i .u64 0, .i .i64 0, .fz 0 [] (some 0), .fz 0 [] (some 0), .i .i64 0]
theorem za0 {R : Z1} (hR : ExtR R) {B : Tab} {id : Nat} {a b c : AV} (ha : a.plain = true /\ b.plain = true /\ c.plain = true) : ∀ (n : Nat) (s : RS) (os : List (Int × Bool)) (v w : AV) (T1 : Tab), n <= 8 -> os.length + n <= 1000 -> Len s.1.length ->
  Owns (rT B id s) [⟨1, v, os.length, qfq (os.map (·.1))⟩, ⟨1, w, os.length, qet (os.map (·.2))⟩] T1 ->
  (∀ v w T1 m, Owns (rT B id (Y5 qgv n s).2) [⟨1, v, (os ++ (Y5 qgv n s).1).length, qfq ((os ++ (Y5 qgv n s).1).map (·.1))⟩, ⟨1, w, (os ++ (Y5 qgv n s).1).length, qet ((os ++ (Y5 qgv n s).1).map (·.2))⟩] T1 -> R (.exit 0) [(0, .ptr id 0), (2, .lp 2 0), (4, .lp 4 0), (5, .i .i64 m), (20, .b false)] [(2, zCf), (4, [a, b, v, w, c])] T1) ->
  AW prog qid R [(0, .ptr id 0), (2, .lp 2 0), (4, .lp 4 0), (5, .i .i64 n)] [(2, zCf), (4, [a, b, v, w, c])] T1 := by
 obtain ⟨a1, a2, a3⟩ := ha
 intro n
 induction n with
 | zero =>
  intro s os v w T1 hn hos hl ho h2
  refine Q5 hR ?_
  unfold qgo
  simp -implicitDefEqProofs -dsimp only [go_sem, seval, show ((0 : Nat) : Int) = 0 from rfl, ↓Q1, G6, true_and, decide_false]
  exact h2 v w T1 0 (by simpa [Y5] using ho)
 | succ n ih =>
  intro s os v w T1 hn hos hl ho h2
  obtain ⟨p1, p2, p3, p4, p5, p6⟩ := ho.form (List.mem_cons_self ..)
  obtain ⟨q1, q2, q3, q4, q5, q6⟩ := ho.form (List.mem_cons_of_mem _ (List.mem_cons_self ..))
  simp only at p1 p2 p3 p4 p5 p6 q1 q2 q3 q4 q5 q6
  have hpos : decide ((0 : Int) < ((n + 1 : Nat) : Int)) = true := decide_eq_true (by omega)
  refine O0 (l := qid) rfl hR ?_
  unfold qgo
  simp -implicitDefEqProofs -dsimp only [go_sem, seval, hpos, ↓Q1, G6, true_and, ↓J0 _ _ Y2]
  refine can (qig ho.rdAt) ?_
  rcases hb : s.2 with _ | _
  case true =>
   have e : Y5 qgv (n + 1) s = ([], s) := by simp [Y5, hb]
   rw [e] at h2
   simp -implicitDefEqProofs -dsimp only [go_sem, seval, hb]
   exact h2 v w T1 _ (by simpa using ho)
  have e : Y5 qgv (n + 1) s = ((qgv s).1 :: (Y5 qgv n (qgv s).2).1, (Y5 qgv n (qgv s).2).2) := by simp [Y5, hb]
  rw [e] at h2
  have ho1 := ho.rd (K2 7 s).2
  have l1 := q26 (U2 7 s) hl
  simp -implicitDefEqProofs -dsimp only [go_sem, seval, hb, p1, p2, p3, p4, p5, p6, q1, q2, q3, q4, q5, q6, a1, a2, a3, ↓J0 _ _ N8]
  refine can (q6d ho.rdAt 7 (by decide) hl) ?_
  simp -implicitDefEqProofs -dsimp only [go_sem, seval, p1, p2, p3, p4, p5, p6, q1, q2, q3, q4, q5, q6, a1, a2, a3]
  refine ho1.app (m := 1) (b := 8) (news := [.i .i64 ((K2 7 s).1 : Nat)]) rfl rfl (by simp only; omega) (by simp only; omega) fun v2 T2 ho2 => J1 ?_
  obtain ⟨p1, p2, p3, p4, p5, p6⟩ := ho2.form (List.mem_cons_self ..)
  simp only at p1 p2 p3 p4 p5 p6
  have ho3 := (ho2.rd (qgv s).2).swap
  simp -implicitDefEqProofs -dsimp only [go_sem, seval, p1, p2, p3, p4, p5, p6, q1, q2, q3, q4, q5, q6, a1, a2, a3, ↓J0 _ _ q60]
  refine can (qvw ho2.rdAt l1) ?_
  simp -implicitDefEqProofs -dsimp only [go_sem, seval, p1, p2, p3, p4, p5, p6, q1, q2, q3, q4, q5, q6, a1, a2, a3]
  refine ho3.app (m := 1) (b := 1) (news := [.b (decide ((K2 1 (K2 7 s).2).1 = 1))]) rfl rfl (by simp only; omega) (by simp only; omega) fun w2 T3 ho4 => J1 ?_
  have ho5 := ho4.swap
  obtain ⟨q1, q2, q3, q4, q5, q6⟩ := ho4.form (List.mem_cons_self ..)
  simp only at q1 q2 q3 q4 q5 q6
  simp -implicitDefEqProofs -dsimp only [go_sem, seval, p1, p2, p3, p4, p5, p6, q1, q2, q3, q4, q5, q6, a1, a2, a3]
  rw [qex (by omega)]
  have e1 : qfq (os.map (·.1)) ++ [.i .i64 ((K2 7 s).1 : Nat)] = qfq ((os ++ [(qgv s).1]).map (·.1)) := by simp [qfq, qgv]
  have e2 : qet (os.map (·.2)) ++ [.b (decide ((K2 1 (K2 7 s).2).1 = 1))] = qet ((os ++ [(qgv s).1]).map (·.2)) := by simp [qet, qgv]
  simp only [e1, e2] at ho5
  refine ih (qgv s).2 (os ++ [(qgv s).1]) v2 w2 T3 (by omega) (by simp; omega) (q26 (qvy s) hl) (by simpa using ho5) fun v w T1 m ho => h2 v w T1 m ?_
  simpa only [List.append_assoc, List.cons_append, List.nil_append] using ho
def qtr (s : RS) : Bool := !(rCf s).2.2 && (rCf s).1.right
def zn1 : Cf := ⟨0, 0, [], [], 0⟩
def qsf (s : RS) : Cf := if qtr s = true then (rCf s).1 else zn1
theorem Wks.cf5 {a b c : AV} {n m : Nat} {x y : List AV} {k1 k2 : Option Nat} : Wks [a, b, .fz n x k1, .fz m y k2, c] [a, b, .fz n x none, .fz m y none, c] :=
 ⟨.refl _, .refl _, .fz, .fz, .refl _, trivial⟩
theorem za1 {T : Tab} {id : Nat} {s : RS} (h : T id = q9a s) (hl : Len s.1.length) : ACalls prog qcn [.ptr id 0] T (fun v T' => v = .tup [.agg ((qsf s).cells none none), .b (qtr s)] /\ T' = rT T id (rCf s).2) := by
 refine Z3 U3 z04 (by simp) ?_
 have l0 := q26 (U2 18446744073709551615 s) hl
 have l1 := q26 (U2 3 _) l0
 have l2 := q26 (U2 8 _) l1
 have l3 := q26 (q9w qvy (K2 8 (K2 3 (K2 18446744073709551615 s).2).2).1 _) l2
 have b1 := q1d 8 (K2 3 (K2 18446744073709551615 s).2).2
 have b2 := qix (f := qgv) (K2 8 (K2 3 (K2 18446744073709551615 s).2).2).1 (K2 8 (K2 3 (K2 18446744073709551615 s).2).2).2
 unfold qrr
 simp -implicitDefEqProofs -dsimp only [go_sem, seval, ↓J0 _ _ q1n]
 refine can (zav h hl) ?_
 simp -implicitDefEqProofs -dsimp only [go_sem, seval, ↓J0 _ _ N8]
 refine can (q6d q77 3 (by decide) l0) ?_
 simp -implicitDefEqProofs -dsimp only [go_sem, seval, qif, ↓J0 _ _ N8]
 refine can (q6d q77 8 (by decide) l1) ?_
 simp -implicitDefEqProofs -dsimp only [go_sem, seval, qif]
 refine za0 (B := T) (by repeat' (first | exact N2 _ _ | assumption | apply N1 | apply K9 | apply Q3)) ⟨rfl, rfl, rfl⟩ _ _ [] _ _ _ b1 (by simp; omega) l2 ⟨_, ⟨_, rfl, .nil ..⟩, .nil ..⟩ (fun v w T1 m o1 => ?_)
 obtain ⟨p1, p2, p3, p4, p5, p6⟩ := o1.form (List.mem_cons_self ..)
 obtain ⟨q1, q2, q3, q4, q5, q6⟩ := o1.form (List.mem_cons_of_mem _ (List.mem_cons_self ..))
 simp only at p1 p2 p3 p4 p5 p6 q1 q2 q3 q4 q5 q6
 have how := o1.rd (rCf s).2
 simp only [List.nil_append] at how
 simp -implicitDefEqProofs -dsimp only [go_sem, seval, p1, p2, p3, p4, p5, p6, q1, q2, q3, q4, q5, q6, ↓J0 _ _ N8]
 refine can (q6d o1.rdAt 8 (by decide) l3) ?_
 have ecf : (rCf s).1 = ⟨(K2 18446744073709551615 s).1, (K2 3 (K2 18446744073709551615 s).2).1, (Y5 qgv (K2 8 (K2 3 (K2 18446744073709551615 s).2).2).1 (K2 8 (K2 3 (K2 18446744073709551615 s).2).2).2).1.map (·.1), (Y5 qgv (K2 8 (K2 3 (K2 18446744073709551615 s).2).2).1 (K2 8 (K2 3 (K2 18446744073709551615 s).2).2).2).1.map (·.2), if (K2 8 (Y5 qgv (K2 8 (K2 3 (K2 18446744073709551615 s).2).2).1 (K2 8 (K2 3 (K2 18446744073709551615 s).2).2).2).2).1 = 8 then -1 else ((K2 8 (Y5 qgv (K2 8 (K2 3 (K2 18446744073709551615 s).2).2).1 (K2 8 (K2 3 (K2 18446744073709551615 s).2).2).2).2).1 : Int)⟩ := rfl
 have ers : (rCf s).2 = (K2 8 (Y5 qgv (K2 8 (K2 3 (K2 18446744073709551615 s).2).2).1 (K2 8 (K2 3 (K2 18446744073709551615 s).2).2).2).2).2 := rfl
 rw [<- ers]
 generalize hms : (Y5 qgv (K2 8 (K2 3 (K2 18446744073709551615 s).2).2).1 (K2 8 (K2 3 (K2 18446744073709551615 s).2).2).2) = ms at *
 generalize hln : (K2 8 ms.2).1 = ln at *
 generalize hc : (rCf s).1 = cf at *
 have hlen : Len cf.ch.length := by rw [ecf]; unfold Len; simp; omega
 have errEnd : qtr s = false -> qta (.tup [.agg [.i .u64 0, .i .i64 0, .fz 0 [] (some 0), .fz 0 [] (some 0), .i .i64 0], .b false]) (fun v T' => v = .tup [.agg ((qsf s).cells none none), .b (qtr s)] /\ T' = rT T id (rCf s).2) (rT T1 id (rCf s).2) := by
  intro hb
  refine q1f how fun S hS => ?_
  simp only [qsf, hb, Bool.false_eq_true, if_false, qo7, qdf, List.map_cons, List.map_nil, qcj, qeu, qkw]
  exact Wk.tup ⟨Wk.agg Wks.cf5, .refl _, trivial⟩
 have d8 : decide ((ln : Int) = 8) = decide (ln = 8) := decide_eq_decide.2 (by omega)
 rcases h8 : decide (ln = 8) with _ | _
 all_goals
  first
   | (have e8 : (if ln = 8 then (-1 : Int) else ln) = ln := if_neg (of_decide_eq_false h8); rw [e8] at ecf)
   | (have e8 : (if ln = 8 then (-1 : Int) else ln) = -1 := if_pos (of_decide_eq_true h8); rw [e8] at ecf)
  simp -implicitDefEqProofs -dsimp only [go_sem, seval, d8, h8, p1, p2, p3, p4, p5, p6, q1, q2, q3, q4, q5, q6, ↓J0 _ _ Y2]
  refine can (qig q77) ?_
  rcases hb : (rCf s).2.2 with _ | _
  ·simp -implicitDefEqProofs -dsimp only [go_sem, seval, hb, p1, p2, p3, p4, p5, p6, q1, q2, q3, q4, q5, q6, ↓Q1, G6, true_and, ↓J0 _ _ qi8]
   refine CallK.borrow (r := .b cf.right) how (fun S hS => ?_) .b (J1 ?_)
   ·obtain ⟨c1, e1⟩ := hS _ (List.mem_cons_self ..)
    obtain ⟨c2, e2⟩ := hS _ (List.mem_cons_of_mem _ (List.mem_cons_self ..))
    simp only at e1 e2
    have := qgr cf c1 c2 hlen
    simp only [Cf.cells] at this
    rw [ecf] at this ⊢
    simp only [List.length_map] at this
    simp only [List.map_cons, List.map_nil, qdf, qcj, qeu, e1, e2]
    exact this
   rcases hok : cf.right with _ | _
   ·simp -implicitDefEqProofs -dsimp only [go_sem, seval, hb, hok, zCf, p1, p2, p3, p4, p5, p6, q1, q2, q3, q4, q5, q6, ↓Q1, G6, true_and]
    exact errEnd (by simp [qtr, hb, hc, hok])
   ·simp -implicitDefEqProofs -dsimp only [go_sem, seval, hb, hok, zCf, p1, p2, p3, p4, p5, p6, q1, q2, q3, q4, q5, q6, ↓Q1, G6, true_and]
    have hk : qtr s = true := by simp [qtr, hb, hc, hok]
    refine q1f how fun S hS => ?_
    obtain ⟨c1, e1⟩ := hS _ (List.mem_cons_self ..)
    obtain ⟨c2, e2⟩ := hS _ (List.mem_cons_of_mem _ (List.mem_cons_self ..))
    simp only at e1 e2
    simp only [qsf, hk, if_true, qo7, qdf, List.map_cons, List.map_nil, qcj, qeu, e1, e2, hc, ecf, Cf.cells, List.length_map]
    exact Wk.tup ⟨Wk.agg Wks.cf5, .refl _, trivial⟩
  ·simp -implicitDefEqProofs -dsimp only [go_sem, seval, hb, zCf, p1, p2, p3, p4, p5, p6, q1, q2, q3, q4, q5, q6, ↓Q1, G6, true_and]
   exact errEnd (by simp [qtr, hb])
end Go.Aw
namespace Go.Aw
open Go
open Go.Proofs.Tryz (prog)
set_option linter.all false
set_option maxHeartbeats 8000000
set_option maxRecDepth 8000
def qm6 (s : RS) : (Int × Int) × RS :=
 let a := K2 18446744073709551615 s
 let b := K2 5 a.2
 (if b.2.2 = true then (0, 0) else (a.1, if b.1 = 5 then -1 else b.1), b.2)
theorem qwf (s : RS) : (qm6 s).2.1.length <= s.1.length := Nat.le_trans (U2 _ _) (U2 _ _)
theorem z28 {T : Tab} {id : Nat} {s : RS} (h : T id = q9a s) (hl : Len s.1.length) : ACalls prog qa0 [.ptr id 0] T (fun v T' => v = .agg [.i .u64 (qm6 s).1.1, .i .i64 (qm6 s).1.2] /\ T' = rT T id (qm6 s).2) := by
 refine Z3 U3 qvn (by simp) ?_
 unfold qnm
 simp -implicitDefEqProofs -dsimp only [go_sem, seval, ↓J0 _ _ q1n]
 refine can (zav h hl) ?_
 simp -implicitDefEqProofs -dsimp only [go_sem, seval, ↓J0 _ _ N8]
 refine can (q6d q77 5 (by decide) (q26 (U2 _ _) hl)) ?_
 rw [qif]
 have e1 : (qm6 s).2 = (K2 5 (K2 18446744073709551615 s).2).2 := rfl
 have e2 : (qm6 s).1 = if (K2 5 (K2 18446744073709551615 s).2).2.2 = true then (0, 0) else (((K2 18446744073709551615 s).1 : Int), if (K2 5 (K2 18446744073709551615 s).2).1 = 5 then -1 else ((K2 5 (K2 18446744073709551615 s).2).1 : Int)) := rfl
 rw [e1, e2]
 generalize K2 5 (K2 18446744073709551615 s).2 = b
 generalize (K2 18446744073709551615 s).1 = a
 simp -implicitDefEqProofs -dsimp only [go_sem, seval]
 apply J2 <;> intro h5
 ·have h5' : b.1 = 5 := by have := of_decide_eq_true h5; omega
  simp -implicitDefEqProofs -dsimp only [go_sem, seval, h5, ↓J0 _ _ Y2]
  refine can (qig q77) ?_
  rcases hb : b.2.2 with _ | _
  ·simp -implicitDefEqProofs -dsimp only [go_sem, seval]
   exact qev (by simp only [h5', Bool.false_eq_true, if_false, if_true]; exact .refl _) rfl
  ·simp -implicitDefEqProofs -dsimp only [go_sem, seval]
   exact qev (.refl _) rfl
 ·have h5' : ¬ b.1 = 5 := by have := of_decide_eq_false h5; omega
  simp -implicitDefEqProofs -dsimp only [go_sem, seval, h5, ↓J0 _ _ Y2]
  refine can (qig q77) ?_
  rcases hb : b.2.2 with _ | _
  ·simp -implicitDefEqProofs -dsimp only [go_sem, seval]
   exact qev (by simp only [h5', Bool.false_eq_true, if_false, if_true]; exact .refl _) rfl
  ·simp -implicitDefEqProofs -dsimp only [go_sem, seval]
   exact qev (.refl _) rfl
end Go.Aw
namespace Go.Aw
open Go
open Go.Proofs.Tryz (prog)
set_option linter.all false
set_option maxHeartbeats 8000000
set_option maxRecDepth 8000
def rVt (s : RS) : Vt × RS :=
 let a := K2 1048576 s
 let b := qm6 a.2
 let t := q2f 64 b.2
 (⟨a.1, b.1.1, b.1.2, t.1⟩, t.2)
def rCo (s : RS) : Cf × RS := (qsf s, (rCf s).2)
def rEy (s : RS) : En × RS := (qan ((q2f 2048 s).1, false), (q2f 2048 s).2)
end Go.Aw
