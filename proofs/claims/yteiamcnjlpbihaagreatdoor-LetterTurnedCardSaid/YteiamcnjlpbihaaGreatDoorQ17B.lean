import Derived.Test.YteiamcnjlpbihaaGreatDoorN17O16C
import Derived.Test.YteiamcnjlpbihaaGreatDoorN17F04S
import Derived.Test.YteiamcnjlpbihaaGreatDoorN17E12J
namespace Go.Aw
open Go
open Go.Proofs.Tryz (prog)
set_option linter.all false
set_option maxHeartbeats 4000000
def zCf : List AV := [.i .u64 0, .i .i64 0, .fz 0 [] (some 0), .fz 0 [] (some 0), .i .i64 0]
theorem z5t {R : Z1} (hR : ExtR R) {B : Tab} {id : Nat} {a b c : AV} (ha : a.plain = true /\ b.plain = true /\ c.plain = true) : ∀ (n : Nat) (s : RS) (os : List (Int × Bool)) (v w : AV) (T1 : Tab), n <= 8 -> os.length + n <= 1000 -> Len s.1.length ->
  Owns (rT B id s) [⟨1, v, os.length, qf1 (os.map (·.1))⟩, ⟨1, w, os.length, qcq (os.map (·.2))⟩] T1 ->
  (∀ v w T1 m, Owns (rT B id (Z2 qhz n s).2) [⟨1, v, (os ++ (Z2 qhz n s).1).length, qf1 ((os ++ (Z2 qhz n s).1).map (·.1))⟩, ⟨1, w, (os ++ (Z2 qhz n s).1).length, qcq ((os ++ (Z2 qhz n s).1).map (·.2))⟩] T1 -> R (.exit 0) [(0, .ptr id 0), (2, .lp 2 0), (4, .lp 4 0), (5, .i .i64 m), (20, .b false)] [(2, zCf), (4, [a, b, v, w, c])] T1) ->
  AW prog qfz R [(0, .ptr id 0), (2, .lp 2 0), (4, .lp 4 0), (5, .i .i64 n)] [(2, zCf), (4, [a, b, v, w, c])] T1 := by
 obtain ⟨a1, a2, a3⟩ := ha
 intro n
 induction n with
 | zero =>
  intro s os v w T1 hn hos hl ho h2
  refine U1 hR ?_
  unfold qed
  simp -implicitDefEqProofs -dsimp only [go_sem, seval, show ((0 : Nat) : Int) = 0 from rfl, ↓O9, Z3, true_and, decide_false]
  exact h2 v w T1 0 (by simpa [Z2] using ho)
 | succ n ih =>
  intro s os v w T1 hn hos hl ho h2
  obtain ⟨p1, p2, p3, p4, p5, p6⟩ := ho.form (List.mem_cons_self ..)
  obtain ⟨q1, q2, q3, q4, q5, q6⟩ := ho.form (List.mem_cons_of_mem _ (List.mem_cons_self ..))
  simp only at p1 p2 p3 p4 p5 p6 q1 q2 q3 q4 q5 q6
  have hpos : decide ((0 : Int) < ((n + 1 : Nat) : Int)) = true := decide_eq_true (by omega)
  refine O4 (l := qfz) rfl hR ?_
  unfold qed
  simp -implicitDefEqProofs -dsimp only [go_sem, seval, hpos, ↓O9, Z3, true_and, ↓J0 _ _ V4]
  refine can (qg2 ho.rdAt) ?_
  rcases hb : s.2 with _ | _
  case true =>
   have e : Z2 qhz (n + 1) s = ([], s) := by simp [Z2, hb]
   rw [e] at h2
   simp -implicitDefEqProofs -dsimp only [go_sem, seval, hb]
   exact h2 v w T1 _ (by simpa using ho)
  have e : Z2 qhz (n + 1) s = ((qhz s).1 :: (Z2 qhz n (qhz s).2).1, (Z2 qhz n (qhz s).2).2) := by simp [Z2, hb]
  rw [e] at h2
  have ho1 := ho.rd (K4 7 s).2
  have l1 := q1l (Q8 7 s) hl
  simp -implicitDefEqProofs -dsimp only [go_sem, seval, hb, p1, p2, p3, p4, p5, p6, q1, q2, q3, q4, q5, q6, a1, a2, a3, ↓J0 _ _ N3]
  refine can (q5l ho.rdAt 7 (by decide) hl) ?_
  simp -implicitDefEqProofs -dsimp only [go_sem, seval, p1, p2, p3, p4, p5, p6, q1, q2, q3, q4, q5, q6, a1, a2, a3]
  refine ho1.app (m := 1) (b := 8) (news := [.i .i64 ((K4 7 s).1 : Nat)]) rfl rfl (by simp only; omega) (by simp only; omega) fun v2 T2 ho2 => J1 ?_
  obtain ⟨p1, p2, p3, p4, p5, p6⟩ := ho2.form (List.mem_cons_self ..)
  simp only at p1 p2 p3 p4 p5 p6
  have ho3 := (ho2.rd (qhz s).2).swap
  simp -implicitDefEqProofs -dsimp only [go_sem, seval, p1, p2, p3, p4, p5, p6, q1, q2, q3, q4, q5, q6, a1, a2, a3, ↓J0 _ _ q5a]
  refine can (qrc ho2.rdAt l1) ?_
  simp -implicitDefEqProofs -dsimp only [go_sem, seval, p1, p2, p3, p4, p5, p6, q1, q2, q3, q4, q5, q6, a1, a2, a3]
  refine ho3.app (m := 1) (b := 1) (news := [.b (decide ((K4 1 (K4 7 s).2).1 = 1))]) rfl rfl (by simp only; omega) (by simp only; omega) fun w2 T3 ho4 => J1 ?_
  have ho5 := ho4.swap
  obtain ⟨q1, q2, q3, q4, q5, q6⟩ := ho4.form (List.mem_cons_self ..)
  simp only at q1 q2 q3 q4 q5 q6
  simp -implicitDefEqProofs -dsimp only [go_sem, seval, p1, p2, p3, p4, p5, p6, q1, q2, q3, q4, q5, q6, a1, a2, a3]
  rw [qcs (by omega)]
  have e1 : qf1 (os.map (·.1)) ++ [.i .i64 ((K4 7 s).1 : Nat)] = qf1 ((os ++ [(qhz s).1]).map (·.1)) := by simp [qf1, qhz]
  have e2 : qcq (os.map (·.2)) ++ [.b (decide ((K4 1 (K4 7 s).2).1 = 1))] = qcq ((os ++ [(qhz s).1]).map (·.2)) := by simp [qcq, qhz]
  simp only [e1, e2] at ho5
  refine ih (qhz s).2 (os ++ [(qhz s).1]) v2 w2 T3 (by omega) (by simp; omega) (q1l (qrf s) hl) (by simpa using ho5) fun v w T1 m ho => h2 v w T1 m ?_
  simpa only [List.append_assoc, List.cons_append, List.nil_append] using ho
def qrl (s : RS) : Bool := !(rCf s).2.2 && (rCf s).1.right
def zhv : Cf := ⟨0, 0, [], [], 0⟩
def qq4 (s : RS) : Cf := if qrl s = true then (rCf s).1 else zhv
theorem Wks.cf5 {a b c : AV} {n m : Nat} {x y : List AV} {k1 k2 : Option Nat} : Wks [a, b, .fz n x k1, .fz m y k2, c] [a, b, .fz n x none, .fz m y none, c] :=
 ⟨.refl _, .refl _, .fz, .fz, .refl _, trivial⟩
theorem z5u {T : Tab} {id : Nat} {s : RS} (h : T id = q81 s) (hl : Len s.1.length) : ACalls prog qb2 [.ptr id 0] T (fun v T' => v = .tup [.agg ((qq4 s).cells none none), .b (qrl s)] /\ T' = rT T id (rCf s).2) := by
 refine q06 U7 qva (by simp) ?_
 have l0 := q1l (Q8 18446744073709551615 s) hl
 have l1 := q1l (Q8 3 _) l0
 have l2 := q1l (Q8 8 _) l1
 have l3 := q1l (q8i qrf (K4 8 (K4 3 (K4 18446744073709551615 s).2).2).1 _) l2
 have b1 := q2y 8 (K4 3 (K4 18446744073709551615 s).2).2
 have b2 := qgd (f := qhz) (K4 8 (K4 3 (K4 18446744073709551615 s).2).2).1 (K4 8 (K4 3 (K4 18446744073709551615 s).2).2).2
 unfold qnx
 simp -implicitDefEqProofs -dsimp only [go_sem, seval, ↓J0 _ _ q1a]
 refine can (z6e h hl) ?_
 simp -implicitDefEqProofs -dsimp only [go_sem, seval, ↓J0 _ _ N3]
 refine can (q5l q67 3 (by decide) l0) ?_
 simp -implicitDefEqProofs -dsimp only [go_sem, seval, qg1, ↓J0 _ _ N3]
 refine can (q5l q67 8 (by decide) l1) ?_
 simp -implicitDefEqProofs -dsimp only [go_sem, seval, qg1]
 refine z5t (B := T) (by repeat' (first | exact N8 _ _ | assumption | apply N7 | apply K8 | apply V0)) ⟨rfl, rfl, rfl⟩ _ _ [] _ _ _ b1 (by simp; omega) l2 ⟨_, ⟨_, rfl, .nil ..⟩, .nil ..⟩ (fun v w T1 m o1 => ?_)
 obtain ⟨p1, p2, p3, p4, p5, p6⟩ := o1.form (List.mem_cons_self ..)
 obtain ⟨q1, q2, q3, q4, q5, q6⟩ := o1.form (List.mem_cons_of_mem _ (List.mem_cons_self ..))
 simp only at p1 p2 p3 p4 p5 p6 q1 q2 q3 q4 q5 q6
 have how := o1.rd (rCf s).2
 simp only [List.nil_append] at how
 simp -implicitDefEqProofs -dsimp only [go_sem, seval, p1, p2, p3, p4, p5, p6, q1, q2, q3, q4, q5, q6, ↓J0 _ _ N3]
 refine can (q5l o1.rdAt 8 (by decide) l3) ?_
 have ecf : (rCf s).1 = ⟨(K4 18446744073709551615 s).1, (K4 3 (K4 18446744073709551615 s).2).1, (Z2 qhz (K4 8 (K4 3 (K4 18446744073709551615 s).2).2).1 (K4 8 (K4 3 (K4 18446744073709551615 s).2).2).2).1.map (·.1), (Z2 qhz (K4 8 (K4 3 (K4 18446744073709551615 s).2).2).1 (K4 8 (K4 3 (K4 18446744073709551615 s).2).2).2).1.map (·.2), if (K4 8 (Z2 qhz (K4 8 (K4 3 (K4 18446744073709551615 s).2).2).1 (K4 8 (K4 3 (K4 18446744073709551615 s).2).2).2).2).1 = 8 then -1 else ((K4 8 (Z2 qhz (K4 8 (K4 3 (K4 18446744073709551615 s).2).2).1 (K4 8 (K4 3 (K4 18446744073709551615 s).2).2).2).2).1 : Int)⟩ := rfl
 have ers : (rCf s).2 = (K4 8 (Z2 qhz (K4 8 (K4 3 (K4 18446744073709551615 s).2).2).1 (K4 8 (K4 3 (K4 18446744073709551615 s).2).2).2).2).2 := rfl
 rw [<- ers]
 generalize hms : (Z2 qhz (K4 8 (K4 3 (K4 18446744073709551615 s).2).2).1 (K4 8 (K4 3 (K4 18446744073709551615 s).2).2).2) = ms at *
 generalize hln : (K4 8 ms.2).1 = ln at *
 generalize hc : (rCf s).1 = cf at *
 have hlen : Len cf.ch.length := by rw [ecf]; unfold Len; simp; omega
 have errEnd : qrl s = false -> qor (.tup [.agg [.i .u64 0, .i .i64 0, .fz 0 [] (some 0), .fz 0 [] (some 0), .i .i64 0], .b false]) (fun v T' => v = .tup [.agg ((qq4 s).cells none none), .b (qrl s)] /\ T' = rT T id (rCf s).2) (rT T1 id (rCf s).2) := by
  intro hb
  refine q2g how fun S hS => ?_
  simp only [qq4, hb, Bool.false_eq_true, if_false, qm3, qc5, List.map_cons, List.map_nil, qaz, qcr, qi5]
  exact Wk.tup ⟨Wk.agg Wks.cf5, .refl _, trivial⟩
 have d8 : decide ((ln : Int) = 8) = decide (ln = 8) := decide_eq_decide.2 (by omega)
 rcases h8 : decide (ln = 8) with _ | _
 all_goals
  first
   | (have e8 : (if ln = 8 then (-1 : Int) else ln) = ln := if_neg (of_decide_eq_false h8); rw [e8] at ecf)
   | (have e8 : (if ln = 8 then (-1 : Int) else ln) = -1 := if_pos (of_decide_eq_true h8); rw [e8] at ecf)
  simp -implicitDefEqProofs -dsimp only [go_sem, seval, d8, h8, p1, p2, p3, p4, p5, p6, q1, q2, q3, q4, q5, q6, ↓J0 _ _ V4]
  refine can (qg2 q67) ?_
  rcases hb : (rCf s).2.2 with _ | _
  ·simp -implicitDefEqProofs -dsimp only [go_sem, seval, hb, p1, p2, p3, p4, p5, p6, q1, q2, q3, q4, q5, q6, ↓O9, Z3, true_and, ↓J0 _ _ qfu]
   refine CallK.borrow (r := .b cf.right) how (fun S hS => ?_) .b (J1 ?_)
   ·obtain ⟨c1, e1⟩ := hS _ (List.mem_cons_self ..)
    obtain ⟨c2, e2⟩ := hS _ (List.mem_cons_of_mem _ (List.mem_cons_self ..))
    simp only at e1 e2
    have := qeg cf c1 c2 hlen
    simp only [Cf.cells] at this
    rw [ecf] at this ⊢
    simp only [List.length_map] at this
    simp only [List.map_cons, List.map_nil, qc5, qaz, qcr, e1, e2]
    exact this
   rcases hok : cf.right with _ | _
   ·simp -implicitDefEqProofs -dsimp only [go_sem, seval, hb, hok, zCf, p1, p2, p3, p4, p5, p6, q1, q2, q3, q4, q5, q6, ↓O9, Z3, true_and]
    exact errEnd (by simp [qrl, hb, hc, hok])
   ·simp -implicitDefEqProofs -dsimp only [go_sem, seval, hb, hok, zCf, p1, p2, p3, p4, p5, p6, q1, q2, q3, q4, q5, q6, ↓O9, Z3, true_and]
    have hk : qrl s = true := by simp [qrl, hb, hc, hok]
    refine q2g how fun S hS => ?_
    obtain ⟨c1, e1⟩ := hS _ (List.mem_cons_self ..)
    obtain ⟨c2, e2⟩ := hS _ (List.mem_cons_of_mem _ (List.mem_cons_self ..))
    simp only at e1 e2
    simp only [qq4, hk, if_true, qm3, qc5, List.map_cons, List.map_nil, qaz, qcr, e1, e2, hc, ecf, Cf.cells, List.length_map]
    exact Wk.tup ⟨Wk.agg Wks.cf5, .refl _, trivial⟩
  ·simp -implicitDefEqProofs -dsimp only [go_sem, seval, hb, zCf, p1, p2, p3, p4, p5, p6, q1, q2, q3, q4, q5, q6, ↓O9, Z3, true_and]
   exact errEnd (by simp [qrl, hb])
end Go.Aw
namespace Go.Aw
open Go
open Go.Proofs.Tryz (prog)
set_option linter.all false
set_option maxHeartbeats 8000000
set_option maxRecDepth 8000
def qom (s : RS) : (Int × Int) × RS :=
 let a := K4 18446744073709551615 s
 let b := K4 5 a.2
 (if b.2.2 = true then (0, 0) else (a.1, if b.1 = 5 then -1 else b.1), b.2)
theorem qrm (s : RS) : (qom s).2.1.length <= s.1.length := Nat.le_trans (Q8 _ _) (Q8 _ _)
theorem qxf {T : Tab} {id : Nat} {s : RS} (h : T id = q81 s) (hl : Len s.1.length) : ACalls prog q8l [.ptr id 0] T (fun v T' => v = .agg [.i .u64 (qom s).1.1, .i .i64 (qom s).1.2] /\ T' = rT T id (qom s).2) := by
 refine q06 U7 qr4 (by simp) ?_
 unfold qjx
 simp -implicitDefEqProofs -dsimp only [go_sem, seval, ↓J0 _ _ q1a]
 refine can (z6e h hl) ?_
 simp -implicitDefEqProofs -dsimp only [go_sem, seval, ↓J0 _ _ N3]
 refine can (q5l q67 5 (by decide) (q1l (Q8 _ _) hl)) ?_
 rw [qg1]
 have e1 : (qom s).2 = (K4 5 (K4 18446744073709551615 s).2).2 := rfl
 have e2 : (qom s).1 = if (K4 5 (K4 18446744073709551615 s).2).2.2 = true then (0, 0) else (((K4 18446744073709551615 s).1 : Int), if (K4 5 (K4 18446744073709551615 s).2).1 = 5 then -1 else ((K4 5 (K4 18446744073709551615 s).2).1 : Int)) := rfl
 rw [e1, e2]
 generalize K4 5 (K4 18446744073709551615 s).2 = b
 generalize (K4 18446744073709551615 s).1 = a
 simp -implicitDefEqProofs -dsimp only [go_sem, seval]
 apply J2 <;> intro h5
 ·have h5' : b.1 = 5 := by have := of_decide_eq_true h5; omega
  simp -implicitDefEqProofs -dsimp only [go_sem, seval, h5, ↓J0 _ _ V4]
  refine can (qg2 q67) ?_
  rcases hb : b.2.2 with _ | _
  ·simp -implicitDefEqProofs -dsimp only [go_sem, seval]
   exact qfc (by simp only [h5', Bool.false_eq_true, if_false, if_true]; exact .refl _) rfl
  ·simp -implicitDefEqProofs -dsimp only [go_sem, seval]
   exact qfc (.refl _) rfl
 ·have h5' : ¬ b.1 = 5 := by have := of_decide_eq_false h5; omega
  simp -implicitDefEqProofs -dsimp only [go_sem, seval, h5, ↓J0 _ _ V4]
  refine can (qg2 q67) ?_
  rcases hb : b.2.2 with _ | _
  ·simp -implicitDefEqProofs -dsimp only [go_sem, seval]
   exact qfc (by simp only [h5', Bool.false_eq_true, if_false, if_true]; exact .refl _) rfl
  ·simp -implicitDefEqProofs -dsimp only [go_sem, seval]
   exact qfc (.refl _) rfl
end Go.Aw
namespace Go.Aw
open Go
open Go.Proofs.Tryz (prog)
set_option linter.all false
set_option maxHeartbeats 8000000
set_option maxRecDepth 8000
def rVt (s : RS) : Vt × RS :=
 let a := K4 1048576 s
 let b := qom a.2
 let t := q2u 64 b.2
 (⟨a.1, b.1.1, b.1.2, t.1⟩, t.2)
def rCo (s : RS) : Cf × RS := (qq4 s, (rCf s).2)
def rEy (s : RS) : En × RS := (q9d ((q2u 2048 s).1, false), (q2u 2048 s).2)
end Go.Aw
