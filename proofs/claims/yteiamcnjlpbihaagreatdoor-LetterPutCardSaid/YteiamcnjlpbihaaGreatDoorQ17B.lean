import Derived.Test.YteiamcnjlpbihaaGreatDoorN17O16C
import Derived.Test.YteiamcnjlpbihaaGreatDoorN17F04S
import Derived.Test.YteiamcnjlpbihaaGreatDoorN17E12J
namespace Go.Aw
open Go
open Go.Proofs.Tryz (prog)
set_option linter.all false
set_option maxHeartbeats 4000000
def zCf : List AV := [.i .u64 0, .i .i64 0, .fz 0 [] (some 0), .fz 0 [] (some 0), .i .i64 0]
theorem zah {R : Y5} (hR : ExtR R) {B : Tab} {id : Nat} {a b c : AV} (ha : a.plain = true /\ b.plain = true /\ c.plain = true) : ∀ (n : Nat) (s : RS) (os : List (Int × Bool)) (v w : AV) (T1 : Tab), n <= 8 -> os.length + n <= 1000 -> Len s.1.length ->
  Owns (rT B id s) [⟨1, v, os.length, qg1 (os.map (·.1))⟩, ⟨1, w, os.length, qez (os.map (·.2))⟩] T1 ->
  (∀ v w T1 m, Owns (rT B id (G1 qjf n s).2) [⟨1, v, (os ++ (G1 qjf n s).1).length, qg1 ((os ++ (G1 qjf n s).1).map (·.1))⟩, ⟨1, w, (os ++ (G1 qjf n s).1).length, qez ((os ++ (G1 qjf n s).1).map (·.2))⟩] T1 -> R (.exit 0) [(0, .ptr id 0), (2, .lp 2 0), (4, .lp 4 0), (5, .i .i64 m), (20, .b false)] [(2, zCf), (4, [a, b, v, w, c])] T1) ->
  AW prog qik R [(0, .ptr id 0), (2, .lp 2 0), (4, .lp 4 0), (5, .i .i64 n)] [(2, zCf), (4, [a, b, v, w, c])] T1 := by
 obtain ⟨a1, a2, a3⟩ := ha
 intro n
 induction n with
 | zero =>
  intro s os v w T1 hn hos hl ho h2
  refine Q1 hR ?_
  unfold qgw
  simp -implicitDefEqProofs -dsimp only [go_sem, seval, show ((0 : Nat) : Int) = 0 from rfl, ↓O8, G0, true_and, decide_false]
  exact h2 v w T1 0 (by simpa [G1] using ho)
 | succ n ih =>
  intro s os v w T1 hn hos hl ho h2
  obtain ⟨p1, p2, p3, p4, p5, p6⟩ := ho.form (List.mem_cons_self ..)
  obtain ⟨q1, q2, q3, q4, q5, q6⟩ := ho.form (List.mem_cons_of_mem _ (List.mem_cons_self ..))
  simp only at p1 p2 p3 p4 p5 p6 q1 q2 q3 q4 q5 q6
  have hpos : decide ((0 : Int) < ((n + 1 : Nat) : Int)) = true := decide_eq_true (by omega)
  refine N8 (l := qik) rfl hR ?_
  unfold qgw
  simp -implicitDefEqProofs -dsimp only [go_sem, seval, hpos, ↓O8, G0, true_and, ↓J0 _ _ Y1]
  refine can (qio ho.rdAt) ?_
  rcases hb : s.2 with _ | _
  case true =>
   have e : G1 qjf (n + 1) s = ([], s) := by simp [G1, hb]
   rw [e] at h2
   simp -implicitDefEqProofs -dsimp only [go_sem, seval, hb]
   exact h2 v w T1 _ (by simpa using ho)
  have e : G1 qjf (n + 1) s = ((qjf s).1 :: (G1 qjf n (qjf s).2).1, (G1 qjf n (qjf s).2).2) := by simp [G1, hb]
  rw [e] at h2
  have ho1 := ho.rd (K4 7 s).2
  have l1 := q23 (U3 7 s) hl
  simp -implicitDefEqProofs -dsimp only [go_sem, seval, hb, p1, p2, p3, p4, p5, p6, q1, q2, q3, q4, q5, q6, a1, a2, a3, ↓J0 _ _ O1]
  refine can (q6h ho.rdAt 7 (by decide) hl) ?_
  simp -implicitDefEqProofs -dsimp only [go_sem, seval, p1, p2, p3, p4, p5, p6, q1, q2, q3, q4, q5, q6, a1, a2, a3]
  refine ho1.app (m := 1) (b := 8) (news := [.i .i64 ((K4 7 s).1 : Nat)]) rfl rfl (by simp only; omega) (by simp only; omega) fun v2 T2 ho2 => J1 ?_
  obtain ⟨p1, p2, p3, p4, p5, p6⟩ := ho2.form (List.mem_cons_self ..)
  simp only at p1 p2 p3 p4 p5 p6
  have ho3 := (ho2.rd (qjf s).2).swap
  simp -implicitDefEqProofs -dsimp only [go_sem, seval, p1, p2, p3, p4, p5, p6, q1, q2, q3, q4, q5, q6, a1, a2, a3, ↓J0 _ _ q64]
  refine can (qw3 ho2.rdAt l1) ?_
  simp -implicitDefEqProofs -dsimp only [go_sem, seval, p1, p2, p3, p4, p5, p6, q1, q2, q3, q4, q5, q6, a1, a2, a3]
  refine ho3.app (m := 1) (b := 1) (news := [.b (decide ((K4 1 (K4 7 s).2).1 = 1))]) rfl rfl (by simp only; omega) (by simp only; omega) fun w2 T3 ho4 => J1 ?_
  have ho5 := ho4.swap
  obtain ⟨q1, q2, q3, q4, q5, q6⟩ := ho4.form (List.mem_cons_self ..)
  simp only at q1 q2 q3 q4 q5 q6
  simp -implicitDefEqProofs -dsimp only [go_sem, seval, p1, p2, p3, p4, p5, p6, q1, q2, q3, q4, q5, q6, a1, a2, a3]
  rw [qf3 (by omega)]
  have e1 : qg1 (os.map (·.1)) ++ [.i .i64 ((K4 7 s).1 : Nat)] = qg1 ((os ++ [(qjf s).1]).map (·.1)) := by simp [qg1, qjf]
  have e2 : qez (os.map (·.2)) ++ [.b (decide ((K4 1 (K4 7 s).2).1 = 1))] = qez ((os ++ [(qjf s).1]).map (·.2)) := by simp [qez, qjf]
  simp only [e1, e2] at ho5
  refine ih (qjf s).2 (os ++ [(qjf s).1]) v2 w2 T3 (by omega) (by simp; omega) (q23 (qw5 s) hl) (by simpa using ho5) fun v w T1 m ho => h2 v w T1 m ?_
  simpa only [List.append_assoc, List.cons_append, List.nil_append] using ho
def qu3 (s : RS) : Bool := !(rCf s).2.2 && (rCf s).1.right
def znr : Cf := ⟨0, 0, [], [], 0⟩
def qt1 (s : RS) : Cf := if qu3 s = true then (rCf s).1 else znr
theorem Wks.cf5 {a b c : AV} {n m : Nat} {x y : List AV} {k1 k2 : Option Nat} : Wks [a, b, .fz n x k1, .fz m y k2, c] [a, b, .fz n x none, .fz m y none, c] :=
 ⟨.refl _, .refl _, .fz, .fz, .refl _, trivial⟩
theorem zai {T : Tab} {id : Nat} {s : RS} (h : T id = q9n s) (hl : Len s.1.length) : ACalls prog qd0 [.ptr id 0] T (fun v T' => v = .tup [.agg ((qt1 s).cells none none), .b (qu3 s)] /\ T' = rT T id (rCf s).2) := by
 refine Z3 U4 z06 (by simp) ?_
 have l0 := q23 (U3 18446744073709551615 s) hl
 have l1 := q23 (U3 3 _) l0
 have l2 := q23 (U3 8 _) l1
 have l3 := q23 (qa9 qw5 (K4 8 (K4 3 (K4 18446744073709551615 s).2).2).1 _) l2
 have b1 := q3c 8 (K4 3 (K4 18446744073709551615 s).2).2
 have b2 := qj7 (f := qjf) (K4 8 (K4 3 (K4 18446744073709551615 s).2).2).1 (K4 8 (K4 3 (K4 18446744073709551615 s).2).2).2
 unfold qsb
 simp -implicitDefEqProofs -dsimp only [go_sem, seval, ↓J0 _ _ q1l]
 refine can (zba h hl) ?_
 simp -implicitDefEqProofs -dsimp only [go_sem, seval, ↓J0 _ _ O1]
 refine can (q6h q7e 3 (by decide) l0) ?_
 simp -implicitDefEqProofs -dsimp only [go_sem, seval, qin, ↓J0 _ _ O1]
 refine can (q6h q7e 8 (by decide) l1) ?_
 simp -implicitDefEqProofs -dsimp only [go_sem, seval, qin]
 refine zah (B := T) (by repeat' (first | exact N2 _ _ | assumption | apply N1 | apply K8 | apply Q6)) ⟨rfl, rfl, rfl⟩ _ _ [] _ _ _ b1 (by simp; omega) l2 ⟨_, ⟨_, rfl, .nil ..⟩, .nil ..⟩ (fun v w T1 m o1 => ?_)
 obtain ⟨p1, p2, p3, p4, p5, p6⟩ := o1.form (List.mem_cons_self ..)
 obtain ⟨q1, q2, q3, q4, q5, q6⟩ := o1.form (List.mem_cons_of_mem _ (List.mem_cons_self ..))
 simp only at p1 p2 p3 p4 p5 p6 q1 q2 q3 q4 q5 q6
 have how := o1.rd (rCf s).2
 simp only [List.nil_append] at how
 simp -implicitDefEqProofs -dsimp only [go_sem, seval, p1, p2, p3, p4, p5, p6, q1, q2, q3, q4, q5, q6, ↓J0 _ _ O1]
 refine can (q6h o1.rdAt 8 (by decide) l3) ?_
 have ecf : (rCf s).1 = ⟨(K4 18446744073709551615 s).1, (K4 3 (K4 18446744073709551615 s).2).1, (G1 qjf (K4 8 (K4 3 (K4 18446744073709551615 s).2).2).1 (K4 8 (K4 3 (K4 18446744073709551615 s).2).2).2).1.map (·.1), (G1 qjf (K4 8 (K4 3 (K4 18446744073709551615 s).2).2).1 (K4 8 (K4 3 (K4 18446744073709551615 s).2).2).2).1.map (·.2), if (K4 8 (G1 qjf (K4 8 (K4 3 (K4 18446744073709551615 s).2).2).1 (K4 8 (K4 3 (K4 18446744073709551615 s).2).2).2).2).1 = 8 then -1 else ((K4 8 (G1 qjf (K4 8 (K4 3 (K4 18446744073709551615 s).2).2).1 (K4 8 (K4 3 (K4 18446744073709551615 s).2).2).2).2).1 : Int)⟩ := rfl
 have ers : (rCf s).2 = (K4 8 (G1 qjf (K4 8 (K4 3 (K4 18446744073709551615 s).2).2).1 (K4 8 (K4 3 (K4 18446744073709551615 s).2).2).2).2).2 := rfl
 rw [<- ers]
 generalize hms : (G1 qjf (K4 8 (K4 3 (K4 18446744073709551615 s).2).2).1 (K4 8 (K4 3 (K4 18446744073709551615 s).2).2).2) = ms at *
 generalize hln : (K4 8 ms.2).1 = ln at *
 generalize hc : (rCf s).1 = cf at *
 have hlen : Len cf.ch.length := by rw [ecf]; unfold Len; simp; omega
 have errEnd : qu3 s = false -> qtj (.tup [.agg [.i .u64 0, .i .i64 0, .fz 0 [] (some 0), .fz 0 [] (some 0), .i .i64 0], .b false]) (fun v T' => v = .tup [.agg ((qt1 s).cells none none), .b (qu3 s)] /\ T' = rT T id (rCf s).2) (rT T1 id (rCf s).2) := by
  intro hb
  refine q1e how fun S hS => ?_
  simp only [qt1, hb, Bool.false_eq_true, if_false, qoq, qfy, List.map_cons, List.map_nil, qcw, qf0, ql5]
  exact Wk.tup ⟨Wk.agg Wks.cf5, .refl _, trivial⟩
 have d8 : decide ((ln : Int) = 8) = decide (ln = 8) := decide_eq_decide.2 (by omega)
 rcases h8 : decide (ln = 8) with _ | _
 all_goals
  first
   | (have e8 : (if ln = 8 then (-1 : Int) else ln) = ln := if_neg (of_decide_eq_false h8); rw [e8] at ecf)
   | (have e8 : (if ln = 8 then (-1 : Int) else ln) = -1 := if_pos (of_decide_eq_true h8); rw [e8] at ecf)
  simp -implicitDefEqProofs -dsimp only [go_sem, seval, d8, h8, p1, p2, p3, p4, p5, p6, q1, q2, q3, q4, q5, q6, ↓J0 _ _ Y1]
  refine can (qio q7e) ?_
  rcases hb : (rCf s).2.2 with _ | _
  ·simp -implicitDefEqProofs -dsimp only [go_sem, seval, hb, p1, p2, p3, p4, p5, p6, q1, q2, q3, q4, q5, q6, ↓O8, G0, true_and, ↓J0 _ _ qif]
   refine CallK.borrow (r := .b cf.right) how (fun S hS => ?_) .b (J1 ?_)
   ·obtain ⟨c1, e1⟩ := hS _ (List.mem_cons_self ..)
    obtain ⟨c2, e2⟩ := hS _ (List.mem_cons_of_mem _ (List.mem_cons_self ..))
    simp only at e1 e2
    have := qgz cf c1 c2 hlen
    simp only [Cf.cells] at this
    rw [ecf] at this ⊢
    simp only [List.length_map] at this
    simp only [List.map_cons, List.map_nil, qfy, qcw, qf0, e1, e2]
    exact this
   rcases hok : cf.right with _ | _
   ·simp -implicitDefEqProofs -dsimp only [go_sem, seval, hb, hok, zCf, p1, p2, p3, p4, p5, p6, q1, q2, q3, q4, q5, q6, ↓O8, G0, true_and]
    exact errEnd (by simp [qu3, hb, hc, hok])
   ·simp -implicitDefEqProofs -dsimp only [go_sem, seval, hb, hok, zCf, p1, p2, p3, p4, p5, p6, q1, q2, q3, q4, q5, q6, ↓O8, G0, true_and]
    have hk : qu3 s = true := by simp [qu3, hb, hc, hok]
    refine q1e how fun S hS => ?_
    obtain ⟨c1, e1⟩ := hS _ (List.mem_cons_self ..)
    obtain ⟨c2, e2⟩ := hS _ (List.mem_cons_of_mem _ (List.mem_cons_self ..))
    simp only at e1 e2
    simp only [qt1, hk, if_true, qoq, qfy, List.map_cons, List.map_nil, qcw, qf0, e1, e2, hc, ecf, Cf.cells, List.length_map]
    exact Wk.tup ⟨Wk.agg Wks.cf5, .refl _, trivial⟩
  ·simp -implicitDefEqProofs -dsimp only [go_sem, seval, hb, zCf, p1, p2, p3, p4, p5, p6, q1, q2, q3, q4, q5, q6, ↓O8, G0, true_and]
   exact errEnd (by simp [qu3, hb])
end Go.Aw
namespace Go.Aw
open Go
open Go.Proofs.Tryz (prog)
set_option linter.all false
set_option maxHeartbeats 8000000
set_option maxRecDepth 8000
def qqz (s : RS) : (Int × Int) × RS :=
 let a := K4 18446744073709551615 s
 let b := K4 5 a.2
 (if b.2.2 = true then (0, 0) else (a.1, if b.1 = 5 then -1 else b.1), b.2)
theorem qwo (s : RS) : (qqz s).2.1.length <= s.1.length := Nat.le_trans (U3 _ _) (U3 _ _)
theorem z2q {T : Tab} {id : Nat} {s : RS} (h : T id = q9n s) (hl : Len s.1.length) : ACalls prog qad [.ptr id 0] T (fun v T' => v = .agg [.i .u64 (qqz s).1.1, .i .i64 (qqz s).1.2] /\ T' = rT T id (qqz s).2) := by
 refine Z3 U4 qvw (by simp) ?_
 unfold qo4
 simp -implicitDefEqProofs -dsimp only [go_sem, seval, ↓J0 _ _ q1l]
 refine can (zba h hl) ?_
 simp -implicitDefEqProofs -dsimp only [go_sem, seval, ↓J0 _ _ O1]
 refine can (q6h q7e 5 (by decide) (q23 (U3 _ _) hl)) ?_
 rw [qin]
 have e1 : (qqz s).2 = (K4 5 (K4 18446744073709551615 s).2).2 := rfl
 have e2 : (qqz s).1 = if (K4 5 (K4 18446744073709551615 s).2).2.2 = true then (0, 0) else (((K4 18446744073709551615 s).1 : Int), if (K4 5 (K4 18446744073709551615 s).2).1 = 5 then -1 else ((K4 5 (K4 18446744073709551615 s).2).1 : Int)) := rfl
 rw [e1, e2]
 generalize K4 5 (K4 18446744073709551615 s).2 = b
 generalize (K4 18446744073709551615 s).1 = a
 simp -implicitDefEqProofs -dsimp only [go_sem, seval]
 apply J2 <;> intro h5
 ·have h5' : b.1 = 5 := by have := of_decide_eq_true h5; omega
  simp -implicitDefEqProofs -dsimp only [go_sem, seval, h5, ↓J0 _ _ Y1]
  refine can (qio q7e) ?_
  rcases hb : b.2.2 with _ | _
  ·simp -implicitDefEqProofs -dsimp only [go_sem, seval]
   exact qf1 (by simp only [h5', Bool.false_eq_true, if_false, if_true]; exact .refl _) rfl
  ·simp -implicitDefEqProofs -dsimp only [go_sem, seval]
   exact qf1 (.refl _) rfl
 ·have h5' : ¬ b.1 = 5 := by have := of_decide_eq_false h5; omega
  simp -implicitDefEqProofs -dsimp only [go_sem, seval, h5, ↓J0 _ _ Y1]
  refine can (qio q7e) ?_
  rcases hb : b.2.2 with _ | _
  ·simp -implicitDefEqProofs -dsimp only [go_sem, seval]
   exact qf1 (by simp only [h5', Bool.false_eq_true, if_false, if_true]; exact .refl _) rfl
  ·simp -implicitDefEqProofs -dsimp only [go_sem, seval]
   exact qf1 (.refl _) rfl
theorem z2r {r : Nat} {n : Int} (hr : r < 18446744073709551616) (hn : qh1 n = true) (rest : Bs) : qqz (enc r ++ enc n.toNat ++ rest, false) = (((r : Int), n), (rest, false)) := by
 simp only [qh1, Bool.and_eq_true, decide_eq_true_eq] at hn
 unfold qqz
 rw [List.append_assoc, V5 (by omega) (by omega)]
 simp only
 rw [V5 (by omega) (by omega)]
 simp only [Bool.false_eq_true, if_false]
 rw [if_neg (by omega), show ((n.toNat : Nat) : Int) = n by omega]
end Go.Aw
namespace Go.Aw
open Go
open Go.Proofs.Tryz (prog)
set_option linter.all false
set_option maxHeartbeats 8000000
set_option maxRecDepth 8000
def rVt (s : RS) : Vt × RS :=
 let a := K4 1048576 s
 let b := qqz a.2
 let t := q33 64 b.2
 (⟨a.1, b.1.1, b.1.2, t.1⟩, t.2)
theorem zdy {v : Vt} (h : VtG v) (rest : Bs) : rVt (qyz v ++ rest, false) = (v, (rest, false)) := by
 obtain ⟨sl, rd, nd, t⟩ := v
 obtain ⟨q1, q2, q3, q4⟩ := h
 simp only at q1 q2 q3 q4
 have e : qyz ⟨sl, rd, nd, t⟩ ++ rest = enc sl.toNat ++ ((enc rd.toNat ++ enc nd.toNat) ++ (q75 t ++ rest)) := by simp only [qyz, List.append_assoc]
 unfold rVt
 rw [e, V5 (by omega) (by omega)]
 simp only
 rw [z2r (by omega) q3]
 simp only [q75]
 rw [qf2 (by omega) (by omega)]
 rw [show ((sl.toNat : Nat) : Int) = sl by omega, show ((rd.toNat : Nat) : Int) = rd by omega]
def rCo (s : RS) : Cf × RS := (qt1 s, (rCf s).2)
theorem zdz {c : Cf} (h : CfG c) (rest : Bs) : rCo (zew c ++ rest, false) = (c, (rest, false)) := by
 have e := zdb (Cf.ok_of h.1 h.2.1) rest
 unfold rCo qt1 qu3
 rw [zew, e]
 simp only [h.1, Bool.not_false, Bool.and_self, if_true]
def rEy (s : RS) : En × RS := (qa3 ((q33 2048 s).1, false), (q33 2048 s).2)
theorem ze0 {e : En} (h : EnG e) (rest : Bs) : rEy (z18 e ++ rest, false) = (e, (rest, false)) := by
 have g := En.good_of h.1 h.2.2
 have l := qiu g
 unfold rEy
 rw [z18, q75, qf2 (by omega) (by omega)]
 simp only [(z79 g).2]
end Go.Aw
