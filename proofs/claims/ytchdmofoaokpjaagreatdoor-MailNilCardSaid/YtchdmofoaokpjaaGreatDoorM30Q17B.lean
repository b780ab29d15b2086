import Derived.Test.YtchdmofoaokpjaaGreatDoorM30N17O16C
import Derived.Test.YtchdmofoaokpjaaGreatDoorM30N17F04S
import Derived.Test.YtchdmofoaokpjaaGreatDoorM30N17E12J
namespace Go.Aw
open Go
open Go.Proofs.Tryz (prog)
set_option linter.all false
set_option maxHeartbeats 4000000
def zCf : List AV := [.i .u64 0, .i .i64 0, .fz 0 [] (some 0), .fz 0 [] (some 0), .i .i64 0]
theorem z2q {R : I2} (hR : ExtR R) {B : Tab} {id : Nat} {a b c : AV} (ha : a.plain = true /\ b.plain = true /\ c.plain = true) : ∀ (n : Nat) (s : RS) (os : List (Int × Bool)) (v w : AV) (T1 : Tab), n <= 8 -> os.length + n <= 1000 -> Len s.1.length ->
  Owns (rT B id s) [⟨1, v, os.length, qdl (os.map (·.1))⟩, ⟨1, w, os.length, q9x (os.map (·.2))⟩] T1 ->
  (∀ v w T1 m, Owns (rT B id (V9 qdj n s).2) [⟨1, v, (os ++ (V9 qdj n s).1).length, qdl ((os ++ (V9 qdj n s).1).map (·.1))⟩, ⟨1, w, (os ++ (V9 qdj n s).1).length, q9x ((os ++ (V9 qdj n s).1).map (·.2))⟩] T1 -> R (.exit 0) [(0, .ptr id 0), (2, .lp 2 0), (4, .lp 4 0), (5, .i .i64 m), (20, .b false)] [(2, zCf), (4, [a, b, v, w, c])] T1) ->
  AW prog qco R [(0, .ptr id 0), (2, .lp 2 0), (4, .lp 4 0), (5, .i .i64 n)] [(2, zCf), (4, [a, b, v, w, c])] T1 := by
 obtain ⟨a1, a2, a3⟩ := ha
 intro n
 induction n with
 | zero =>
  intro s os v w T1 hn hos hl ho h2
  refine V1 hR ?_
  unfold qaz
  simp -implicitDefEqProofs -dsimp only [go_sem, seval, show ((0 : Nat) : Int) = 0 from rfl, ↓Q4, I4, true_and, decide_false]
  exact h2 v w T1 0 (by simpa [V9] using ho)
 | succ n ih =>
  intro s os v w T1 hn hos hl ho h2
  obtain ⟨p1, p2, p3, p4, p5, p6⟩ := ho.form (List.mem_cons_self ..)
  obtain ⟨q1, q2, q3, q4, q5, q6⟩ := ho.form (List.mem_cons_of_mem _ (List.mem_cons_self ..))
  simp only at p1 p2 p3 p4 p5 p6 q1 q2 q3 q4 q5 q6
  have hpos : decide ((0 : Int) < ((n + 1 : Nat) : Int)) = true := decide_eq_true (by omega)
  refine Q3 (l := qco) rfl hR ?_
  unfold qaz
  simp -implicitDefEqProofs -dsimp only [go_sem, seval, hpos, ↓Q4, I4, true_and, ↓J0 _ _ U4]
  refine can (qcy ho.rdAt) ?_
  rcases hb : s.2 with _ | _
  case true =>
   have e : V9 qdj (n + 1) s = ([], s) := by simp [V9, hb]
   rw [e] at h2
   simp -implicitDefEqProofs -dsimp only [go_sem, seval, hb]
   exact h2 v w T1 _ (by simpa using ho)
  have e : V9 qdj (n + 1) s = ((qdj s).1 :: (V9 qdj n (qdj s).2).1, (V9 qdj n (qdj s).2).2) := by simp [V9, hb]
  rw [e] at h2
  have ho1 := ho.rd (K3 7 s).2
  have l1 := q10 (O5 7 s) hl
  simp -implicitDefEqProofs -dsimp only [go_sem, seval, hb, p1, p2, p3, p4, p5, p6, q1, q2, q3, q4, q5, q6, a1, a2, a3, ↓J0 _ _ N1]
  refine can (q40 ho.rdAt 7 (by decide) hl) ?_
  simp -implicitDefEqProofs -dsimp only [go_sem, seval, p1, p2, p3, p4, p5, p6, q1, q2, q3, q4, q5, q6, a1, a2, a3]
  refine ho1.app (m := 1) (b := 8) (news := [.i .i64 ((K3 7 s).1 : Nat)]) rfl rfl (by simp only; omega) (by simp only; omega) fun v2 T2 ho2 => J1 ?_
  obtain ⟨p1, p2, p3, p4, p5, p6⟩ := ho2.form (List.mem_cons_self ..)
  simp only at p1 p2 p3 p4 p5 p6
  have ho3 := (ho2.rd (qdj s).2).swap
  simp -implicitDefEqProofs -dsimp only [go_sem, seval, p1, p2, p3, p4, p5, p6, q1, q2, q3, q4, q5, q6, a1, a2, a3, ↓J0 _ _ q3q]
  refine can (qop ho2.rdAt l1) ?_
  simp -implicitDefEqProofs -dsimp only [go_sem, seval, p1, p2, p3, p4, p5, p6, q1, q2, q3, q4, q5, q6, a1, a2, a3]
  refine ho3.app (m := 1) (b := 1) (news := [.b (decide ((K3 1 (K3 7 s).2).1 = 1))]) rfl rfl (by simp only; omega) (by simp only; omega) fun w2 T3 ho4 => J1 ?_
  have ho5 := ho4.swap
  obtain ⟨q1, q2, q3, q4, q5, q6⟩ := ho4.form (List.mem_cons_self ..)
  simp only at q1 q2 q3 q4 q5 q6
  simp -implicitDefEqProofs -dsimp only [go_sem, seval, p1, p2, p3, p4, p5, p6, q1, q2, q3, q4, q5, q6, a1, a2, a3]
  rw [q9z (by omega)]
  have e1 : qdl (os.map (·.1)) ++ [.i .i64 ((K3 7 s).1 : Nat)] = qdl ((os ++ [(qdj s).1]).map (·.1)) := by simp [qdl, qdj]
  have e2 : q9x (os.map (·.2)) ++ [.b (decide ((K3 1 (K3 7 s).2).1 = 1))] = q9x ((os ++ [(qdj s).1]).map (·.2)) := by simp [q9x, qdj]
  simp only [e1, e2] at ho5
  refine ih (qdj s).2 (os ++ [(qdj s).1]) v2 w2 T3 (by omega) (by simp; omega) (q10 (qos s) hl) (by simpa using ho5) fun v w T1 m ho => h2 v w T1 m ?_
  simpa only [List.append_assoc, List.cons_append, List.nil_append] using ho
def qml (s : RS) : Bool := !(rCf s).2.2 && (rCf s).1.right
def zf6 : Cf := ⟨0, 0, [], [], 0⟩
def qld (s : RS) : Cf := if qml s = true then (rCf s).1 else zf6
theorem Wks.cf5 {a b c : AV} {n m : Nat} {x y : List AV} {k1 k2 : Option Nat} : Wks [a, b, .fz n x k1, .fz m y k2, c] [a, b, .fz n x none, .fz m y none, c] :=
 ⟨.refl _, .refl _, .fz, .fz, .refl _, trivial⟩
theorem z2r {T : Tab} {id : Nat} {s : RS} (h : T id = q5y s) (hl : Len s.1.length) : ACalls prog q8f [.ptr id 0] T (fun v T' => v = .tup [.agg ((qld s).cells none none), .b (qml s)] /\ T' = rT T id (rCf s).2) := by
 refine U7 Q9 qs6 (by simp) ?_
 have l0 := q10 (O5 18446744073709551615 s) hl
 have l1 := q10 (O5 3 _) l0
 have l2 := q10 (O5 8 _) l1
 have l3 := q10 (q6d qos (K3 8 (K3 3 (K3 18446744073709551615 s).2).2).1 _) l2
 have b1 := q21 8 (K3 3 (K3 18446744073709551615 s).2).2
 have b2 := qdd (f := qdj) (K3 8 (K3 3 (K3 18446744073709551615 s).2).2).1 (K3 8 (K3 3 (K3 18446744073709551615 s).2).2).2
 unfold qku
 simp -implicitDefEqProofs -dsimp only [go_sem, seval, ↓J0 _ _ q0q]
 refine can (z3d h hl) ?_
 simp -implicitDefEqProofs -dsimp only [go_sem, seval, ↓J0 _ _ N1]
 refine can (q40 q4c 3 (by decide) l0) ?_
 simp -implicitDefEqProofs -dsimp only [go_sem, seval, qcx, ↓J0 _ _ N1]
 refine can (q40 q4c 8 (by decide) l1) ?_
 simp -implicitDefEqProofs -dsimp only [go_sem, seval, qcx]
 refine z2q (B := T) (by repeat' (first | exact O7 _ _ | assumption | apply O6 | apply N6 | apply Y1)) ⟨rfl, rfl, rfl⟩ _ _ [] _ _ _ b1 (by simp; omega) l2 ⟨_, ⟨_, rfl, .nil ..⟩, .nil ..⟩ (fun v w T1 m o1 => ?_)
 obtain ⟨p1, p2, p3, p4, p5, p6⟩ := o1.form (List.mem_cons_self ..)
 obtain ⟨q1, q2, q3, q4, q5, q6⟩ := o1.form (List.mem_cons_of_mem _ (List.mem_cons_self ..))
 simp only at p1 p2 p3 p4 p5 p6 q1 q2 q3 q4 q5 q6
 have how := o1.rd (rCf s).2
 simp only [List.nil_append] at how
 simp -implicitDefEqProofs -dsimp only [go_sem, seval, p1, p2, p3, p4, p5, p6, q1, q2, q3, q4, q5, q6, ↓J0 _ _ N1]
 refine can (q40 o1.rdAt 8 (by decide) l3) ?_
 have ecf : (rCf s).1 = ⟨(K3 18446744073709551615 s).1, (K3 3 (K3 18446744073709551615 s).2).1, (V9 qdj (K3 8 (K3 3 (K3 18446744073709551615 s).2).2).1 (K3 8 (K3 3 (K3 18446744073709551615 s).2).2).2).1.map (·.1), (V9 qdj (K3 8 (K3 3 (K3 18446744073709551615 s).2).2).1 (K3 8 (K3 3 (K3 18446744073709551615 s).2).2).2).1.map (·.2), if (K3 8 (V9 qdj (K3 8 (K3 3 (K3 18446744073709551615 s).2).2).1 (K3 8 (K3 3 (K3 18446744073709551615 s).2).2).2).2).1 = 8 then -1 else ((K3 8 (V9 qdj (K3 8 (K3 3 (K3 18446744073709551615 s).2).2).1 (K3 8 (K3 3 (K3 18446744073709551615 s).2).2).2).2).1 : Int)⟩ := rfl
 have ers : (rCf s).2 = (K3 8 (V9 qdj (K3 8 (K3 3 (K3 18446744073709551615 s).2).2).1 (K3 8 (K3 3 (K3 18446744073709551615 s).2).2).2).2).2 := rfl
 rw [<- ers]
 generalize hms : (V9 qdj (K3 8 (K3 3 (K3 18446744073709551615 s).2).2).1 (K3 8 (K3 3 (K3 18446744073709551615 s).2).2).2) = ms at *
 generalize hln : (K3 8 ms.2).1 = ln at *
 generalize hc : (rCf s).1 = cf at *
 have hlen : Len cf.ch.length := by rw [ecf]; unfold Len; simp; omega
 have errEnd : qml s = false -> qn0 (.tup [.agg [.i .u64 0, .i .i64 0, .fz 0 [] (some 0), .fz 0 [] (some 0), .i .i64 0], .b false]) (fun v T' => v = .tup [.agg ((qld s).cells none none), .b (qml s)] /\ T' = rT T id (rCf s).2) (rT T1 id (rCf s).2) := by
  intro hb
  refine q30 how fun S hS => ?_
  simp only [qld, hb, Bool.false_eq_true, if_false, qlw, qah, List.map_cons, List.map_nil, qbg, qc8, qha]
  exact Wk.tup ⟨Wk.agg Wks.cf5, .refl _, trivial⟩
 have d8 : decide ((ln : Int) = 8) = decide (ln = 8) := decide_eq_decide.2 (by omega)
 rcases h8 : decide (ln = 8) with _ | _
 all_goals
  first
   | (have e8 : (if ln = 8 then (-1 : Int) else ln) = ln := if_neg (of_decide_eq_false h8); rw [e8] at ecf)
   | (have e8 : (if ln = 8 then (-1 : Int) else ln) = -1 := if_pos (of_decide_eq_true h8); rw [e8] at ecf)
  simp -implicitDefEqProofs -dsimp only [go_sem, seval, d8, h8, p1, p2, p3, p4, p5, p6, q1, q2, q3, q4, q5, q6, ↓J0 _ _ U4]
  refine can (qcy q4c) ?_
  rcases hb : (rCf s).2.2 with _ | _
  ·simp -implicitDefEqProofs -dsimp only [go_sem, seval, hb, p1, p2, p3, p4, p5, p6, q1, q2, q3, q4, q5, q6, ↓Q4, I4, true_and, ↓J0 _ _ qcr]
   refine CallK.borrow (r := .b cf.right) how (fun S hS => ?_) .b (J1 ?_)
   ·obtain ⟨c1, e1⟩ := hS _ (List.mem_cons_self ..)
    obtain ⟨c2, e2⟩ := hS _ (List.mem_cons_of_mem _ (List.mem_cons_self ..))
    simp only at e1 e2
    have := qbc cf c1 c2 hlen
    simp only [Cf.cells] at this
    rw [ecf] at this ⊢
    simp only [List.length_map] at this
    simp only [List.map_cons, List.map_nil, qah, qbg, qc8, e1, e2]
    exact this
   rcases hok : cf.right with _ | _
   ·simp -implicitDefEqProofs -dsimp only [go_sem, seval, hb, hok, zCf, p1, p2, p3, p4, p5, p6, q1, q2, q3, q4, q5, q6, ↓Q4, I4, true_and]
    exact errEnd (by simp [qml, hb, hc, hok])
   ·simp -implicitDefEqProofs -dsimp only [go_sem, seval, hb, hok, zCf, p1, p2, p3, p4, p5, p6, q1, q2, q3, q4, q5, q6, ↓Q4, I4, true_and]
    have hk : qml s = true := by simp [qml, hb, hc, hok]
    refine q30 how fun S hS => ?_
    obtain ⟨c1, e1⟩ := hS _ (List.mem_cons_self ..)
    obtain ⟨c2, e2⟩ := hS _ (List.mem_cons_of_mem _ (List.mem_cons_self ..))
    simp only at e1 e2
    simp only [qld, hk, if_true, qlw, qah, List.map_cons, List.map_nil, qbg, qc8, e1, e2, hc, ecf, Cf.cells, List.length_map]
    exact Wk.tup ⟨Wk.agg Wks.cf5, .refl _, trivial⟩
  ·simp -implicitDefEqProofs -dsimp only [go_sem, seval, hb, zCf, p1, p2, p3, p4, p5, p6, q1, q2, q3, q4, q5, q6, ↓Q4, I4, true_and]
   exact errEnd (by simp [qml, hb])
end Go.Aw
namespace Go.Aw
open Go
open Go.Proofs.Tryz (prog)
set_option linter.all false
set_option maxHeartbeats 8000000
set_option maxRecDepth 8000
def qje (s : RS) : (Int × Int) × RS :=
 let a := K3 18446744073709551615 s
 let b := K3 5 a.2
 (if b.2.2 = true then (0, 0) else (a.1, if b.1 = 5 then -1 else b.1), b.2)
theorem qp0 (s : RS) : (qje s).2.1.length <= s.1.length := Nat.le_trans (O5 _ _) (O5 _ _)
theorem quq {T : Tab} {id : Nat} {s : RS} (h : T id = q5y s) (hl : Len s.1.length) : ACalls prog q6f [.ptr id 0] T (fun v T' => v = .agg [.i .u64 (qje s).1.1, .i .i64 (qje s).1.2] /\ T' = rT T id (qje s).2) := by
 refine U7 Q9 qod (by simp) ?_
 unfold qgd
 simp -implicitDefEqProofs -dsimp only [go_sem, seval, ↓J0 _ _ q0q]
 refine can (z3d h hl) ?_
 simp -implicitDefEqProofs -dsimp only [go_sem, seval, ↓J0 _ _ N1]
 refine can (q40 q4c 5 (by decide) (q10 (O5 _ _) hl)) ?_
 rw [qcx]
 have e1 : (qje s).2 = (K3 5 (K3 18446744073709551615 s).2).2 := rfl
 have e2 : (qje s).1 = if (K3 5 (K3 18446744073709551615 s).2).2.2 = true then (0, 0) else (((K3 18446744073709551615 s).1 : Int), if (K3 5 (K3 18446744073709551615 s).2).1 = 5 then -1 else ((K3 5 (K3 18446744073709551615 s).2).1 : Int)) := rfl
 rw [e1, e2]
 generalize K3 5 (K3 18446744073709551615 s).2 = b
 generalize (K3 18446744073709551615 s).1 = a
 simp -implicitDefEqProofs -dsimp only [go_sem, seval]
 apply K0 <;> intro h5
 ·have h5' : b.1 = 5 := by have := of_decide_eq_true h5; omega
  simp -implicitDefEqProofs -dsimp only [go_sem, seval, h5, ↓J0 _ _ U4]
  refine can (qcy q4c) ?_
  rcases hb : b.2.2 with _ | _
  ·simp -implicitDefEqProofs -dsimp only [go_sem, seval]
   exact q7v (by simp only [h5', Bool.false_eq_true, if_false, if_true]; exact .refl _) rfl
  ·simp -implicitDefEqProofs -dsimp only [go_sem, seval]
   exact q7v (.refl _) rfl
 ·have h5' : ¬ b.1 = 5 := by have := of_decide_eq_false h5; omega
  simp -implicitDefEqProofs -dsimp only [go_sem, seval, h5, ↓J0 _ _ U4]
  refine can (qcy q4c) ?_
  rcases hb : b.2.2 with _ | _
  ·simp -implicitDefEqProofs -dsimp only [go_sem, seval]
   exact q7v (by simp only [h5', Bool.false_eq_true, if_false, if_true]; exact .refl _) rfl
  ·simp -implicitDefEqProofs -dsimp only [go_sem, seval]
   exact q7v (.refl _) rfl
theorem qur {r : Nat} {n : Int} (hr : r < 18446744073709551616) (hn : qji n = true) (rest : Bs) : qje (enc r ++ enc n.toNat ++ rest, false) = (((r : Int), n), (rest, false)) := by
 simp only [qji, Bool.and_eq_true, decide_eq_true_eq] at hn
 unfold qje
 rw [List.append_assoc, U0 (by omega) (by omega)]
 simp only
 rw [U0 (by omega) (by omega)]
 simp only [Bool.false_eq_true, if_false]
 rw [if_neg (by omega), show ((n.toNat : Nat) : Int) = n by omega]
end Go.Aw
namespace Go.Aw
open Go
open Go.Proofs.Tryz (prog)
set_option linter.all false
set_option maxHeartbeats 8000000
set_option maxRecDepth 8000
def rVt (s : RS) : Vt × RS :=
 let a := K3 1048576 s
 let b := qje a.2
 let t := q1o 64 b.2
 (⟨a.1, b.1.1, b.1.2, t.1⟩, t.2)
theorem z5z {v : Vt} (h : VtG v) (rest : Bs) : rVt (qzm v ++ rest, false) = (v, (rest, false)) := by
 obtain ⟨sl, rd, nd, t⟩ := v
 obtain ⟨q1, q2, q3, q4⟩ := h
 simp only at q1 q2 q3 q4
 have e : qzm ⟨sl, rd, nd, t⟩ ++ rest = enc sl.toNat ++ ((enc rd.toNat ++ enc nd.toNat) ++ (qcw t ++ rest)) := by simp only [qzm, List.append_assoc]
 unfold rVt
 rw [e, U0 (by omega) (by omega)]
 simp only
 rw [qur (by omega) q3]
 simp only [qcw]
 rw [q9y (by omega) (by omega)]
 rw [show ((sl.toNat : Nat) : Int) = sl by omega, show ((rd.toNat : Nat) : Int) = rd by omega]
def rCo (s : RS) : Cf × RS := (qld s, (rCf s).2)
theorem z60 {c : Cf} (h : CfG c) (rest : Bs) : rCo (z6l c ++ rest, false) = (c, (rest, false)) := by
 have e := z5d (Cf.ok_of h.1 h.2.1) rest
 unfold rCo qld qml
 rw [z6l, e]
 simp only [h.1, Bool.not_false, Bool.and_self, if_true]
def rEy (s : RS) : En × RS := (q69 ((q1o 2048 s).1, false), (q1o 2048 s).2)
theorem z61 {e : En} (h : EnG e) (rest : Bs) : rEy (z2k e ++ rest, false) = (e, (rest, false)) := by
 have g := En.good_of h.1 h.2.2
 have l := qlc g
 unfold rEy
 rw [z2k, qcw, q9y (by omega) (by omega)]
 simp only [(qz8 g).2]
end Go.Aw
