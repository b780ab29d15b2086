import Derived.Test.YtchdmofoaokpjaaGreatDoorM30N17O16C
import Derived.Test.YtchdmofoaokpjaaGreatDoorM30N17F04S
import Derived.Test.YtchdmofoaokpjaaGreatDoorM30N17E12J
namespace Go.Aw
open Go
open Go.Proofs.Tryz (prog)
set_option linter.all false
set_option maxHeartbeats 4000000
def zCf : List AV := [.i .u64 0, .i .i64 0, .fz 0 [] (some 0), .fz 0 [] (some 0), .i .i64 0]
theorem z38 {R : G9} (hR : ExtR R) {B : Tab} {id : Nat} {a b c : AV} (ha : a.plain = true /\ b.plain = true /\ c.plain = true) : ∀ (n : Nat) (s : RS) (os : List (Int × Bool)) (v w : AV) (T1 : Tab), n <= 8 -> os.length + n <= 1000 -> Len s.1.length ->
  Owns (rT B id s) [⟨1, v, os.length, qdp (os.map (·.1))⟩, ⟨1, w, os.length, qa7 (os.map (·.2))⟩] T1 ->
  (∀ v w T1 m, Owns (rT B id (Y1 qdm n s).2) [⟨1, v, (os ++ (Y1 qdm n s).1).length, qdp ((os ++ (Y1 qdm n s).1).map (·.1))⟩, ⟨1, w, (os ++ (Y1 qdm n s).1).length, qa7 ((os ++ (Y1 qdm n s).1).map (·.2))⟩] T1 -> R (.exit 0) [(0, .ptr id 0), (2, .lp 2 0), (4, .lp 4 0), (5, .i .i64 m), (20, .b false)] [(2, zCf), (4, [a, b, v, w, c])] T1) ->
  AW prog qcx R [(0, .ptr id 0), (2, .lp 2 0), (4, .lp 4 0), (5, .i .i64 n)] [(2, zCf), (4, [a, b, v, w, c])] T1 := by
 obtain ⟨a1, a2, a3⟩ := ha
 intro n
 induction n with
 | zero =>
  intro s os v w T1 hn hos hl ho h2
  refine V1 hR ?_
  unfold qba
  simp -implicitDefEqProofs -dsimp only [go_sem, seval, show ((0 : Nat) : Int) = 0 from rfl, ↓Q2, I2, true_and, decide_false]
  exact h2 v w T1 0 (by simpa [Y1] using ho)
 | succ n ih =>
  intro s os v w T1 hn hos hl ho h2
  obtain ⟨p1, p2, p3, p4, p5, p6⟩ := ho.form (List.mem_cons_self ..)
  obtain ⟨q1, q2, q3, q4, q5, q6⟩ := ho.form (List.mem_cons_of_mem _ (List.mem_cons_self ..))
  simp only at p1 p2 p3 p4 p5 p6 q1 q2 q3 q4 q5 q6
  have hpos : decide ((0 : Int) < ((n + 1 : Nat) : Int)) = true := decide_eq_true (by omega)
  refine Q1 (l := qcx) rfl hR ?_
  unfold qba
  simp -implicitDefEqProofs -dsimp only [go_sem, seval, hpos, ↓Q2, I2, true_and, ↓J0 _ _ U4]
  refine can (qd7 ho.rdAt) ?_
  rcases hb : s.2 with _ | _
  case true =>
   have e : Y1 qdm (n + 1) s = ([], s) := by simp [Y1, hb]
   rw [e] at h2
   simp -implicitDefEqProofs -dsimp only [go_sem, seval, hb]
   exact h2 v w T1 _ (by simpa using ho)
  have e : Y1 qdm (n + 1) s = ((qdm s).1 :: (Y1 qdm n (qdm s).2).1, (Y1 qdm n (qdm s).2).2) := by simp [Y1, hb]
  rw [e] at h2
  have ho1 := ho.rd (K3 7 s).2
  have l1 := q14 (O7 7 s) hl
  simp -implicitDefEqProofs -dsimp only [go_sem, seval, hb, p1, p2, p3, p4, p5, p6, q1, q2, q3, q4, q5, q6, a1, a2, a3, ↓J0 _ _ N2]
  refine can (q45 ho.rdAt 7 (by decide) hl) ?_
  simp -implicitDefEqProofs -dsimp only [go_sem, seval, p1, p2, p3, p4, p5, p6, q1, q2, q3, q4, q5, q6, a1, a2, a3]
  refine ho1.app (m := 1) (b := 8) (news := [.i .i64 ((K3 7 s).1 : Nat)]) rfl rfl (by simp only; omega) (by simp only; omega) fun v2 T2 ho2 => J1 ?_
  obtain ⟨p1, p2, p3, p4, p5, p6⟩ := ho2.form (List.mem_cons_self ..)
  simp only at p1 p2 p3 p4 p5 p6
  have ho3 := (ho2.rd (qdm s).2).swap
  simp -implicitDefEqProofs -dsimp only [go_sem, seval, p1, p2, p3, p4, p5, p6, q1, q2, q3, q4, q5, q6, a1, a2, a3, ↓J0 _ _ q3t]
  refine can (qor ho2.rdAt l1) ?_
  simp -implicitDefEqProofs -dsimp only [go_sem, seval, p1, p2, p3, p4, p5, p6, q1, q2, q3, q4, q5, q6, a1, a2, a3]
  refine ho3.app (m := 1) (b := 1) (news := [.b (decide ((K3 1 (K3 7 s).2).1 = 1))]) rfl rfl (by simp only; omega) (by simp only; omega) fun w2 T3 ho4 => J1 ?_
  have ho5 := ho4.swap
  obtain ⟨q1, q2, q3, q4, q5, q6⟩ := ho4.form (List.mem_cons_self ..)
  simp only at q1 q2 q3 q4 q5 q6
  simp -implicitDefEqProofs -dsimp only [go_sem, seval, p1, p2, p3, p4, p5, p6, q1, q2, q3, q4, q5, q6, a1, a2, a3]
  rw [qa9 (by omega)]
  have e1 : qdp (os.map (·.1)) ++ [.i .i64 ((K3 7 s).1 : Nat)] = qdp ((os ++ [(qdm s).1]).map (·.1)) := by simp [qdp, qdm]
  have e2 : qa7 (os.map (·.2)) ++ [.b (decide ((K3 1 (K3 7 s).2).1 = 1))] = qa7 ((os ++ [(qdm s).1]).map (·.2)) := by simp [qa7, qdm]
  simp only [e1, e2] at ho5
  refine ih (qdm s).2 (os ++ [(qdm s).1]) v2 w2 T3 (by omega) (by simp; omega) (q14 (qou s) hl) (by simpa using ho5) fun v w T1 m ho => h2 v w T1 m ?_
  simpa only [List.append_assoc, List.cons_append, List.nil_append] using ho
def qmr (s : RS) : Bool := !(rCf s).2.2 && (rCf s).1.right
def zfp : Cf := ⟨0, 0, [], [], 0⟩
def qlj (s : RS) : Cf := if qmr s = true then (rCf s).1 else zfp
theorem Wks.cf5 {a b c : AV} {n m : Nat} {x y : List AV} {k1 k2 : Option Nat} : Wks [a, b, .fz n x k1, .fz m y k2, c] [a, b, .fz n x none, .fz m y none, c] :=
 ⟨.refl _, .refl _, .fz, .fz, .refl _, trivial⟩
theorem z39 {T : Tab} {id : Nat} {s : RS} (h : T id = q69 s) (hl : Len s.1.length) : ACalls prog q8l [.ptr id 0] T (fun v T' => v = .tup [.agg ((qlj s).cells none none), .b (qmr s)] /\ T' = rT T id (rCf s).2) := by
 refine U7 U1 qs9 (by simp) ?_
 have l0 := q14 (O7 18446744073709551615 s) hl
 have l1 := q14 (O7 3 _) l0
 have l2 := q14 (O7 8 _) l1
 have l3 := q14 (q6p qou (K3 8 (K3 3 (K3 18446744073709551615 s).2).2).1 _) l2
 have b1 := q24 8 (K3 3 (K3 18446744073709551615 s).2).2
 have b2 := qdi (f := qdm) (K3 8 (K3 3 (K3 18446744073709551615 s).2).2).1 (K3 8 (K3 3 (K3 18446744073709551615 s).2).2).2
 unfold qkz
 simp -implicitDefEqProofs -dsimp only [go_sem, seval, ↓J0 _ _ q0s]
 refine can (z3v h hl) ?_
 simp -implicitDefEqProofs -dsimp only [go_sem, seval, ↓J0 _ _ N2]
 refine can (q45 q4i 3 (by decide) l0) ?_
 simp -implicitDefEqProofs -dsimp only [go_sem, seval, qd6, ↓J0 _ _ N2]
 refine can (q45 q4i 8 (by decide) l1) ?_
 simp -implicitDefEqProofs -dsimp only [go_sem, seval, qd6]
 refine z38 (B := T) (by repeat' (first | exact O6 _ _ | assumption | apply O5 | apply N4 | apply V8)) ⟨rfl, rfl, rfl⟩ _ _ [] _ _ _ b1 (by simp; omega) l2 ⟨_, ⟨_, rfl, .nil ..⟩, .nil ..⟩ (fun v w T1 m o1 => ?_)
 obtain ⟨p1, p2, p3, p4, p5, p6⟩ := o1.form (List.mem_cons_self ..)
 obtain ⟨q1, q2, q3, q4, q5, q6⟩ := o1.form (List.mem_cons_of_mem _ (List.mem_cons_self ..))
 simp only at p1 p2 p3 p4 p5 p6 q1 q2 q3 q4 q5 q6
 have how := o1.rd (rCf s).2
 simp only [List.nil_append] at how
 simp -implicitDefEqProofs -dsimp only [go_sem, seval, p1, p2, p3, p4, p5, p6, q1, q2, q3, q4, q5, q6, ↓J0 _ _ N2]
 refine can (q45 o1.rdAt 8 (by decide) l3) ?_
 have ecf : (rCf s).1 = ⟨(K3 18446744073709551615 s).1, (K3 3 (K3 18446744073709551615 s).2).1, (Y1 qdm (K3 8 (K3 3 (K3 18446744073709551615 s).2).2).1 (K3 8 (K3 3 (K3 18446744073709551615 s).2).2).2).1.map (·.1), (Y1 qdm (K3 8 (K3 3 (K3 18446744073709551615 s).2).2).1 (K3 8 (K3 3 (K3 18446744073709551615 s).2).2).2).1.map (·.2), if (K3 8 (Y1 qdm (K3 8 (K3 3 (K3 18446744073709551615 s).2).2).1 (K3 8 (K3 3 (K3 18446744073709551615 s).2).2).2).2).1 = 8 then -1 else ((K3 8 (Y1 qdm (K3 8 (K3 3 (K3 18446744073709551615 s).2).2).1 (K3 8 (K3 3 (K3 18446744073709551615 s).2).2).2).2).1 : Int)⟩ := rfl
 have ers : (rCf s).2 = (K3 8 (Y1 qdm (K3 8 (K3 3 (K3 18446744073709551615 s).2).2).1 (K3 8 (K3 3 (K3 18446744073709551615 s).2).2).2).2).2 := rfl
 rw [<- ers]
 generalize hms : (Y1 qdm (K3 8 (K3 3 (K3 18446744073709551615 s).2).2).1 (K3 8 (K3 3 (K3 18446744073709551615 s).2).2).2) = ms at *
 generalize hln : (K3 8 ms.2).1 = ln at *
 generalize hc : (rCf s).1 = cf at *
 have hlen : Len cf.ch.length := by rw [ecf]; unfold Len; simp; omega
 have errEnd : qmr s = false -> qn5 (.tup [.agg [.i .u64 0, .i .i64 0, .fz 0 [] (some 0), .fz 0 [] (some 0), .i .i64 0], .b false]) (fun v T' => v = .tup [.agg ((qlj s).cells none none), .b (qmr s)] /\ T' = rT T id (rCf s).2) (rT T1 id (rCf s).2) := by
  intro hb
  refine q33 how fun S hS => ?_
  simp only [qlj, hb, Bool.false_eq_true, if_false, qm5, q99, List.map_cons, List.map_nil, qbs, qch, qha]
  exact Wk.tup ⟨Wk.agg Wks.cf5, .refl _, trivial⟩
 have d8 : decide ((ln : Int) = 8) = decide (ln = 8) := decide_eq_decide.2 (by omega)
 rcases h8 : decide (ln = 8) with _ | _
 all_goals
  first
   | (have e8 : (if ln = 8 then (-1 : Int) else ln) = ln := if_neg (of_decide_eq_false h8); rw [e8] at ecf)
   | (have e8 : (if ln = 8 then (-1 : Int) else ln) = -1 := if_pos (of_decide_eq_true h8); rw [e8] at ecf)
  simp -implicitDefEqProofs -dsimp only [go_sem, seval, d8, h8, p1, p2, p3, p4, p5, p6, q1, q2, q3, q4, q5, q6, ↓J0 _ _ U4]
  refine can (qd7 q4i) ?_
  rcases hb : (rCf s).2.2 with _ | _
  ·simp -implicitDefEqProofs -dsimp only [go_sem, seval, hb, p1, p2, p3, p4, p5, p6, q1, q2, q3, q4, q5, q6, ↓Q2, I2, true_and, ↓J0 _ _ qd0]
   refine CallK.borrow (r := .b cf.right) how (fun S hS => ?_) .b (J1 ?_)
   ·obtain ⟨c1, e1⟩ := hS _ (List.mem_cons_self ..)
    obtain ⟨c2, e2⟩ := hS _ (List.mem_cons_of_mem _ (List.mem_cons_self ..))
    simp only at e1 e2
    have := qbn cf c1 c2 hlen
    simp only [Cf.cells] at this
    rw [ecf] at this ⊢
    simp only [List.length_map] at this
    simp only [List.map_cons, List.map_nil, q99, qbs, qch, e1, e2]
    exact this
   rcases hok : cf.right with _ | _
   ·simp -implicitDefEqProofs -dsimp only [go_sem, seval, hb, hok, zCf, p1, p2, p3, p4, p5, p6, q1, q2, q3, q4, q5, q6, ↓Q2, I2, true_and]
    exact errEnd (by simp [qmr, hb, hc, hok])
   ·simp -implicitDefEqProofs -dsimp only [go_sem, seval, hb, hok, zCf, p1, p2, p3, p4, p5, p6, q1, q2, q3, q4, q5, q6, ↓Q2, I2, true_and]
    have hk : qmr s = true := by simp [qmr, hb, hc, hok]
    refine q33 how fun S hS => ?_
    obtain ⟨c1, e1⟩ := hS _ (List.mem_cons_self ..)
    obtain ⟨c2, e2⟩ := hS _ (List.mem_cons_of_mem _ (List.mem_cons_self ..))
    simp only at e1 e2
    simp only [qlj, hk, if_true, qm5, q99, List.map_cons, List.map_nil, qbs, qch, e1, e2, hc, ecf, Cf.cells, List.length_map]
    exact Wk.tup ⟨Wk.agg Wks.cf5, .refl _, trivial⟩
  ·simp -implicitDefEqProofs -dsimp only [go_sem, seval, hb, zCf, p1, p2, p3, p4, p5, p6, q1, q2, q3, q4, q5, q6, ↓Q2, I2, true_and]
   exact errEnd (by simp [qmr, hb])
end Go.Aw
namespace Go.Aw
open Go
open Go.Proofs.Tryz (prog)
set_option linter.all false
set_option maxHeartbeats 8000000
set_option maxRecDepth 8000
def qjg (s : RS) : (Int × Int) × RS :=
 let a := K3 18446744073709551615 s
 let b := K3 5 a.2
 (if b.2.2 = true then (0, 0) else (a.1, if b.1 = 5 then -1 else b.1), b.2)
theorem qp2 (s : RS) : (qjg s).2.1.length <= s.1.length := Nat.le_trans (O7 _ _) (O7 _ _)
theorem qut {T : Tab} {id : Nat} {s : RS} (h : T id = q69 s) (hl : Len s.1.length) : ACalls prog q6r [.ptr id 0] T (fun v T' => v = .agg [.i .u64 (qjg s).1.1, .i .i64 (qjg s).1.2] /\ T' = rT T id (qjg s).2) := by
 refine U7 U1 qoh (by simp) ?_
 unfold qgc
 simp -implicitDefEqProofs -dsimp only [go_sem, seval, ↓J0 _ _ q0s]
 refine can (z3v h hl) ?_
 simp -implicitDefEqProofs -dsimp only [go_sem, seval, ↓J0 _ _ N2]
 refine can (q45 q4i 5 (by decide) (q14 (O7 _ _) hl)) ?_
 rw [qd6]
 have e1 : (qjg s).2 = (K3 5 (K3 18446744073709551615 s).2).2 := rfl
 have e2 : (qjg s).1 = if (K3 5 (K3 18446744073709551615 s).2).2.2 = true then (0, 0) else (((K3 18446744073709551615 s).1 : Int), if (K3 5 (K3 18446744073709551615 s).2).1 = 5 then -1 else ((K3 5 (K3 18446744073709551615 s).2).1 : Int)) := rfl
 rw [e1, e2]
 generalize K3 5 (K3 18446744073709551615 s).2 = b
 generalize (K3 18446744073709551615 s).1 = a
 simp -implicitDefEqProofs -dsimp only [go_sem, seval]
 apply K0 <;> intro h5
 ·have h5' : b.1 = 5 := by have := of_decide_eq_true h5; omega
  simp -implicitDefEqProofs -dsimp only [go_sem, seval, h5, ↓J0 _ _ U4]
  refine can (qd7 q4i) ?_
  rcases hb : b.2.2 with _ | _
  ·simp -implicitDefEqProofs -dsimp only [go_sem, seval]
   exact q82 (by simp only [h5', Bool.false_eq_true, if_false, if_true]; exact .refl _) rfl
  ·simp -implicitDefEqProofs -dsimp only [go_sem, seval]
   exact q82 (.refl _) rfl
 ·have h5' : ¬ b.1 = 5 := by have := of_decide_eq_false h5; omega
  simp -implicitDefEqProofs -dsimp only [go_sem, seval, h5, ↓J0 _ _ U4]
  refine can (qd7 q4i) ?_
  rcases hb : b.2.2 with _ | _
  ·simp -implicitDefEqProofs -dsimp only [go_sem, seval]
   exact q82 (by simp only [h5', Bool.false_eq_true, if_false, if_true]; exact .refl _) rfl
  ·simp -implicitDefEqProofs -dsimp only [go_sem, seval]
   exact q82 (.refl _) rfl
theorem quu {r : Nat} {n : Int} (hr : r < 18446744073709551616) (hn : qjk n = true) (rest : Bs) : qjg (enc r ++ enc n.toNat ++ rest, false) = (((r : Int), n), (rest, false)) := by
 simp only [qjk, Bool.and_eq_true, decide_eq_true_eq] at hn
 unfold qjg
 rw [List.append_assoc, Q9 (by omega) (by omega)]
 simp only
 rw [Q9 (by omega) (by omega)]
 simp only [Bool.false_eq_true, if_false]
 rw [if_neg (by omega), show ((n.toNat : Nat) : Int) = n by omega]
end Go.Aw
namespace Go.Aw
open Go
open Go.Proofs.Tryz (prog)
set_option linter.all false
set_option maxHeartbeats 8000000
set_option maxRecDepth 8000
def rVt (s : RS) : Vt × RS :=
 let a := K3 1048576 s
 let b := qjg a.2
 let t := q1q 64 b.2
 (⟨a.1, b.1.1, b.1.2, t.1⟩, t.2)
theorem z6i {v : Vt} (h : VtG v) (rest : Bs) : rVt (qzu v ++ rest, false) = (v, (rest, false)) := by
 obtain ⟨sl, rd, nd, t⟩ := v
 obtain ⟨q1, q2, q3, q4⟩ := h
 simp only at q1 q2 q3 q4
 have e : qzu ⟨sl, rd, nd, t⟩ ++ rest = enc sl.toNat ++ ((enc rd.toNat ++ enc nd.toNat) ++ (qd5 t ++ rest)) := by simp only [qzu, List.append_assoc]
 unfold rVt
 rw [e, Q9 (by omega) (by omega)]
 simp only
 rw [quu (by omega) q3]
 simp only [qd5]
 rw [qa8 (by omega) (by omega)]
 rw [show ((sl.toNat : Nat) : Int) = sl by omega, show ((rd.toNat : Nat) : Int) = rd by omega]
def rCo (s : RS) : Cf × RS := (qlj s, (rCf s).2)
theorem z6j {c : Cf} (h : CfG c) (rest : Bs) : rCo (z75 c ++ rest, false) = (c, (rest, false)) := by
 have e := z5w (Cf.ok_of h.1 h.2.1) rest
 unfold rCo qlj qmr
 rw [z75, e]
 simp only [h.1, Bool.not_false, Bool.and_self, if_true]
def rEy (s : RS) : En × RS := (q6l ((q1q 2048 s).1, false), (q1q 2048 s).2)
theorem z6k {e : En} (h : EnG e) (rest : Bs) : rEy (z32 e ++ rest, false) = (e, (rest, false)) := by
 have g := En.good_of h.1 h.2.2
 have l := qli g
 unfold rEy
 rw [z32, qd5, qa8 (by omega) (by omega)]
 simp only [(qzh g).2]
end Go.Aw
namespace Go.Aw
open Go
open Go.Proofs.Tryz (prog)
set_option linter.all false
set_option maxHeartbeats 8000000
set_option maxRecDepth 8000
def rLs {α : Type} (k : Nat) (f : RS -> α × RS) (s : RS) : List α × RS := Y1 f (K3 k s).1 (K3 k s).2
def rdS (l : Lt Cf) (c : Int) (s : RS) : Lt Cf × RS :=
 if c = 115 then ({ l with sh := (K3 3 s).1 }, (K3 3 s).2) else
 if c = 101 then ({ l with ep := (K3 18446744073709551615 s).1 }, (K3 18446744073709551615 s).2) else
 if c = 110 then ({ l with n := (K3 1048576 s).1 }, (K3 1048576 s).2) else
 if c = 109 then ({ l with m := (K3 1048576 s).1 }, (K3 1048576 s).2) else
 if c = 111 then ({ l with nd := (K3 7 s).1 }, (K3 7 s).2) else
 if c = 102 then ({ l with fl := decide ((K3 1 s).1 = 1) }, (K3 1 s).2) else
 if c = 98 then ({ l with br := (qjg s).1.1, bn := (qjg s).1.2 }, (qjg s).2) else
 if c = 118 then ({ l with vs := l.vs ++ (rLs 400 rVt s).1 }, (rLs 400 rVt s).2) else
 if c = 99 then ({ l with cs := l.cs ++ (rLs 4 rCo s).1 }, (rLs 4 rCo s).2) else
 if c = 108 then ({ l with es := l.es ++ (rLs 8 rEy s).1 }, (rLs 8 rEy s).2) else
 if c = 120 then ({ l with t := (q27 s).1 }, (rTx s).2) else
 if c = 105 then ({ l with cl := (rID s).1.1, sq := (rID s).1.2 }, (rID s).2) else
 if c = 116 then ({ l with v := (q1q 64 s).1 }, (q1q 64 s).2) else
 if c = 113 then ({ l with q := (K3 18446744073709551615 s).1 }, (K3 18446744073709551615 s).2) else
 if c = 114 then ({ l with co := (K3 99 s).1 }, (K3 99 s).2) else (l, s)
section
variable (l o : Lt Cf) (s : RS)
theorem qlk : rdS l 115 s = ({ l with sh := (K3 3 s).1 }, (K3 3 s).2) := by simp only [rdS, Int.reduceEq, if_true, if_false]
theorem qll : rdS l 101 s = ({ l with ep := (K3 18446744073709551615 s).1 }, (K3 18446744073709551615 s).2) := by simp only [rdS, Int.reduceEq, if_true, if_false]
theorem qlm : rdS l 110 s = ({ l with n := (K3 1048576 s).1 }, (K3 1048576 s).2) := by simp only [rdS, Int.reduceEq, if_true, if_false]
theorem qln : rdS l 109 s = ({ l with m := (K3 1048576 s).1 }, (K3 1048576 s).2) := by simp only [rdS, Int.reduceEq, if_true, if_false]
theorem qlo : rdS l 111 s = ({ l with nd := (K3 7 s).1 }, (K3 7 s).2) := by simp only [rdS, Int.reduceEq, if_true, if_false]
theorem qlp : rdS l 102 s = ({ l with fl := decide ((K3 1 s).1 = 1) }, (K3 1 s).2) := by simp only [rdS, Int.reduceEq, if_true, if_false]
theorem qr9 : rdS l 98 s = ({ l with br := (qjg s).1.1, bn := (qjg s).1.2 }, (qjg s).2) := by simp only [rdS, Int.reduceEq, if_true, if_false]
theorem qlq : rdS l 118 s = ({ l with vs := l.vs ++ (rLs 400 rVt s).1 }, (rLs 400 rVt s).2) := by simp only [rdS, Int.reduceEq, if_true, if_false]
theorem qra : rdS l 99 s = ({ l with cs := l.cs ++ (rLs 4 rCo s).1 }, (rLs 4 rCo s).2) := by simp only [rdS, Int.reduceEq, if_true, if_false]
theorem qlr : rdS l 108 s = ({ l with es := l.es ++ (rLs 8 rEy s).1 }, (rLs 8 rEy s).2) := by simp only [rdS, Int.reduceEq, if_true, if_false]
theorem qls : rdS l 120 s = ({ l with t := (q27 s).1 }, (rTx s).2) := by simp only [rdS, Int.reduceEq, if_true, if_false]
theorem qlt : rdS l 105 s = ({ l with cl := (rID s).1.1, sq := (rID s).1.2 }, (rID s).2) := by simp only [rdS, Int.reduceEq, if_true, if_false]
theorem qlu : rdS l 116 s = ({ l with v := (q1q 64 s).1 }, (q1q 64 s).2) := by simp only [rdS, Int.reduceEq, if_true, if_false]
theorem qlv : rdS l 113 s = ({ l with q := (K3 18446744073709551615 s).1 }, (K3 18446744073709551615 s).2) := by simp only [rdS, Int.reduceEq, if_true, if_false]
theorem qlw : rdS l 114 s = ({ l with co := (K3 99 s).1 }, (K3 99 s).2) := by simp only [rdS, Int.reduceEq, if_true, if_false]
theorem qti : wiF o l 115 = { o with sh := l.sh } := by simp only [wiF, Int.reduceEq, decide_true, decide_false, if_true, Bool.false_eq_true, if_false]
theorem qtj : wiF o l 101 = { o with ep := l.ep } := by simp only [wiF, Int.reduceEq, decide_true, decide_false, if_true, Bool.false_eq_true, if_false]
theorem qtk : wiF o l 110 = { o with n := l.n } := by simp only [wiF, Int.reduceEq, decide_true, decide_false, if_true, Bool.false_eq_true, if_false]
theorem qtl : wiF o l 109 = { o with m := l.m } := by simp only [wiF, Int.reduceEq, decide_true, decide_false, if_true, Bool.false_eq_true, if_false]
theorem qtm : wiF o l 111 = { o with nd := l.nd } := by simp only [wiF, Int.reduceEq, decide_true, decide_false, if_true, Bool.false_eq_true, if_false]
theorem qtn : wiF o l 102 = { o with fl := l.fl } := by simp only [wiF, Int.reduceEq, decide_true, decide_false, if_true, Bool.false_eq_true, if_false]
theorem z04 : wiF o l 98 = { o with br := l.br, bn := l.bn } := by simp only [wiF, Int.reduceEq, decide_true, decide_false, if_true, Bool.false_eq_true, if_false]
theorem qto : wiF o l 118 = { o with vs := l.vs } := by simp only [wiF, Int.reduceEq, decide_true, decide_false, if_true, Bool.false_eq_true, if_false]
theorem z05 : wiF o l 99 = { o with cs := l.cs } := by simp only [wiF, Int.reduceEq, decide_true, decide_false, if_true, Bool.false_eq_true, if_false]
theorem qtp : wiF o l 108 = { o with es := l.es } := by simp only [wiF, Int.reduceEq, decide_true, decide_false, if_true, Bool.false_eq_true, if_false]
theorem qtq : wiF o l 120 = { o with t := l.t } := by simp only [wiF, Int.reduceEq, decide_true, decide_false, if_true, Bool.false_eq_true, if_false]
theorem qtr : wiF o l 105 = { o with cl := l.cl, sq := l.sq } := by simp only [wiF, Int.reduceEq, decide_true, decide_false, if_true, Bool.false_eq_true, if_false]
theorem qts : wiF o l 116 = { o with v := l.v } := by simp only [wiF, Int.reduceEq, decide_true, decide_false, if_true, Bool.false_eq_true, if_false]
theorem qtt : wiF o l 113 = { o with q := l.q } := by simp only [wiF, Int.reduceEq, decide_true, decide_false, if_true, Bool.false_eq_true, if_false]
theorem qtu : wiF o l 114 = { o with co := l.co } := by simp only [wiF, Int.reduceEq, decide_true, decide_false, if_true, Bool.false_eq_true, if_false]
end
def Sg (s : Int) : Prop := s = 115 \/ s = 101 \/ s = 110 \/ s = 109 \/ s = 111 \/ s = 102 \/ s = 98 \/ s = 118 \/ s = 99 \/ s = 108 \/ s = 120 \/ s = 105 \/ s = 116 \/ s = 113 \/ s = 114
def z0v (o : Lt Cf) (c : Int) : Prop := (c = 118 -> o.vs = []) /\ (c = 99 -> o.cs = []) /\ (c = 108 -> o.es = [])
theorem qtv {α : Type} {f : RS -> α × RS} {g : α -> List UInt8} {ok : α -> Prop} (hf : ∀ x rest, ok x -> f (g x ++ rest, false) = (x, (rest, false))) {k : Nat} {l : List α} (hl : l.length <= k) (hk : k < 1000) (rest : List UInt8) (h : ∀ x ∈ l, ok x) :
  rLs k f (enc l.length ++ l.flatMap g ++ rest, false) = (l, (rest, false)) := by
 unfold rLs
 rw [List.append_assoc, Q9 hl (by omega)]
 exact qci hf l rest h
theorem nn {n : Int} (h : 0 <= n) : ((n.toNat : Nat) : Int) = n := Int.toNat_of_nonneg h
theorem z6l {o l : Lt Cf} {c : Int} (hc : Sg c) (hr : l.Rng) (hm : maF l c = true) (hb : z0v o c) (rest : Bs) : rdS o c (enS l c ++ rest, false) = (wiF o l c, (rest, false)) := by
 obtain ⟨b1, b2, b3⟩ := hb
 rcases hc with rfl | rfl | rfl | rfl | rfl | rfl | rfl | rfl | rfl | rfl | rfl | rfl | rfl | rfl | rfl
 ·have h : (decide (0 <= l.sh) && decide (l.sh < 4)) = true := hm
  simp only [Bool.and_eq_true, decide_eq_true_eq] at h
  rw [qlk, qt6, qti, Q9 (by omega) (by omega), nn h.1]
 ·have h := hr.ep
  rw [qll, qt7, qtj, Q9 (by omega) (by omega), nn h.1]
 ·have h : qm7 l.n = true := hm
  simp only [qm7, Bool.and_eq_true, decide_eq_true_eq] at h
  rw [qlm, qt8, qtk, Q9 (by omega) (by omega), nn h.1]
 ·have h : qm7 l.m = true := hm
  simp only [qm7, Bool.and_eq_true, decide_eq_true_eq] at h
  rw [qln, qt9, qtl, Q9 (by omega) (by omega), nn h.1]
 ·have h : (decide (0 <= l.nd) && decide (l.nd < 8)) = true := hm
  simp only [Bool.and_eq_true, decide_eq_true_eq] at h
  rw [qlo, qta, qtm, Q9 (by omega) (by omega), nn h.1]
 ·rw [qlp, qtb, qtn, Q9 (by split <;> omega) (by split <;> omega)]
  cases l.fl <;> rfl
 ·have h : qjk l.bn = true := hm
  have h2 := hr.br
  rw [qr9, qzv, z04, quu (by omega) h, nn h2.1]
 ·obtain ⟨h1, h2⟩ := qoz (l := l) hm hr
  rw [qlq, qzw, qto, qtv (fun x rest h => z6i h rest) h1 (by decide) rest h2, b1 rfl]
  rfl
 ·obtain ⟨h1, h2⟩ := qp0 (l := l) hm hr
  rw [qra, z41, z05, qtv (fun x rest h => z6j h rest) h1 (by decide) rest h2, b2 rfl]
  rfl
 ·obtain ⟨h1, h2⟩ := qp1 (l := l) hm hr
  rw [qlr, qzx, qtp, qtv (fun x rest h => z6k h rest) h1 (by decide) rest h2, b3 rfl]
  rfl
 ·have h : qsq l.t = true := hm
  have g := qdn h hr.tsq hr.tr
  rw [qls, qtc, qtq]
  unfold q27
  rw [qr1 g h, if_pos rfl, qsu g]
 ·have h : qm6 l.cl l.sq = true := hm
  simp only [qm6, Bool.and_eq_true, decide_eq_true_eq] at h
  have h2 := hr.sq
  rw [qlt, qtd, qtr]
  unfold rID
  rw [List.append_assoc, Q9 (by omega) (by omega)]
  simp only
  rw [Q9 (by omega) (by omega), nn h.1.1, nn (by omega)]
 ·have h : decide ((l.v.length : Int) <= 64) = true := hm
  have h := of_decide_eq_true h
  rw [qlu, qte, qts, qd5, qa8 (by omega) (by omega)]
 ·have h := hr.q
  rw [qlv, qtf, qtt, Q9 (by omega) (by omega), nn h.1]
 ·have h : (decide (0 <= l.co) && decide (l.co <= 99)) = true := hm
  simp only [Bool.and_eq_true, decide_eq_true_eq] at h
  rw [qlw, qtg, qtu, Q9 (by omega) (by omega), nn h.1]
theorem qtw {o x : Lt Cf} {c d : Int} (hd : Sg d) (h : c ≠ d) (hb : z0v o c) : z0v (wiF o x d) c := by
 obtain ⟨b1, b2, b3⟩ := hb
 rcases hd with rfl | rfl | rfl | rfl | rfl | rfl | rfl | rfl | rfl | rfl | rfl | rfl | rfl | rfl | rfl
 ·rw [qti]; exact ⟨b1, b2, b3⟩
 ·rw [qtj]; exact ⟨b1, b2, b3⟩
 ·rw [qtk]; exact ⟨b1, b2, b3⟩
 ·rw [qtl]; exact ⟨b1, b2, b3⟩
 ·rw [qtm]; exact ⟨b1, b2, b3⟩
 ·rw [qtn]; exact ⟨b1, b2, b3⟩
 ·rw [z04]; exact ⟨b1, b2, b3⟩
 ·rw [qto]; exact ⟨fun e => absurd e h, b2, b3⟩
 ·rw [z05]; exact ⟨b1, fun e => absurd e h, b3⟩
 ·rw [qtp]; exact ⟨b1, b2, fun e => absurd e h⟩
 ·rw [qtq]; exact ⟨b1, b2, b3⟩
 ·rw [qtr]; exact ⟨b1, b2, b3⟩
 ·rw [qts]; exact ⟨b1, b2, b3⟩
 ·rw [qtt]; exact ⟨b1, b2, b3⟩
 ·rw [qtu]; exact ⟨b1, b2, b3⟩
def Lt.hd (l : Lt Cf) : List Int := [l.fk, l.fn, l.tk, l.tn, l.k]
theorem z44 (o : Lt Cf) {c : Int} (hc : Sg c) (s : RS) : ∃ x, (rdS o c s).1 = wiF o x c := by
 refine ⟨(rdS o c s).1, ?_⟩
 rcases hc with rfl | rfl | rfl | rfl | rfl | rfl | rfl | rfl | rfl | rfl | rfl | rfl | rfl | rfl | rfl
 ·rw [qlk, qti]
 ·rw [qll, qtj]
 ·rw [qlm, qtk]
 ·rw [qln, qtl]
 ·rw [qlo, qtm]
 ·rw [qlp, qtn]
 ·rw [qr9, z04]
 ·rw [qlq, qto]
 ·rw [qra, z05]
 ·rw [qlr, qtp]
 ·rw [qls, qtq]
 ·rw [qlt, qtr]
 ·rw [qlu, qts]
 ·rw [qlv, qtt]
 ·rw [qlw, qtu]
end Go.Aw
