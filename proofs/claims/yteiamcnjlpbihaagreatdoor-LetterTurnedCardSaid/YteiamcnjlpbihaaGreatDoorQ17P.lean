import Derived.Test.YteiamcnjlpbihaaGreatDoorQ17B
namespace Go.Aw
open Go
open Go.Proofs.Tryz (prog)
set_option linter.all false
set_option maxHeartbeats 8000000
set_option maxRecDepth 8000
def rLs {α : Type} (k : Nat) (f : RS -> α × RS) (s : RS) : List α × RS := Z2 f (K4 k s).1 (K4 k s).2
def rdS (l : Lt Cf) (c : Int) (s : RS) : Lt Cf × RS :=
 if c = 115 then ({ l with sh := (K4 3 s).1 }, (K4 3 s).2) else
 if c = 101 then ({ l with ep := (K4 18446744073709551615 s).1 }, (K4 18446744073709551615 s).2) else
 if c = 110 then ({ l with n := (K4 1048576 s).1 }, (K4 1048576 s).2) else
 if c = 109 then ({ l with m := (K4 1048576 s).1 }, (K4 1048576 s).2) else
 if c = 111 then ({ l with nd := (K4 7 s).1 }, (K4 7 s).2) else
 if c = 102 then ({ l with fl := decide ((K4 1 s).1 = 1) }, (K4 1 s).2) else
 if c = 98 then ({ l with br := (qom s).1.1, bn := (qom s).1.2 }, (qom s).2) else
 if c = 118 then ({ l with vs := l.vs ++ (rLs 400 rVt s).1 }, (rLs 400 rVt s).2) else
 if c = 99 then ({ l with cs := l.cs ++ (rLs 4 rCo s).1 }, (rLs 4 rCo s).2) else
 if c = 108 then ({ l with es := l.es ++ (rLs 8 rEy s).1 }, (rLs 8 rEy s).2) else
 if c = 120 then ({ l with t := (q3y s).1 }, (rTx s).2) else
 if c = 105 then ({ l with cl := (rID s).1.1, sq := (rID s).1.2 }, (rID s).2) else
 if c = 116 then ({ l with v := (q2u 64 s).1 }, (q2u 64 s).2) else
 if c = 113 then ({ l with q := (K4 18446744073709551615 s).1 }, (K4 18446744073709551615 s).2) else
 if c = 114 then ({ l with co := (K4 99 s).1 }, (K4 99 s).2) else (l, s)
section
variable (l o : Lt Cf) (s : RS)
theorem qrn : rdS l 115 s = ({ l with sh := (K4 3 s).1 }, (K4 3 s).2) := by simp only [rdS, Int.reduceEq, if_true, if_false]
theorem qro : rdS l 101 s = ({ l with ep := (K4 18446744073709551615 s).1 }, (K4 18446744073709551615 s).2) := by simp only [rdS, Int.reduceEq, if_true, if_false]
theorem qrp : rdS l 110 s = ({ l with n := (K4 1048576 s).1 }, (K4 1048576 s).2) := by simp only [rdS, Int.reduceEq, if_true, if_false]
theorem qrq : rdS l 109 s = ({ l with m := (K4 1048576 s).1 }, (K4 1048576 s).2) := by simp only [rdS, Int.reduceEq, if_true, if_false]
theorem qrr : rdS l 111 s = ({ l with nd := (K4 7 s).1 }, (K4 7 s).2) := by simp only [rdS, Int.reduceEq, if_true, if_false]
theorem qrs : rdS l 102 s = ({ l with fl := decide ((K4 1 s).1 = 1) }, (K4 1 s).2) := by simp only [rdS, Int.reduceEq, if_true, if_false]
theorem qxg : rdS l 98 s = ({ l with br := (qom s).1.1, bn := (qom s).1.2 }, (qom s).2) := by simp only [rdS, Int.reduceEq, if_true, if_false]
theorem qrt : rdS l 118 s = ({ l with vs := l.vs ++ (rLs 400 rVt s).1 }, (rLs 400 rVt s).2) := by simp only [rdS, Int.reduceEq, if_true, if_false]
theorem qxh : rdS l 99 s = ({ l with cs := l.cs ++ (rLs 4 rCo s).1 }, (rLs 4 rCo s).2) := by simp only [rdS, Int.reduceEq, if_true, if_false]
theorem qru : rdS l 108 s = ({ l with es := l.es ++ (rLs 8 rEy s).1 }, (rLs 8 rEy s).2) := by simp only [rdS, Int.reduceEq, if_true, if_false]
theorem qrv : rdS l 120 s = ({ l with t := (q3y s).1 }, (rTx s).2) := by simp only [rdS, Int.reduceEq, if_true, if_false]
theorem qrw : rdS l 105 s = ({ l with cl := (rID s).1.1, sq := (rID s).1.2 }, (rID s).2) := by simp only [rdS, Int.reduceEq, if_true, if_false]
theorem qrx : rdS l 116 s = ({ l with v := (q2u 64 s).1 }, (q2u 64 s).2) := by simp only [rdS, Int.reduceEq, if_true, if_false]
theorem qry : rdS l 113 s = ({ l with q := (K4 18446744073709551615 s).1 }, (K4 18446744073709551615 s).2) := by simp only [rdS, Int.reduceEq, if_true, if_false]
theorem qrz : rdS l 114 s = ({ l with co := (K4 99 s).1 }, (K4 99 s).2) := by simp only [rdS, Int.reduceEq, if_true, if_false]
theorem z2w : wiF o l 115 = { o with sh := l.sh } := by simp only [wiF, Int.reduceEq, decide_true, decide_false, if_true, Bool.false_eq_true, if_false]
theorem z2x : wiF o l 101 = { o with ep := l.ep } := by simp only [wiF, Int.reduceEq, decide_true, decide_false, if_true, Bool.false_eq_true, if_false]
theorem z2y : wiF o l 110 = { o with n := l.n } := by simp only [wiF, Int.reduceEq, decide_true, decide_false, if_true, Bool.false_eq_true, if_false]
theorem z2z : wiF o l 109 = { o with m := l.m } := by simp only [wiF, Int.reduceEq, decide_true, decide_false, if_true, Bool.false_eq_true, if_false]
theorem z30 : wiF o l 111 = { o with nd := l.nd } := by simp only [wiF, Int.reduceEq, decide_true, decide_false, if_true, Bool.false_eq_true, if_false]
theorem z32 : wiF o l 102 = { o with fl := l.fl } := by simp only [wiF, Int.reduceEq, decide_true, decide_false, if_true, Bool.false_eq_true, if_false]
theorem z6n : wiF o l 98 = { o with br := l.br, bn := l.bn } := by simp only [wiF, Int.reduceEq, decide_true, decide_false, if_true, Bool.false_eq_true, if_false]
theorem z33 : wiF o l 118 = { o with vs := l.vs } := by simp only [wiF, Int.reduceEq, decide_true, decide_false, if_true, Bool.false_eq_true, if_false]
theorem z6o : wiF o l 99 = { o with cs := l.cs } := by simp only [wiF, Int.reduceEq, decide_true, decide_false, if_true, Bool.false_eq_true, if_false]
theorem z34 : wiF o l 108 = { o with es := l.es } := by simp only [wiF, Int.reduceEq, decide_true, decide_false, if_true, Bool.false_eq_true, if_false]
theorem z35 : wiF o l 120 = { o with t := l.t } := by simp only [wiF, Int.reduceEq, decide_true, decide_false, if_true, Bool.false_eq_true, if_false]
theorem z36 : wiF o l 105 = { o with cl := l.cl, sq := l.sq } := by simp only [wiF, Int.reduceEq, decide_true, decide_false, if_true, Bool.false_eq_true, if_false]
theorem z37 : wiF o l 116 = { o with v := l.v } := by simp only [wiF, Int.reduceEq, decide_true, decide_false, if_true, Bool.false_eq_true, if_false]
theorem z38 : wiF o l 113 = { o with q := l.q } := by simp only [wiF, Int.reduceEq, decide_true, decide_false, if_true, Bool.false_eq_true, if_false]
theorem z39 : wiF o l 114 = { o with co := l.co } := by simp only [wiF, Int.reduceEq, decide_true, decide_false, if_true, Bool.false_eq_true, if_false]
end
def Sg (s : Int) : Prop := s = 115 \/ s = 101 \/ s = 110 \/ s = 109 \/ s = 111 \/ s = 102 \/ s = 98 \/ s = 118 \/ s = 99 \/ s = 108 \/ s = 120 \/ s = 105 \/ s = 116 \/ s = 113 \/ s = 114
def z6p (o : Lt Cf) (c : Int) : Prop := (c = 118 -> o.vs = []) /\ (c = 99 -> o.cs = []) /\ (c = 108 -> o.es = [])
theorem nn {n : Int} (h : 0 <= n) : ((n.toNat : Nat) : Int) = n := Int.toNat_of_nonneg h
theorem z3a {o x : Lt Cf} {c d : Int} (hd : Sg d) (h : c ≠ d) (hb : z6p o c) : z6p (wiF o x d) c := by
 obtain ⟨b1, b2, b3⟩ := hb
 rcases hd with rfl | rfl | rfl | rfl | rfl | rfl | rfl | rfl | rfl | rfl | rfl | rfl | rfl | rfl | rfl
 ·rw [z2w]; exact ⟨b1, b2, b3⟩
 ·rw [z2x]; exact ⟨b1, b2, b3⟩
 ·rw [z2y]; exact ⟨b1, b2, b3⟩
 ·rw [z2z]; exact ⟨b1, b2, b3⟩
 ·rw [z30]; exact ⟨b1, b2, b3⟩
 ·rw [z32]; exact ⟨b1, b2, b3⟩
 ·rw [z6n]; exact ⟨b1, b2, b3⟩
 ·rw [z33]; exact ⟨fun e => absurd e h, b2, b3⟩
 ·rw [z6o]; exact ⟨b1, fun e => absurd e h, b3⟩
 ·rw [z34]; exact ⟨b1, b2, fun e => absurd e h⟩
 ·rw [z35]; exact ⟨b1, b2, b3⟩
 ·rw [z36]; exact ⟨b1, b2, b3⟩
 ·rw [z37]; exact ⟨b1, b2, b3⟩
 ·rw [z38]; exact ⟨b1, b2, b3⟩
 ·rw [z39]; exact ⟨b1, b2, b3⟩
def Lt.hd (l : Lt Cf) : List Int := [l.fk, l.fn, l.tk, l.tn, l.k]
theorem z6q (o : Lt Cf) {c : Int} (hc : Sg c) (s : RS) : ∃ x, (rdS o c s).1 = wiF o x c := by
 refine ⟨(rdS o c s).1, ?_⟩
 rcases hc with rfl | rfl | rfl | rfl | rfl | rfl | rfl | rfl | rfl | rfl | rfl | rfl | rfl | rfl | rfl
 ·rw [qrn, z2w]
 ·rw [qro, z2x]
 ·rw [qrp, z2y]
 ·rw [qrq, z2z]
 ·rw [qrr, z30]
 ·rw [qrs, z32]
 ·rw [qxg, z6n]
 ·rw [qrt, z33]
 ·rw [qxh, z6o]
 ·rw [qru, z34]
 ·rw [qrv, z35]
 ·rw [qrw, z36]
 ·rw [qrx, z37]
 ·rw [qry, z38]
 ·rw [qrz, z39]
end Go.Aw
