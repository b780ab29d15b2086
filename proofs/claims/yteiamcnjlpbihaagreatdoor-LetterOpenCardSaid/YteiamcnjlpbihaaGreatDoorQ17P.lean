import Derived.Test.YteiamcnjlpbihaaGreatDoorQ17B
namespace Go.Aw
open Go
open Go.Proofs.Tryz (prog)
set_option linter.all false
set_option maxHeartbeats 8000000
set_option maxRecDepth 8000
def rLs {α : Type} (k : Nat) (f : RS -> α × RS) (s : RS) : List α × RS := Y5 f (K2 k s).1 (K2 k s).2
def rdS (l : Lt Cf) (c : Int) (s : RS) : Lt Cf × RS :=
 if c = 115 then ({ l with sh := (K2 3 s).1 }, (K2 3 s).2) else
 if c = 101 then ({ l with ep := (K2 18446744073709551615 s).1 }, (K2 18446744073709551615 s).2) else
 if c = 110 then ({ l with n := (K2 1048576 s).1 }, (K2 1048576 s).2) else
 if c = 109 then ({ l with m := (K2 1048576 s).1 }, (K2 1048576 s).2) else
 if c = 111 then ({ l with nd := (K2 7 s).1 }, (K2 7 s).2) else
 if c = 102 then ({ l with fl := decide ((K2 1 s).1 = 1) }, (K2 1 s).2) else
 if c = 98 then ({ l with br := (qm6 s).1.1, bn := (qm6 s).1.2 }, (qm6 s).2) else
 if c = 118 then ({ l with vs := l.vs ++ (rLs 400 rVt s).1 }, (rLs 400 rVt s).2) else
 if c = 99 then ({ l with cs := l.cs ++ (rLs 4 rCo s).1 }, (rLs 4 rCo s).2) else
 if c = 108 then ({ l with es := l.es ++ (rLs 8 rEy s).1 }, (rLs 8 rEy s).2) else
 if c = 120 then ({ l with t := (q3e s).1 }, (rTx s).2) else
 if c = 105 then ({ l with cl := (rID s).1.1, sq := (rID s).1.2 }, (rID s).2) else
 if c = 116 then ({ l with v := (q2f 64 s).1 }, (q2f 64 s).2) else
 if c = 113 then ({ l with q := (K2 18446744073709551615 s).1 }, (K2 18446744073709551615 s).2) else
 if c = 114 then ({ l with co := (K2 99 s).1 }, (K2 99 s).2) else (l, s)
section
variable (l o : Lt Cf) (s : RS)
theorem qsg : rdS l 115 s = ({ l with sh := (K2 3 s).1 }, (K2 3 s).2) := by simp only [rdS, Int.reduceEq, if_true, if_false]
theorem qsh : rdS l 101 s = ({ l with ep := (K2 18446744073709551615 s).1 }, (K2 18446744073709551615 s).2) := by simp only [rdS, Int.reduceEq, if_true, if_false]
theorem qsi : rdS l 110 s = ({ l with n := (K2 1048576 s).1 }, (K2 1048576 s).2) := by simp only [rdS, Int.reduceEq, if_true, if_false]
theorem qsj : rdS l 109 s = ({ l with m := (K2 1048576 s).1 }, (K2 1048576 s).2) := by simp only [rdS, Int.reduceEq, if_true, if_false]
theorem qsk : rdS l 111 s = ({ l with nd := (K2 7 s).1 }, (K2 7 s).2) := by simp only [rdS, Int.reduceEq, if_true, if_false]
theorem qsl : rdS l 102 s = ({ l with fl := decide ((K2 1 s).1 = 1) }, (K2 1 s).2) := by simp only [rdS, Int.reduceEq, if_true, if_false]
theorem qyt : rdS l 98 s = ({ l with br := (qm6 s).1.1, bn := (qm6 s).1.2 }, (qm6 s).2) := by simp only [rdS, Int.reduceEq, if_true, if_false]
theorem qsm : rdS l 118 s = ({ l with vs := l.vs ++ (rLs 400 rVt s).1 }, (rLs 400 rVt s).2) := by simp only [rdS, Int.reduceEq, if_true, if_false]
theorem qyu : rdS l 99 s = ({ l with cs := l.cs ++ (rLs 4 rCo s).1 }, (rLs 4 rCo s).2) := by simp only [rdS, Int.reduceEq, if_true, if_false]
theorem qsn : rdS l 108 s = ({ l with es := l.es ++ (rLs 8 rEy s).1 }, (rLs 8 rEy s).2) := by simp only [rdS, Int.reduceEq, if_true, if_false]
theorem qso : rdS l 120 s = ({ l with t := (q3e s).1 }, (rTx s).2) := by simp only [rdS, Int.reduceEq, if_true, if_false]
theorem qsp : rdS l 105 s = ({ l with cl := (rID s).1.1, sq := (rID s).1.2 }, (rID s).2) := by simp only [rdS, Int.reduceEq, if_true, if_false]
theorem qsq : rdS l 116 s = ({ l with v := (q2f 64 s).1 }, (q2f 64 s).2) := by simp only [rdS, Int.reduceEq, if_true, if_false]
theorem qsr : rdS l 113 s = ({ l with q := (K2 18446744073709551615 s).1 }, (K2 18446744073709551615 s).2) := by simp only [rdS, Int.reduceEq, if_true, if_false]
theorem qss : rdS l 114 s = ({ l with co := (K2 99 s).1 }, (K2 99 s).2) := by simp only [rdS, Int.reduceEq, if_true, if_false]
theorem qst : wiF o l 115 = { o with sh := l.sh } := by simp only [wiF, Int.reduceEq, decide_true, decide_false, if_true, Bool.false_eq_true, if_false]
theorem qsu : wiF o l 101 = { o with ep := l.ep } := by simp only [wiF, Int.reduceEq, decide_true, decide_false, if_true, Bool.false_eq_true, if_false]
theorem qsv : wiF o l 110 = { o with n := l.n } := by simp only [wiF, Int.reduceEq, decide_true, decide_false, if_true, Bool.false_eq_true, if_false]
theorem qsw : wiF o l 109 = { o with m := l.m } := by simp only [wiF, Int.reduceEq, decide_true, decide_false, if_true, Bool.false_eq_true, if_false]
theorem qsx : wiF o l 111 = { o with nd := l.nd } := by simp only [wiF, Int.reduceEq, decide_true, decide_false, if_true, Bool.false_eq_true, if_false]
theorem qsy : wiF o l 102 = { o with fl := l.fl } := by simp only [wiF, Int.reduceEq, decide_true, decide_false, if_true, Bool.false_eq_true, if_false]
theorem qyv : wiF o l 98 = { o with br := l.br, bn := l.bn } := by simp only [wiF, Int.reduceEq, decide_true, decide_false, if_true, Bool.false_eq_true, if_false]
theorem qsz : wiF o l 118 = { o with vs := l.vs } := by simp only [wiF, Int.reduceEq, decide_true, decide_false, if_true, Bool.false_eq_true, if_false]
theorem qyw : wiF o l 99 = { o with cs := l.cs } := by simp only [wiF, Int.reduceEq, decide_true, decide_false, if_true, Bool.false_eq_true, if_false]
theorem qt0 : wiF o l 108 = { o with es := l.es } := by simp only [wiF, Int.reduceEq, decide_true, decide_false, if_true, Bool.false_eq_true, if_false]
theorem qt1 : wiF o l 120 = { o with t := l.t } := by simp only [wiF, Int.reduceEq, decide_true, decide_false, if_true, Bool.false_eq_true, if_false]
theorem qt2 : wiF o l 105 = { o with cl := l.cl, sq := l.sq } := by simp only [wiF, Int.reduceEq, decide_true, decide_false, if_true, Bool.false_eq_true, if_false]
theorem qt3 : wiF o l 116 = { o with v := l.v } := by simp only [wiF, Int.reduceEq, decide_true, decide_false, if_true, Bool.false_eq_true, if_false]
theorem qt4 : wiF o l 113 = { o with q := l.q } := by simp only [wiF, Int.reduceEq, decide_true, decide_false, if_true, Bool.false_eq_true, if_false]
theorem qt5 : wiF o l 114 = { o with co := l.co } := by simp only [wiF, Int.reduceEq, decide_true, decide_false, if_true, Bool.false_eq_true, if_false]
end
def Sg (s : Int) : Prop := s = 115 \/ s = 101 \/ s = 110 \/ s = 109 \/ s = 111 \/ s = 102 \/ s = 98 \/ s = 118 \/ s = 99 \/ s = 108 \/ s = 120 \/ s = 105 \/ s = 116 \/ s = 113 \/ s = 114
def z7f (o : Lt Cf) (c : Int) : Prop := (c = 118 -> o.vs = []) /\ (c = 99 -> o.cs = []) /\ (c = 108 -> o.es = [])
theorem nn {n : Int} (h : 0 <= n) : ((n.toNat : Nat) : Int) = n := Int.toNat_of_nonneg h
theorem zld {o x : Lt Cf} {c d : Int} (hd : Sg d) (h : c ≠ d) : enS (wiF o x d) c = enS o c := by
 rcases hd with rfl | rfl | rfl | rfl | rfl | rfl | rfl | rfl | rfl | rfl | rfl | rfl | rfl | rfl | rfl
 ·rw [qst]; simp only [enS, if_neg h]
 ·rw [qsu]; simp only [enS, if_neg h]
 ·rw [qsv]; simp only [enS, if_neg h]
 ·rw [qsw]; simp only [enS, if_neg h]
 ·rw [qsx]; simp only [enS, if_neg h]
 ·rw [qsy]; simp only [enS, if_neg h]
 ·rw [qyv]; simp only [enS, if_neg h]
 ·rw [qsz]; simp only [enS, if_neg h]
 ·rw [qyw]; simp only [enS, if_neg h]
 ·rw [qt0]; simp only [enS, if_neg h]
 ·rw [qt1]; simp only [enS, if_neg h]
 ·rw [qt2]; simp only [enS, if_neg h]
 ·rw [qt3]; simp only [enS, if_neg h]
 ·rw [qt4]; simp only [enS, if_neg h]
 ·rw [qt5]; simp only [enS, if_neg h]
theorem zle {o x : Lt Cf} {c d : Int} (hd : Sg d) (h : c ≠ d) : maF (wiF o x d) c = maF o c := by
 have h' : decide (c = d) = false := decide_eq_false h
 rcases hd with rfl | rfl | rfl | rfl | rfl | rfl | rfl | rfl | rfl | rfl | rfl | rfl | rfl | rfl | rfl
 ·rw [qst]; simp only [maF, liF, h', Bool.false_eq_true, if_false]
 ·rw [qsu]; simp only [maF, liF, h', Bool.false_eq_true, if_false]
 ·rw [qsv]; simp only [maF, liF, h', Bool.false_eq_true, if_false]
 ·rw [qsw]; simp only [maF, liF, h', Bool.false_eq_true, if_false]
 ·rw [qsx]; simp only [maF, liF, h', Bool.false_eq_true, if_false]
 ·rw [qsy]; simp only [maF, liF, h', Bool.false_eq_true, if_false]
 ·rw [qyv]; simp only [maF, liF, h', Bool.false_eq_true, if_false]
 ·rw [qsz]; simp only [maF, liF, h', Bool.false_eq_true, if_false]
 ·rw [qyw]; simp only [maF, liF, h', Bool.false_eq_true, if_false]
 ·rw [qt0]; simp only [maF, liF, h', Bool.false_eq_true, if_false]
 ·rw [qt1]; simp only [maF, liF, h', Bool.false_eq_true, if_false]
 ·rw [qt2]; simp only [maF, liF, h', Bool.false_eq_true, if_false]
 ·rw [qt3]; simp only [maF, liF, h', Bool.false_eq_true, if_false]
 ·rw [qt4]; simp only [maF, liF, h', Bool.false_eq_true, if_false]
 ·rw [qt5]; simp only [maF, liF, h', Bool.false_eq_true, if_false]
theorem z18 {o x : Lt Cf} {c d : Int} (hd : Sg d) (h : c ≠ d) (hb : z7f o c) : z7f (wiF o x d) c := by
 obtain ⟨b1, b2, b3⟩ := hb
 rcases hd with rfl | rfl | rfl | rfl | rfl | rfl | rfl | rfl | rfl | rfl | rfl | rfl | rfl | rfl | rfl
 ·rw [qst]; exact ⟨b1, b2, b3⟩
 ·rw [qsu]; exact ⟨b1, b2, b3⟩
 ·rw [qsv]; exact ⟨b1, b2, b3⟩
 ·rw [qsw]; exact ⟨b1, b2, b3⟩
 ·rw [qsx]; exact ⟨b1, b2, b3⟩
 ·rw [qsy]; exact ⟨b1, b2, b3⟩
 ·rw [qyv]; exact ⟨b1, b2, b3⟩
 ·rw [qsz]; exact ⟨fun e => absurd e h, b2, b3⟩
 ·rw [qyw]; exact ⟨b1, fun e => absurd e h, b3⟩
 ·rw [qt0]; exact ⟨b1, b2, fun e => absurd e h⟩
 ·rw [qt1]; exact ⟨b1, b2, b3⟩
 ·rw [qt2]; exact ⟨b1, b2, b3⟩
 ·rw [qt3]; exact ⟨b1, b2, b3⟩
 ·rw [qt4]; exact ⟨b1, b2, b3⟩
 ·rw [qt5]; exact ⟨b1, b2, b3⟩
def Lt.hd (l : Lt Cf) : List Int := [l.fk, l.fn, l.tk, l.tn, l.k]
theorem zlf {o x : Lt Cf} {d : Int} (hd : Sg d) : (wiF o x d).hd = o.hd := by
 rcases hd with rfl | rfl | rfl | rfl | rfl | rfl | rfl | rfl | rfl | rfl | rfl | rfl | rfl | rfl | rfl
 ·rw [qst]; rfl
 ·rw [qsu]; rfl
 ·rw [qsv]; rfl
 ·rw [qsw]; rfl
 ·rw [qsx]; rfl
 ·rw [qsy]; rfl
 ·rw [qyv]; rfl
 ·rw [qsz]; rfl
 ·rw [qyw]; rfl
 ·rw [qt0]; rfl
 ·rw [qt1]; rfl
 ·rw [qt2]; rfl
 ·rw [qt3]; rfl
 ·rw [qt4]; rfl
 ·rw [qt5]; rfl
theorem qyx (o : Lt Cf) {c : Int} (hc : Sg c) (s : RS) : ∃ x, (rdS o c s).1 = wiF o x c := by
 refine ⟨(rdS o c s).1, ?_⟩
 rcases hc with rfl | rfl | rfl | rfl | rfl | rfl | rfl | rfl | rfl | rfl | rfl | rfl | rfl | rfl | rfl
 ·rw [qsg, qst]
 ·rw [qsh, qsu]
 ·rw [qsi, qsv]
 ·rw [qsj, qsw]
 ·rw [qsk, qsx]
 ·rw [qsl, qsy]
 ·rw [qyt, qyv]
 ·rw [qsm, qsz]
 ·rw [qyu, qyw]
 ·rw [qsn, qt0]
 ·rw [qso, qt1]
 ·rw [qsp, qt2]
 ·rw [qsq, qt3]
 ·rw [qsr, qt4]
 ·rw [qss, qt5]
end Go.Aw
