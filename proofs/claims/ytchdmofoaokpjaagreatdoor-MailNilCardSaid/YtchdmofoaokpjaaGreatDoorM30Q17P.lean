import Derived.Test.YtchdmofoaokpjaaGreatDoorM30Q17B
namespace Go.Aw
open Go
open Go.Proofs.Tryz (prog)
set_option linter.all false
set_option maxHeartbeats 8000000
set_option maxRecDepth 8000
def rLs {α : Type} (k : Nat) (f : RS -> α × RS) (s : RS) : List α × RS := V9 f (K3 k s).1 (K3 k s).2
def rdS (l : Lt Cf) (c : Int) (s : RS) : Lt Cf × RS :=
 if c = 115 then ({ l with sh := (K3 3 s).1 }, (K3 3 s).2) else
 if c = 101 then ({ l with ep := (K3 18446744073709551615 s).1 }, (K3 18446744073709551615 s).2) else
 if c = 110 then ({ l with n := (K3 1048576 s).1 }, (K3 1048576 s).2) else
 if c = 109 then ({ l with m := (K3 1048576 s).1 }, (K3 1048576 s).2) else
 if c = 111 then ({ l with nd := (K3 7 s).1 }, (K3 7 s).2) else
 if c = 102 then ({ l with fl := decide ((K3 1 s).1 = 1) }, (K3 1 s).2) else
 if c = 98 then ({ l with br := (qje s).1.1, bn := (qje s).1.2 }, (qje s).2) else
 if c = 118 then ({ l with vs := l.vs ++ (rLs 400 rVt s).1 }, (rLs 400 rVt s).2) else
 if c = 99 then ({ l with cs := l.cs ++ (rLs 4 rCo s).1 }, (rLs 4 rCo s).2) else
 if c = 108 then ({ l with es := l.es ++ (rLs 8 rEy s).1 }, (rLs 8 rEy s).2) else
 if c = 120 then ({ l with t := (q23 s).1 }, (rTx s).2) else
 if c = 105 then ({ l with cl := (rID s).1.1, sq := (rID s).1.2 }, (rID s).2) else
 if c = 116 then ({ l with v := (q1o 64 s).1 }, (q1o 64 s).2) else
 if c = 113 then ({ l with q := (K3 18446744073709551615 s).1 }, (K3 18446744073709551615 s).2) else
 if c = 114 then ({ l with co := (K3 99 s).1 }, (K3 99 s).2) else (l, s)
section
variable (l o : Lt Cf) (s : RS)
theorem qle : rdS l 115 s = ({ l with sh := (K3 3 s).1 }, (K3 3 s).2) := by simp only [rdS, Int.reduceEq, if_true, if_false]
theorem qlf : rdS l 101 s = ({ l with ep := (K3 18446744073709551615 s).1 }, (K3 18446744073709551615 s).2) := by simp only [rdS, Int.reduceEq, if_true, if_false]
theorem qlg : rdS l 110 s = ({ l with n := (K3 1048576 s).1 }, (K3 1048576 s).2) := by simp only [rdS, Int.reduceEq, if_true, if_false]
theorem qlh : rdS l 109 s = ({ l with m := (K3 1048576 s).1 }, (K3 1048576 s).2) := by simp only [rdS, Int.reduceEq, if_true, if_false]
theorem qli : rdS l 111 s = ({ l with nd := (K3 7 s).1 }, (K3 7 s).2) := by simp only [rdS, Int.reduceEq, if_true, if_false]
theorem qlj : rdS l 102 s = ({ l with fl := decide ((K3 1 s).1 = 1) }, (K3 1 s).2) := by simp only [rdS, Int.reduceEq, if_true, if_false]
theorem qr6 : rdS l 98 s = ({ l with br := (qje s).1.1, bn := (qje s).1.2 }, (qje s).2) := by simp only [rdS, Int.reduceEq, if_true, if_false]
theorem qlk : rdS l 118 s = ({ l with vs := l.vs ++ (rLs 400 rVt s).1 }, (rLs 400 rVt s).2) := by simp only [rdS, Int.reduceEq, if_true, if_false]
theorem qr7 : rdS l 99 s = ({ l with cs := l.cs ++ (rLs 4 rCo s).1 }, (rLs 4 rCo s).2) := by simp only [rdS, Int.reduceEq, if_true, if_false]
theorem qll : rdS l 108 s = ({ l with es := l.es ++ (rLs 8 rEy s).1 }, (rLs 8 rEy s).2) := by simp only [rdS, Int.reduceEq, if_true, if_false]
theorem qlm : rdS l 120 s = ({ l with t := (q23 s).1 }, (rTx s).2) := by simp only [rdS, Int.reduceEq, if_true, if_false]
theorem qln : rdS l 105 s = ({ l with cl := (rID s).1.1, sq := (rID s).1.2 }, (rID s).2) := by simp only [rdS, Int.reduceEq, if_true, if_false]
theorem qlo : rdS l 116 s = ({ l with v := (q1o 64 s).1 }, (q1o 64 s).2) := by simp only [rdS, Int.reduceEq, if_true, if_false]
theorem qlp : rdS l 113 s = ({ l with q := (K3 18446744073709551615 s).1 }, (K3 18446744073709551615 s).2) := by simp only [rdS, Int.reduceEq, if_true, if_false]
theorem qlq : rdS l 114 s = ({ l with co := (K3 99 s).1 }, (K3 99 s).2) := by simp only [rdS, Int.reduceEq, if_true, if_false]
theorem qte : wiF o l 115 = { o with sh := l.sh } := by simp only [wiF, Int.reduceEq, decide_true, decide_false, if_true, Bool.false_eq_true, if_false]
theorem qtf : wiF o l 101 = { o with ep := l.ep } := by simp only [wiF, Int.reduceEq, decide_true, decide_false, if_true, Bool.false_eq_true, if_false]
theorem qtg : wiF o l 110 = { o with n := l.n } := by simp only [wiF, Int.reduceEq, decide_true, decide_false, if_true, Bool.false_eq_true, if_false]
theorem qth : wiF o l 109 = { o with m := l.m } := by simp only [wiF, Int.reduceEq, decide_true, decide_false, if_true, Bool.false_eq_true, if_false]
theorem qti : wiF o l 111 = { o with nd := l.nd } := by simp only [wiF, Int.reduceEq, decide_true, decide_false, if_true, Bool.false_eq_true, if_false]
theorem qtj : wiF o l 102 = { o with fl := l.fl } := by simp only [wiF, Int.reduceEq, decide_true, decide_false, if_true, Bool.false_eq_true, if_false]
theorem qzw : wiF o l 98 = { o with br := l.br, bn := l.bn } := by simp only [wiF, Int.reduceEq, decide_true, decide_false, if_true, Bool.false_eq_true, if_false]
theorem qtk : wiF o l 118 = { o with vs := l.vs } := by simp only [wiF, Int.reduceEq, decide_true, decide_false, if_true, Bool.false_eq_true, if_false]
theorem qzx : wiF o l 99 = { o with cs := l.cs } := by simp only [wiF, Int.reduceEq, decide_true, decide_false, if_true, Bool.false_eq_true, if_false]
theorem qtl : wiF o l 108 = { o with es := l.es } := by simp only [wiF, Int.reduceEq, decide_true, decide_false, if_true, Bool.false_eq_true, if_false]
theorem qtm : wiF o l 120 = { o with t := l.t } := by simp only [wiF, Int.reduceEq, decide_true, decide_false, if_true, Bool.false_eq_true, if_false]
theorem qtn : wiF o l 105 = { o with cl := l.cl, sq := l.sq } := by simp only [wiF, Int.reduceEq, decide_true, decide_false, if_true, Bool.false_eq_true, if_false]
theorem qto : wiF o l 116 = { o with v := l.v } := by simp only [wiF, Int.reduceEq, decide_true, decide_false, if_true, Bool.false_eq_true, if_false]
theorem qtp : wiF o l 113 = { o with q := l.q } := by simp only [wiF, Int.reduceEq, decide_true, decide_false, if_true, Bool.false_eq_true, if_false]
theorem qtq : wiF o l 114 = { o with co := l.co } := by simp only [wiF, Int.reduceEq, decide_true, decide_false, if_true, Bool.false_eq_true, if_false]
end
def Sg (s : Int) : Prop := s = 115 \/ s = 101 \/ s = 110 \/ s = 109 \/ s = 111 \/ s = 102 \/ s = 98 \/ s = 118 \/ s = 99 \/ s = 108 \/ s = 120 \/ s = 105 \/ s = 116 \/ s = 113 \/ s = 114
def z0h (o : Lt Cf) (c : Int) : Prop := (c = 118 -> o.vs = []) /\ (c = 99 -> o.cs = []) /\ (c = 108 -> o.es = [])
theorem qtr {α : Type} {f : RS -> α × RS} {g : α -> List UInt8} {ok : α -> Prop} (hf : ∀ x rest, ok x -> f (g x ++ rest, false) = (x, (rest, false))) {k : Nat} {l : List α} (hl : l.length <= k) (hk : k < 1000) (rest : List UInt8) (h : ∀ x ∈ l, ok x) :
  rLs k f (enc l.length ++ l.flatMap g ++ rest, false) = (l, (rest, false)) := by
 unfold rLs
 rw [List.append_assoc, U0 hl (by omega)]
 exact qc9 hf l rest h
theorem nn {n : Int} (h : 0 <= n) : ((n.toNat : Nat) : Int) = n := Int.toNat_of_nonneg h
theorem z62 {o l : Lt Cf} {c : Int} (hc : Sg c) (hr : l.Rng) (hm : maF l c = true) (hb : z0h o c) (rest : Bs) : rdS o c (enS l c ++ rest, false) = (wiF o l c, (rest, false)) := by
 obtain ⟨b1, b2, b3⟩ := hb
 rcases hc with rfl | rfl | rfl | rfl | rfl | rfl | rfl | rfl | rfl | rfl | rfl | rfl | rfl | rfl | rfl
 ·have h : (decide (0 <= l.sh) && decide (l.sh < 4)) = true := hm
  simp only [Bool.and_eq_true, decide_eq_true_eq] at h
  rw [qle, qt2, qte, U0 (by omega) (by omega), nn h.1]
 ·have h := hr.ep
  rw [qlf, qt3, qtf, U0 (by omega) (by omega), nn h.1]
 ·have h : qly l.n = true := hm
  simp only [qly, Bool.and_eq_true, decide_eq_true_eq] at h
  rw [qlg, qt4, qtg, U0 (by omega) (by omega), nn h.1]
 ·have h : qly l.m = true := hm
  simp only [qly, Bool.and_eq_true, decide_eq_true_eq] at h
  rw [qlh, qt5, qth, U0 (by omega) (by omega), nn h.1]
 ·have h : (decide (0 <= l.nd) && decide (l.nd < 8)) = true := hm
  simp only [Bool.and_eq_true, decide_eq_true_eq] at h
  rw [qli, qt6, qti, U0 (by omega) (by omega), nn h.1]
 ·rw [qlj, qt7, qtj, U0 (by split <;> omega) (by split <;> omega)]
  cases l.fl <;> rfl
 ·have h : qji l.bn = true := hm
  have h2 := hr.br
  rw [qr6, qzn, qzw, qur (by omega) h, nn h2.1]
 ·obtain ⟨h1, h2⟩ := qox (l := l) hm hr
  rw [qlk, qzo, qtk, qtr (fun x rest h => z5z h rest) h1 (by decide) rest h2, b1 rfl]
  rfl
 ·obtain ⟨h1, h2⟩ := qoy (l := l) hm hr
  rw [qr7, z3i, qzx, qtr (fun x rest h => z60 h rest) h1 (by decide) rest h2, b2 rfl]
  rfl
 ·obtain ⟨h1, h2⟩ := qoz (l := l) hm hr
  rw [qll, qzp, qtl, qtr (fun x rest h => z61 h rest) h1 (by decide) rest h2, b3 rfl]
  rfl
 ·have h : qsn l.t = true := hm
  have g := qdk h hr.tsq hr.tr
  rw [qlm, qt8, qtm]
  unfold q23
  rw [qqy g h, if_pos rfl, qsr g]
 ·have h : qlx l.cl l.sq = true := hm
  simp only [qlx, Bool.and_eq_true, decide_eq_true_eq] at h
  have h2 := hr.sq
  rw [qln, qt9, qtn]
  unfold rID
  rw [List.append_assoc, U0 (by omega) (by omega)]
  simp only
  rw [U0 (by omega) (by omega), nn h.1.1, nn (by omega)]
 ·have h : decide ((l.v.length : Int) <= 64) = true := hm
  have h := of_decide_eq_true h
  rw [qlo, qta, qto, qcw, q9y (by omega) (by omega)]
 ·have h := hr.q
  rw [qlp, qtb, qtp, U0 (by omega) (by omega), nn h.1]
 ·have h : (decide (0 <= l.co) && decide (l.co <= 99)) = true := hm
  simp only [Bool.and_eq_true, decide_eq_true_eq] at h
  rw [qlq, qtc, qtq, U0 (by omega) (by omega), nn h.1]
theorem qts {o x : Lt Cf} {c d : Int} (hd : Sg d) (h : c ≠ d) (hb : z0h o c) : z0h (wiF o x d) c := by
 obtain ⟨b1, b2, b3⟩ := hb
 rcases hd with rfl | rfl | rfl | rfl | rfl | rfl | rfl | rfl | rfl | rfl | rfl | rfl | rfl | rfl | rfl
 ·rw [qte]; exact ⟨b1, b2, b3⟩
 ·rw [qtf]; exact ⟨b1, b2, b3⟩
 ·rw [qtg]; exact ⟨b1, b2, b3⟩
 ·rw [qth]; exact ⟨b1, b2, b3⟩
 ·rw [qti]; exact ⟨b1, b2, b3⟩
 ·rw [qtj]; exact ⟨b1, b2, b3⟩
 ·rw [qzw]; exact ⟨b1, b2, b3⟩
 ·rw [qtk]; exact ⟨fun e => absurd e h, b2, b3⟩
 ·rw [qzx]; exact ⟨b1, fun e => absurd e h, b3⟩
 ·rw [qtl]; exact ⟨b1, b2, fun e => absurd e h⟩
 ·rw [qtm]; exact ⟨b1, b2, b3⟩
 ·rw [qtn]; exact ⟨b1, b2, b3⟩
 ·rw [qto]; exact ⟨b1, b2, b3⟩
 ·rw [qtp]; exact ⟨b1, b2, b3⟩
 ·rw [qtq]; exact ⟨b1, b2, b3⟩
def Lt.hd (l : Lt Cf) : List Int := [l.fk, l.fn, l.tk, l.tn, l.k]
theorem z3l (o : Lt Cf) {c : Int} (hc : Sg c) (s : RS) : ∃ x, (rdS o c s).1 = wiF o x c := by
 refine ⟨(rdS o c s).1, ?_⟩
 rcases hc with rfl | rfl | rfl | rfl | rfl | rfl | rfl | rfl | rfl | rfl | rfl | rfl | rfl | rfl | rfl
 ·rw [qle, qte]
 ·rw [qlf, qtf]
 ·rw [qlg, qtg]
 ·rw [qlh, qth]
 ·rw [qli, qti]
 ·rw [qlj, qtj]
 ·rw [qr6, qzw]
 ·rw [qlk, qtk]
 ·rw [qr7, qzx]
 ·rw [qll, qtl]
 ·rw [qlm, qtm]
 ·rw [qln, qtn]
 ·rw [qlo, qto]
 ·rw [qlp, qtp]
 ·rw [qlq, qtq]
end Go.Aw
