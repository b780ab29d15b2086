import Derived.Test.YteiamcnjlpbihaaGreatDoorQ17B
namespace Go.Aw
open Go
open Go.Proofs.Tryz (prog)
set_option linter.all false
set_option maxHeartbeats 8000000
set_option maxRecDepth 8000
def rLs {α : Type} (k : Nat) (f : RS -> α × RS) (s : RS) : List α × RS := G1 f (K4 k s).1 (K4 k s).2
def rdS (l : Lt Cf) (c : Int) (s : RS) : Lt Cf × RS :=
 if c = 115 then ({ l with sh := (K4 3 s).1 }, (K4 3 s).2) else
 if c = 101 then ({ l with ep := (K4 18446744073709551615 s).1 }, (K4 18446744073709551615 s).2) else
 if c = 110 then ({ l with n := (K4 1048576 s).1 }, (K4 1048576 s).2) else
 if c = 109 then ({ l with m := (K4 1048576 s).1 }, (K4 1048576 s).2) else
 if c = 111 then ({ l with nd := (K4 7 s).1 }, (K4 7 s).2) else
 if c = 102 then ({ l with fl := decide ((K4 1 s).1 = 1) }, (K4 1 s).2) else
 if c = 98 then ({ l with br := (qqz s).1.1, bn := (qqz s).1.2 }, (qqz s).2) else
 if c = 118 then ({ l with vs := l.vs ++ (rLs 400 rVt s).1 }, (rLs 400 rVt s).2) else
 if c = 99 then ({ l with cs := l.cs ++ (rLs 4 rCo s).1 }, (rLs 4 rCo s).2) else
 if c = 108 then ({ l with es := l.es ++ (rLs 8 rEy s).1 }, (rLs 8 rEy s).2) else
 if c = 120 then ({ l with t := (q3e s).1 }, (rTx s).2) else
 if c = 105 then ({ l with cl := (rID s).1.1, sq := (rID s).1.2 }, (rID s).2) else
 if c = 116 then ({ l with v := (q33 64 s).1 }, (q33 64 s).2) else
 if c = 113 then ({ l with q := (K4 18446744073709551615 s).1 }, (K4 18446744073709551615 s).2) else
 if c = 114 then ({ l with co := (K4 99 s).1 }, (K4 99 s).2) else (l, s)
section
variable (l o : Lt Cf) (s : RS)
theorem qt2 : rdS l 115 s = ({ l with sh := (K4 3 s).1 }, (K4 3 s).2) := by simp only [rdS, Int.reduceEq, if_true, if_false]
theorem qt3 : rdS l 101 s = ({ l with ep := (K4 18446744073709551615 s).1 }, (K4 18446744073709551615 s).2) := by simp only [rdS, Int.reduceEq, if_true, if_false]
theorem qt4 : rdS l 110 s = ({ l with n := (K4 1048576 s).1 }, (K4 1048576 s).2) := by simp only [rdS, Int.reduceEq, if_true, if_false]
theorem qt5 : rdS l 109 s = ({ l with m := (K4 1048576 s).1 }, (K4 1048576 s).2) := by simp only [rdS, Int.reduceEq, if_true, if_false]
theorem qt6 : rdS l 111 s = ({ l with nd := (K4 7 s).1 }, (K4 7 s).2) := by simp only [rdS, Int.reduceEq, if_true, if_false]
theorem qt7 : rdS l 102 s = ({ l with fl := decide ((K4 1 s).1 = 1) }, (K4 1 s).2) := by simp only [rdS, Int.reduceEq, if_true, if_false]
theorem qz1 : rdS l 98 s = ({ l with br := (qqz s).1.1, bn := (qqz s).1.2 }, (qqz s).2) := by simp only [rdS, Int.reduceEq, if_true, if_false]
theorem qt8 : rdS l 118 s = ({ l with vs := l.vs ++ (rLs 400 rVt s).1 }, (rLs 400 rVt s).2) := by simp only [rdS, Int.reduceEq, if_true, if_false]
theorem qz2 : rdS l 99 s = ({ l with cs := l.cs ++ (rLs 4 rCo s).1 }, (rLs 4 rCo s).2) := by simp only [rdS, Int.reduceEq, if_true, if_false]
theorem qt9 : rdS l 108 s = ({ l with es := l.es ++ (rLs 8 rEy s).1 }, (rLs 8 rEy s).2) := by simp only [rdS, Int.reduceEq, if_true, if_false]
theorem qta : rdS l 120 s = ({ l with t := (q3e s).1 }, (rTx s).2) := by simp only [rdS, Int.reduceEq, if_true, if_false]
theorem qtb : rdS l 105 s = ({ l with cl := (rID s).1.1, sq := (rID s).1.2 }, (rID s).2) := by simp only [rdS, Int.reduceEq, if_true, if_false]
theorem qtc : rdS l 116 s = ({ l with v := (q33 64 s).1 }, (q33 64 s).2) := by simp only [rdS, Int.reduceEq, if_true, if_false]
theorem qtd : rdS l 113 s = ({ l with q := (K4 18446744073709551615 s).1 }, (K4 18446744073709551615 s).2) := by simp only [rdS, Int.reduceEq, if_true, if_false]
theorem qte : rdS l 114 s = ({ l with co := (K4 99 s).1 }, (K4 99 s).2) := by simp only [rdS, Int.reduceEq, if_true, if_false]
theorem z1d : wiF o l 115 = { o with sh := l.sh } := by simp only [wiF, Int.reduceEq, decide_true, decide_false, if_true, Bool.false_eq_true, if_false]
theorem z1e : wiF o l 101 = { o with ep := l.ep } := by simp only [wiF, Int.reduceEq, decide_true, decide_false, if_true, Bool.false_eq_true, if_false]
theorem z1f : wiF o l 110 = { o with n := l.n } := by simp only [wiF, Int.reduceEq, decide_true, decide_false, if_true, Bool.false_eq_true, if_false]
theorem z1g : wiF o l 109 = { o with m := l.m } := by simp only [wiF, Int.reduceEq, decide_true, decide_false, if_true, Bool.false_eq_true, if_false]
theorem z1h : wiF o l 111 = { o with nd := l.nd } := by simp only [wiF, Int.reduceEq, decide_true, decide_false, if_true, Bool.false_eq_true, if_false]
theorem z1i : wiF o l 102 = { o with fl := l.fl } := by simp only [wiF, Int.reduceEq, decide_true, decide_false, if_true, Bool.false_eq_true, if_false]
theorem z7x : wiF o l 98 = { o with br := l.br, bn := l.bn } := by simp only [wiF, Int.reduceEq, decide_true, decide_false, if_true, Bool.false_eq_true, if_false]
theorem z1j : wiF o l 118 = { o with vs := l.vs } := by simp only [wiF, Int.reduceEq, decide_true, decide_false, if_true, Bool.false_eq_true, if_false]
theorem z7y : wiF o l 99 = { o with cs := l.cs } := by simp only [wiF, Int.reduceEq, decide_true, decide_false, if_true, Bool.false_eq_true, if_false]
theorem z1k : wiF o l 108 = { o with es := l.es } := by simp only [wiF, Int.reduceEq, decide_true, decide_false, if_true, Bool.false_eq_true, if_false]
theorem z1l : wiF o l 120 = { o with t := l.t } := by simp only [wiF, Int.reduceEq, decide_true, decide_false, if_true, Bool.false_eq_true, if_false]
theorem z1m : wiF o l 105 = { o with cl := l.cl, sq := l.sq } := by simp only [wiF, Int.reduceEq, decide_true, decide_false, if_true, Bool.false_eq_true, if_false]
theorem z1n : wiF o l 116 = { o with v := l.v } := by simp only [wiF, Int.reduceEq, decide_true, decide_false, if_true, Bool.false_eq_true, if_false]
theorem z1o : wiF o l 113 = { o with q := l.q } := by simp only [wiF, Int.reduceEq, decide_true, decide_false, if_true, Bool.false_eq_true, if_false]
theorem z1p : wiF o l 114 = { o with co := l.co } := by simp only [wiF, Int.reduceEq, decide_true, decide_false, if_true, Bool.false_eq_true, if_false]
end
def Sg (s : Int) : Prop := s = 115 \/ s = 101 \/ s = 110 \/ s = 109 \/ s = 111 \/ s = 102 \/ s = 98 \/ s = 118 \/ s = 99 \/ s = 108 \/ s = 120 \/ s = 105 \/ s = 116 \/ s = 113 \/ s = 114
def z8e (o : Lt Cf) (c : Int) : Prop := (c = 118 -> o.vs = []) /\ (c = 99 -> o.cs = []) /\ (c = 108 -> o.es = [])
theorem z1q {α : Type} {f : RS -> α × RS} {g : α -> List UInt8} {ok : α -> Prop} (hf : ∀ x rest, ok x -> f (g x ++ rest, false) = (x, (rest, false))) {k : Nat} {l : List α} (hl : l.length <= k) (hk : k < 1000) (rest : List UInt8) (h : ∀ x ∈ l, ok x) :
  rLs k f (enc l.length ++ l.flatMap g ++ rest, false) = (l, (rest, false)) := by
 unfold rLs
 rw [List.append_assoc, V5 hl (by omega)]
 exact qhv hf l rest h
theorem nn {n : Int} (h : 0 <= n) : ((n.toNat : Nat) : Int) = n := Int.toNat_of_nonneg h
theorem ze1 {o l : Lt Cf} {c : Int} (hc : Sg c) (hr : l.Rng) (hm : maF l c = true) (hb : z8e o c) (rest : Bs) : rdS o c (enS l c ++ rest, false) = (wiF o l c, (rest, false)) := by
 obtain ⟨b1, b2, b3⟩ := hb
 rcases hc with rfl | rfl | rfl | rfl | rfl | rfl | rfl | rfl | rfl | rfl | rfl | rfl | rfl | rfl | rfl
 ·have h : (decide (0 <= l.sh) && decide (l.sh < 4)) = true := hm
  simp only [Bool.and_eq_true, decide_eq_true_eq] at h
  rw [qt2, qwd, z1d, V5 (by omega) (by omega), nn h.1]
 ·have h := hr.ep
  rw [qt3, qwe, z1e, V5 (by omega) (by omega), nn h.1]
 ·have h : qa1 l.n = true := hm
  simp only [qa1, Bool.and_eq_true, decide_eq_true_eq] at h
  rw [qt4, qwf, z1f, V5 (by omega) (by omega), nn h.1]
 ·have h : qa1 l.m = true := hm
  simp only [qa1, Bool.and_eq_true, decide_eq_true_eq] at h
  rw [qt5, qwg, z1g, V5 (by omega) (by omega), nn h.1]
 ·have h : (decide (0 <= l.nd) && decide (l.nd < 8)) = true := hm
  simp only [Bool.and_eq_true, decide_eq_true_eq] at h
  rw [qt6, qwh, z1h, V5 (by omega) (by omega), nn h.1]
 ·rw [qt7, qwi, z1i, V5 (by split <;> omega) (by split <;> omega)]
  cases l.fl <;> rfl
 ·have h : qh1 l.bn = true := hm
  have h2 := hr.br
  rw [qz1, z2m, z7x, z2r (by omega) h, nn h2.1]
 ·obtain ⟨h1, h2⟩ := qwa (l := l) hm hr
  rw [qt8, z19, z1j, z1q (fun x rest h => zdy h rest) h1 (by decide) rest h2, b1 rfl]
  rfl
 ·obtain ⟨h1, h2⟩ := qwb (l := l) hm hr
  rw [qz2, z7o, z7y, z1q (fun x rest h => zdz h rest) h1 (by decide) rest h2, b2 rfl]
  rfl
 ·obtain ⟨h1, h2⟩ := qwc (l := l) hm hr
  rw [qt9, z1a, z1k, z1q (fun x rest h => ze0 h rest) h1 (by decide) rest h2, b3 rfl]
  rfl
 ·have h : qqt l.t = true := hm
  have g := qfr h hr.tsq hr.tr
  rw [qta, qwj, z1l]
  unfold q3e
  rw [qyu g h, if_pos rfl, z0w g]
 ·have h : qhl l.cl l.sq = true := hm
  simp only [qhl, Bool.and_eq_true, decide_eq_true_eq] at h
  have h2 := hr.sq
  rw [qtb, qwk, z1m]
  unfold rID
  rw [List.append_assoc, V5 (by omega) (by omega)]
  simp only
  rw [V5 (by omega) (by omega), nn h.1.1, nn (by omega)]
 ·have h : decide ((l.v.length : Int) <= 64) = true := hm
  have h := of_decide_eq_true h
  rw [qtc, qwl, z1n, q75, qf2 (by omega) (by omega)]
 ·have h := hr.q
  rw [qtd, qwm, z1o, V5 (by omega) (by omega), nn h.1]
 ·have h : (decide (0 <= l.co) && decide (l.co <= 99)) = true := hm
  simp only [Bool.and_eq_true, decide_eq_true_eq] at h
  rw [qte, qwn, z1p, V5 (by omega) (by omega), nn h.1]
theorem z1r {o x : Lt Cf} {c d : Int} (hd : Sg d) (h : c ≠ d) (hb : z8e o c) : z8e (wiF o x d) c := by
 obtain ⟨b1, b2, b3⟩ := hb
 rcases hd with rfl | rfl | rfl | rfl | rfl | rfl | rfl | rfl | rfl | rfl | rfl | rfl | rfl | rfl | rfl
 ·rw [z1d]; exact ⟨b1, b2, b3⟩
 ·rw [z1e]; exact ⟨b1, b2, b3⟩
 ·rw [z1f]; exact ⟨b1, b2, b3⟩
 ·rw [z1g]; exact ⟨b1, b2, b3⟩
 ·rw [z1h]; exact ⟨b1, b2, b3⟩
 ·rw [z1i]; exact ⟨b1, b2, b3⟩
 ·rw [z7x]; exact ⟨b1, b2, b3⟩
 ·rw [z1j]; exact ⟨fun e => absurd e h, b2, b3⟩
 ·rw [z7y]; exact ⟨b1, fun e => absurd e h, b3⟩
 ·rw [z1k]; exact ⟨b1, b2, fun e => absurd e h⟩
 ·rw [z1l]; exact ⟨b1, b2, b3⟩
 ·rw [z1m]; exact ⟨b1, b2, b3⟩
 ·rw [z1n]; exact ⟨b1, b2, b3⟩
 ·rw [z1o]; exact ⟨b1, b2, b3⟩
 ·rw [z1p]; exact ⟨b1, b2, b3⟩
def Lt.hd (l : Lt Cf) : List Int := [l.fk, l.fn, l.tk, l.tn, l.k]
theorem zbh (o : Lt Cf) {c : Int} (hc : Sg c) (s : RS) : ∃ x, (rdS o c s).1 = wiF o x c := by
 refine ⟨(rdS o c s).1, ?_⟩
 rcases hc with rfl | rfl | rfl | rfl | rfl | rfl | rfl | rfl | rfl | rfl | rfl | rfl | rfl | rfl | rfl
 ·rw [qt2, z1d]
 ·rw [qt3, z1e]
 ·rw [qt4, z1f]
 ·rw [qt5, z1g]
 ·rw [qt6, z1h]
 ·rw [qt7, z1i]
 ·rw [qz1, z7x]
 ·rw [qt8, z1j]
 ·rw [qz2, z7y]
 ·rw [qt9, z1k]
 ·rw [qta, z1l]
 ·rw [qtb, z1m]
 ·rw [qtc, z1n]
 ·rw [qtd, z1o]
 ·rw [qte, z1p]
end Go.Aw
