import Derived.Test.YtchdmofoaokpjaaGreatDoorM30Q17B
namespace Go.Aw
open Go
open Go.Proofs.Tryz (prog)
set_option linter.all false
set_option maxHeartbeats 8000000
set_option maxRecDepth 8000
def rLs {α : Type} (k : Nat) (f : RS -> α × RS) (s : RS) : List α × RS := V8 f (K3 k s).1 (K3 k s).2
def rdS (l : Lt Cf) (c : Int) (s : RS) : Lt Cf × RS :=
 if c = 115 then ({ l with sh := (K3 3 s).1 }, (K3 3 s).2) else
 if c = 101 then ({ l with ep := (K3 18446744073709551615 s).1 }, (K3 18446744073709551615 s).2) else
 if c = 110 then ({ l with n := (K3 1048576 s).1 }, (K3 1048576 s).2) else
 if c = 109 then ({ l with m := (K3 1048576 s).1 }, (K3 1048576 s).2) else
 if c = 111 then ({ l with nd := (K3 7 s).1 }, (K3 7 s).2) else
 if c = 102 then ({ l with fl := decide ((K3 1 s).1 = 1) }, (K3 1 s).2) else
 if c = 98 then ({ l with br := (qi5 s).1.1, bn := (qi5 s).1.2 }, (qi5 s).2) else
 if c = 118 then ({ l with vs := l.vs ++ (rLs 400 rVt s).1 }, (rLs 400 rVt s).2) else
 if c = 99 then ({ l with cs := l.cs ++ (rLs 4 rCo s).1 }, (rLs 4 rCo s).2) else
 if c = 108 then ({ l with es := l.es ++ (rLs 8 rEy s).1 }, (rLs 8 rEy s).2) else
 if c = 120 then ({ l with t := (q21 s).1 }, (rTx s).2) else
 if c = 105 then ({ l with cl := (rID s).1.1, sq := (rID s).1.2 }, (rID s).2) else
 if c = 116 then ({ l with v := (q1n 64 s).1 }, (q1n 64 s).2) else
 if c = 113 then ({ l with q := (K3 18446744073709551615 s).1 }, (K3 18446744073709551615 s).2) else
 if c = 114 then ({ l with co := (K3 99 s).1 }, (K3 99 s).2) else (l, s)
section
variable (l o : Lt Cf) (s : RS)
theorem qk7 : rdS l 115 s = ({ l with sh := (K3 3 s).1 }, (K3 3 s).2) := by simp only [rdS, Int.reduceEq, if_true, if_false]
theorem qk8 : rdS l 101 s = ({ l with ep := (K3 18446744073709551615 s).1 }, (K3 18446744073709551615 s).2) := by simp only [rdS, Int.reduceEq, if_true, if_false]
theorem qk9 : rdS l 110 s = ({ l with n := (K3 1048576 s).1 }, (K3 1048576 s).2) := by simp only [rdS, Int.reduceEq, if_true, if_false]
theorem qka : rdS l 109 s = ({ l with m := (K3 1048576 s).1 }, (K3 1048576 s).2) := by simp only [rdS, Int.reduceEq, if_true, if_false]
theorem qkb : rdS l 111 s = ({ l with nd := (K3 7 s).1 }, (K3 7 s).2) := by simp only [rdS, Int.reduceEq, if_true, if_false]
theorem qkc : rdS l 102 s = ({ l with fl := decide ((K3 1 s).1 = 1) }, (K3 1 s).2) := by simp only [rdS, Int.reduceEq, if_true, if_false]
theorem qpw : rdS l 98 s = ({ l with br := (qi5 s).1.1, bn := (qi5 s).1.2 }, (qi5 s).2) := by simp only [rdS, Int.reduceEq, if_true, if_false]
theorem qkd : rdS l 118 s = ({ l with vs := l.vs ++ (rLs 400 rVt s).1 }, (rLs 400 rVt s).2) := by simp only [rdS, Int.reduceEq, if_true, if_false]
theorem qpx : rdS l 99 s = ({ l with cs := l.cs ++ (rLs 4 rCo s).1 }, (rLs 4 rCo s).2) := by simp only [rdS, Int.reduceEq, if_true, if_false]
theorem qke : rdS l 108 s = ({ l with es := l.es ++ (rLs 8 rEy s).1 }, (rLs 8 rEy s).2) := by simp only [rdS, Int.reduceEq, if_true, if_false]
theorem qkf : rdS l 120 s = ({ l with t := (q21 s).1 }, (rTx s).2) := by simp only [rdS, Int.reduceEq, if_true, if_false]
theorem qkg : rdS l 105 s = ({ l with cl := (rID s).1.1, sq := (rID s).1.2 }, (rID s).2) := by simp only [rdS, Int.reduceEq, if_true, if_false]
theorem qkh : rdS l 116 s = ({ l with v := (q1n 64 s).1 }, (q1n 64 s).2) := by simp only [rdS, Int.reduceEq, if_true, if_false]
theorem qki : rdS l 113 s = ({ l with q := (K3 18446744073709551615 s).1 }, (K3 18446744073709551615 s).2) := by simp only [rdS, Int.reduceEq, if_true, if_false]
theorem qkj : rdS l 114 s = ({ l with co := (K3 99 s).1 }, (K3 99 s).2) := by simp only [rdS, Int.reduceEq, if_true, if_false]
theorem qs4 : wiF o l 115 = { o with sh := l.sh } := by simp only [wiF, Int.reduceEq, decide_true, decide_false, if_true, Bool.false_eq_true, if_false]
theorem qs5 : wiF o l 101 = { o with ep := l.ep } := by simp only [wiF, Int.reduceEq, decide_true, decide_false, if_true, Bool.false_eq_true, if_false]
theorem qs6 : wiF o l 110 = { o with n := l.n } := by simp only [wiF, Int.reduceEq, decide_true, decide_false, if_true, Bool.false_eq_true, if_false]
theorem qs7 : wiF o l 109 = { o with m := l.m } := by simp only [wiF, Int.reduceEq, decide_true, decide_false, if_true, Bool.false_eq_true, if_false]
theorem qs8 : wiF o l 111 = { o with nd := l.nd } := by simp only [wiF, Int.reduceEq, decide_true, decide_false, if_true, Bool.false_eq_true, if_false]
theorem qs9 : wiF o l 102 = { o with fl := l.fl } := by simp only [wiF, Int.reduceEq, decide_true, decide_false, if_true, Bool.false_eq_true, if_false]
theorem qya : wiF o l 98 = { o with br := l.br, bn := l.bn } := by simp only [wiF, Int.reduceEq, decide_true, decide_false, if_true, Bool.false_eq_true, if_false]
theorem qsa : wiF o l 118 = { o with vs := l.vs } := by simp only [wiF, Int.reduceEq, decide_true, decide_false, if_true, Bool.false_eq_true, if_false]
theorem qyb : wiF o l 99 = { o with cs := l.cs } := by simp only [wiF, Int.reduceEq, decide_true, decide_false, if_true, Bool.false_eq_true, if_false]
theorem qsb : wiF o l 108 = { o with es := l.es } := by simp only [wiF, Int.reduceEq, decide_true, decide_false, if_true, Bool.false_eq_true, if_false]
theorem qsc : wiF o l 120 = { o with t := l.t } := by simp only [wiF, Int.reduceEq, decide_true, decide_false, if_true, Bool.false_eq_true, if_false]
theorem qsd : wiF o l 105 = { o with cl := l.cl, sq := l.sq } := by simp only [wiF, Int.reduceEq, decide_true, decide_false, if_true, Bool.false_eq_true, if_false]
theorem qse : wiF o l 116 = { o with v := l.v } := by simp only [wiF, Int.reduceEq, decide_true, decide_false, if_true, Bool.false_eq_true, if_false]
theorem qsf : wiF o l 113 = { o with q := l.q } := by simp only [wiF, Int.reduceEq, decide_true, decide_false, if_true, Bool.false_eq_true, if_false]
theorem qsg : wiF o l 114 = { o with co := l.co } := by simp only [wiF, Int.reduceEq, decide_true, decide_false, if_true, Bool.false_eq_true, if_false]
end
def Sg (s : Int) : Prop := s = 115 \/ s = 101 \/ s = 110 \/ s = 109 \/ s = 111 \/ s = 102 \/ s = 98 \/ s = 118 \/ s = 99 \/ s = 108 \/ s = 120 \/ s = 105 \/ s = 116 \/ s = 113 \/ s = 114
def qyt (o : Lt Cf) (c : Int) : Prop := (c = 118 -> o.vs = []) /\ (c = 99 -> o.cs = []) /\ (c = 108 -> o.es = [])
theorem qsh {α : Type} {f : RS -> α × RS} {g : α -> List UInt8} {ok : α -> Prop} (hf : ∀ x rest, ok x -> f (g x ++ rest, false) = (x, (rest, false))) {k : Nat} {l : List α} (hl : l.length <= k) (hk : k < 1000) (rest : List UInt8) (h : ∀ x ∈ l, ok x) :
  rLs k f (enc l.length ++ l.flatMap g ++ rest, false) = (l, (rest, false)) := by
 unfold rLs
 rw [List.append_assoc, Q6 hl (by omega)]
 exact qbc hf l rest h
theorem nn {n : Int} (h : 0 <= n) : ((n.toNat : Nat) : Int) = n := Int.toNat_of_nonneg h
theorem z44 {o l : Lt Cf} {c : Int} (hc : Sg c) (hr : l.Rng) (hm : maF l c = true) (hb : qyt o c) (rest : Bs) : rdS o c (enS l c ++ rest, false) = (wiF o l c, (rest, false)) := by
 obtain ⟨b1, b2, b3⟩ := hb
 rcases hc with rfl | rfl | rfl | rfl | rfl | rfl | rfl | rfl | rfl | rfl | rfl | rfl | rfl | rfl | rfl
 ·have h : (decide (0 <= l.sh) && decide (l.sh < 4)) = true := hm
  simp only [Bool.and_eq_true, decide_eq_true_eq] at h
  rw [qk7, qrs, qs4, Q6 (by omega) (by omega), nn h.1]
 ·have h := hr.ep
  rw [qk8, qrt, qs5, Q6 (by omega) (by omega), nn h.1]
 ·have h : qkr l.n = true := hm
  simp only [qkr, Bool.and_eq_true, decide_eq_true_eq] at h
  rw [qk9, qru, qs6, Q6 (by omega) (by omega), nn h.1]
 ·have h : qkr l.m = true := hm
  simp only [qkr, Bool.and_eq_true, decide_eq_true_eq] at h
  rw [qka, qrv, qs7, Q6 (by omega) (by omega), nn h.1]
 ·have h : (decide (0 <= l.nd) && decide (l.nd < 8)) = true := hm
  simp only [Bool.and_eq_true, decide_eq_true_eq] at h
  rw [qkb, qrw, qs8, Q6 (by omega) (by omega), nn h.1]
 ·rw [qkc, qrx, qs9, Q6 (by split <;> omega) (by split <;> omega)]
  cases l.fl <;> rfl
 ·have h : qi9 l.bn = true := hm
  have h2 := hr.br
  rw [qpw, qy4, qya, qte (by omega) h, nn h2.1]
 ·obtain ⟨h1, h2⟩ := qnp (l := l) hm hr
  rw [qkd, qy5, qsa, qsh (fun x rest h => z41 h rest) h1 (by decide) rest h2, b1 rfl]
  rfl
 ·obtain ⟨h1, h2⟩ := qnq (l := l) hm hr
  rw [qpx, z1p, qyb, qsh (fun x rest h => z42 h rest) h1 (by decide) rest h2, b2 rfl]
  rfl
 ·obtain ⟨h1, h2⟩ := qnr (l := l) hm hr
  rw [qke, qy6, qsb, qsh (fun x rest h => z43 h rest) h1 (by decide) rest h2, b3 rfl]
  rfl
 ·have h : qrd l.t = true := hm
  have g := qch h hr.tsq hr.tr
  rw [qkf, qry, qsc]
  unfold q21
  rw [qpo g h, if_pos rfl, qrh g]
 ·have h : qkq l.cl l.sq = true := hm
  simp only [qkq, Bool.and_eq_true, decide_eq_true_eq] at h
  have h2 := hr.sq
  rw [qkg, qrz, qsd]
  unfold rID
  rw [List.append_assoc, Q6 (by omega) (by omega)]
  simp only
  rw [Q6 (by omega) (by omega), nn h.1.1, nn (by omega)]
 ·have h : decide ((l.v.length : Int) <= 64) = true := hm
  have h := of_decide_eq_true h
  rw [qkh, qs0, qse, qbw, q95 (by omega) (by omega)]
 ·have h := hr.q
  rw [qki, qs1, qsf, Q6 (by omega) (by omega), nn h.1]
 ·have h : (decide (0 <= l.co) && decide (l.co <= 99)) = true := hm
  simp only [Bool.and_eq_true, decide_eq_true_eq] at h
  rw [qkj, qs2, qsg, Q6 (by omega) (by omega), nn h.1]
theorem qsi {o x : Lt Cf} {c d : Int} (hd : Sg d) (h : c ≠ d) (hb : qyt o c) : qyt (wiF o x d) c := by
 obtain ⟨b1, b2, b3⟩ := hb
 rcases hd with rfl | rfl | rfl | rfl | rfl | rfl | rfl | rfl | rfl | rfl | rfl | rfl | rfl | rfl | rfl
 ·rw [qs4]; exact ⟨b1, b2, b3⟩
 ·rw [qs5]; exact ⟨b1, b2, b3⟩
 ·rw [qs6]; exact ⟨b1, b2, b3⟩
 ·rw [qs7]; exact ⟨b1, b2, b3⟩
 ·rw [qs8]; exact ⟨b1, b2, b3⟩
 ·rw [qs9]; exact ⟨b1, b2, b3⟩
 ·rw [qya]; exact ⟨b1, b2, b3⟩
 ·rw [qsa]; exact ⟨fun e => absurd e h, b2, b3⟩
 ·rw [qyb]; exact ⟨b1, fun e => absurd e h, b3⟩
 ·rw [qsb]; exact ⟨b1, b2, fun e => absurd e h⟩
 ·rw [qsc]; exact ⟨b1, b2, b3⟩
 ·rw [qsd]; exact ⟨b1, b2, b3⟩
 ·rw [qse]; exact ⟨b1, b2, b3⟩
 ·rw [qsf]; exact ⟨b1, b2, b3⟩
 ·rw [qsg]; exact ⟨b1, b2, b3⟩
def Lt.hd (l : Lt Cf) : List Int := [l.fk, l.fn, l.tk, l.tn, l.k]
theorem z1q (o : Lt Cf) {c : Int} (hc : Sg c) (s : RS) : ∃ x, (rdS o c s).1 = wiF o x c := by
 refine ⟨(rdS o c s).1, ?_⟩
 rcases hc with rfl | rfl | rfl | rfl | rfl | rfl | rfl | rfl | rfl | rfl | rfl | rfl | rfl | rfl | rfl
 ·rw [qk7, qs4]
 ·rw [qk8, qs5]
 ·rw [qk9, qs6]
 ·rw [qka, qs7]
 ·rw [qkb, qs8]
 ·rw [qkc, qs9]
 ·rw [qpw, qya]
 ·rw [qkd, qsa]
 ·rw [qpx, qyb]
 ·rw [qke, qsb]
 ·rw [qkf, qsc]
 ·rw [qkg, qsd]
 ·rw [qkh, qse]
 ·rw [qki, qsf]
 ·rw [qkj, qsg]
end Go.Aw
