import Derived.Test.YtchdmofoaokpjaaGreatDoorM30N17E12R
import Derived.Test.YtchdmofoaokpjaaGreatDoorAwD
import Derived.Test.YtchdmofoaokpjaaGreatDoorM30N17E12X
namespace Go.Aw
open Go
open Go.Proofs.Tryz (prog)
set_option linter.all false
set_option maxHeartbeats 4000000
def q69 (s : RS) : Slot := .row 2 [bts s.1 none, .b s.2]
def rT (T : Tab) (id : Nat) (s : RS) : Tab := T.put id (q69 s)
theorem qqt {T : Tab} {id : Nat} {s : RS} : rT T id s id = .row 2 [bts s.1 none, .b s.2] := Tab.put_same ..
theorem qd6 {T : Tab} {id : Nat} {s s' : RS} : rT (rT T id s) id s' = rT T id s' := Tab.put_put ..
theorem qup {T : Tab} {id : Nat} {s : RS} : ACalls prog Q8 [.ptr id 0] (rT T id s) (fun v T' => v = .b s.2 /\ T' = rT T id s) := by
 refine U7 U1 qgf (by simp) ?_
 unfold q9j
 simp -implicitDefEqProofs -dsimp only [go_sem, seval, qqt]
 exact J9 rfl
theorem qjl {T : Tab} {id : Nat} {s : RS} : ACalls prog q0r [.ptr id 0] (rT T id s) (fun v T' => v = .tup [] /\ T' = rT T id (s.1, true)) := by
 refine U7 U1 qdy (by simp) ?_
 unfold q86
 simp -implicitDefEqProofs -dsimp only [go_sem, seval, qqt]
 refine q11 (q := 2) (cells := [bts s.1 none, .b s.2]) qqt rfl rfl (by simp) (J1 ?_)
 simp -implicitDefEqProofs -dsimp only [go_sem, seval]
 refine q82 (.refl _) ?_
 unfold rT
 rw [Tab.put_put]
 rfl
theorem q7h (l : List UInt8) (k : Nat) : (K8 l).take k = K8 (l.take k) := by simp [K8, List.map_take]
theorem q9z (l : List UInt8) (k : Nat) : (K8 l).drop k = K8 (l.drop k) := by simp [K8, List.map_drop]
theorem qz5 {T : Tab} {id : Nat} {s : RS} (n : Nat) (hn : n <= s.1.length) : ACalls prog q22 [.ptr id 0, .i .i64 n] (rT T id s) (fun v T' => v = bts (s.1.take n) (some n) /\ T' = rT T id (s.1.drop n, s.2)) := by
 refine U7 U1 qff (by simp) ?_
 have e1 : (s.1.take n).length = n := by rw [List.length_take]; omega
 have e2 : (s.1.drop n).length = s.1.length - n := List.length_drop
 have e3 : (s.1.drop n).take (s.1.length - n) = s.1.drop n := List.take_of_length_le (by omega)
 unfold q91
 simp -implicitDefEqProofs -dsimp only [go_sem, seval, qqt, bts, hn, Nat.zero_le, Nat.le_refl, Int.natCast_nonneg, Int.toNat_natCast, Option.isSome_some, q7h, q9z, e3]
 refine q11 (q := 2) (cells := [bts s.1 none, .b s.2]) qqt rfl rfl (by simp) (J1 ?_)
 simp -implicitDefEqProofs -dsimp only [go_sem, seval]
 refine q82 (by rw [bts, e1]; exact .refl _) ?_
 unfold rT q69
 rw [Tab.put_put, bts, e2]
theorem qz6 (y : UInt8) : IntKind.u8.wrap ((BitVec.ofInt IntKind.u8.bits (y.toNat : Int) &&& BitVec.ofInt IntKind.u8.bits 127).toNat : Nat) = ((y.toNat % 128 : Nat) : Int) := by
 have h := z9u ⟨y.toNat, y.toNat_lt⟩
 simp only at h
 rw [show IntKind.u8.bits = 8 from rfl, h, qkb]
 omega
theorem zfl {c k : Nat} (h : c * 128 ^ k < 18446744073709551616) (hk : k <= 9) (hc : c < 128) : IntKind.u64.wrap (IntKind.u64.wrap (c : Int) * 2 ^ (min ((7 * k : Nat) : Int).toNat 64)) = ((c * 128 ^ k : Nat) : Int) := by
 rw [q0q (n := c) (by omega), Int.toNat_natCast, Nat.min_eq_left (by omega)]
 have e : ((c : Int) * 2 ^ (7 * k)) = ((c * 128 ^ k : Nat) : Int) := by rw [z3q]; push_cast; rfl
 rw [e, q0q h]
theorem z5n {a c k : Nat} (ha : a < 128 ^ k) (h : a + c * 128 ^ k < 18446744073709551616) : IntKind.u64.wrap ((BitVec.ofInt IntKind.u64.bits (a : Int) ||| BitVec.ofInt IntKind.u64.bits ((c * 128 ^ k : Nat) : Int)).toNat : Nat) = ((a + c * 128 ^ k : Nat) : Int) := by
 have e : (BitVec.ofInt IntKind.u64.bits (a : Int) ||| BitVec.ofInt IntKind.u64.bits ((c * 128 ^ k : Nat) : Int)).toNat = a + c * 128 ^ k := by
  show (BitVec.ofInt 64 (a : Int) ||| BitVec.ofInt 64 ((c * 128 ^ k : Nat) : Int)).toNat = _
  rw [BitVec.toNat_or, BitVec.ofInt_natCast, BitVec.ofInt_natCast, BitVec.toNat_ofNat, BitVec.toNat_ofNat, Nat.mod_eq_of_lt (by omega), Nat.mod_eq_of_lt (by omega)]
  rw [z3q] at ha ⊢
  have := Nat.two_pow_add_eq_or_of_lt ha c
  rw [Nat.or_comm, Nat.mul_comm c, <- this, Nat.add_comm]
 rw [e, q0q h]
theorem za7 {a c k : Nat} (ha : a < 128 ^ k) (hc : c < 128) (h : k <= 8 \/ (k = 9 /\ c <= 1)) : a + c * 128 ^ k < 18446744073709551616 := by
 rcases h with h | ⟨rfl, h⟩
 ·have h8 : 128 ^ k <= 128 ^ 8 := Nat.pow_le_pow_right (by decide) h
  have h88 : (128 : Nat) ^ 8 = 72057594037927936 := by decide
  have : c * 128 ^ k <= 127 * 128 ^ k := Nat.mul_le_mul_right _ (by omega)
  omega
 ·have : (128 : Nat) ^ 9 = 9223372036854775808 := by decide
  rw [this] at ha ⊢
  omega
theorem qqu {R : G9} (hR : ExtR R) {T : Tab} {b : List UInt8} {cap : Option Nat} (hl : Len b.length) : ∀ (ys : List UInt8) (k a : Nat), b.drop k = ys -> k <= b.length -> k <= 9 -> a < 128 ^ k ->
  (dec k a ys = none -> R .ret [(2, .i .u64 0), (3, .i .i64 0)] [] T) -> (dec k a ys = none -> ∀ a, R (.exit 0) [(4, .i .u64 a), (8, bts b cap), (9, .i .i64 b.length), (10, .i .i64 b.length), (11, .b false)] [] T) ->
  (∀ n z, dec k a ys = some (n, z) -> R .ret [(2, .i .u64 n), (3, .i .i64 z)] [] T) ->
  AW prog q4t R [(4, .i .u64 a), (8, bts b cap), (9, .i .i64 b.length), (10, .i .i64 k)] [] T := by
 intro ys
 induction ys with
 | nil =>
  intro k a hk hle h9 ha h0 hE h2
  have hk' := V6 hk hle
  refine V1 hR ?_
  unfold q5y
  simp -implicitDefEqProofs -dsimp only [go_sem, seval, hk', Int.lt_irrefl]
  have := hE rfl a
  rw [hk'] at this
  exact this
 | cons y ys ih =>
  intro k a hk hle h9 ha h0 hE h2
  obtain ⟨hlt, hy, hk'⟩ := Y6 hk
  unfold Len at hl
  have hat : ((K8 b).drop k)[0]? = some (.i .u8 y.toNat) := by simp [K8, hy]
  have w7 : IntKind.i64.wrap (7 * (k : Int)) = ((7 * k : Nat) : Int) := by rw [q0c (by unfold I64; omega)]; omega
  have d1 : decide ((63 : Int) < ((7 * k : Nat) : Int)) = false := decide_eq_false (by omega)
  have d2 : decide (((7 * k : Nat) : Int) = 63) = decide (k = 9) := decide_eq_decide.2 (by omega)
  have d3 : decide ((1 : Int) < (y.toNat : Int)) = decide (1 < y.toNat) := decide_eq_decide.2 (by omega)
  have d4 : decide ((y.toNat : Int) < 128) = decide (y.toNat < 128) := decide_eq_decide.2 (by omega)
  have d5 : decide ((y.toNat : Int) = 0) = decide (y.toNat = 0) := decide_eq_decide.2 (by omega)
  have d6 : decide ((0 : Int) < (k : Int)) = decide (0 < k) := decide_eq_decide.2 (by omega)
  have hp0 : (((7 * k : Nat) : Int) < 0) = False := eq_false (Int.not_lt.2 (Int.natCast_nonneg _))
  have fin : ¬ (9 < k \/ (k = 9 /\ 1 < y.toNat)) -> AW prog q4t R [(4, .i .u64 a), (8, bts b cap), (9, .i .i64 b.length), (10, .i .i64 k)] [] T := by
   intro hok
   have hdec : dec k a (y :: ys) = if y.toNat < 128 then (if y.toNat = 0 /\ 0 < k then none else some (a + y.toNat % 128 * 128 ^ k, k + 1)) else dec (k + 1) (a + y.toNat % 128 * 128 ^ k) ys := by simp only [dec]; rw [if_neg hok]
   have hlow : k <= 8 \/ (k = 9 /\ y.toNat % 128 <= 1) := by omega
   have hm := Nat.mod_lt y.toNat (show 0 < 128 by decide)
   have hacc := za7 ha hm hlow
   have e1 := zfl (c := y.toNat % 128) (k := k) (by omega) h9 hm
   have e2 := z5n ha hacc
   have hb : decide (k = 9) = false \/ (decide (k = 9) = true /\ decide (1 < y.toNat) = false) := by
    by_cases h : k = 9
    ·exact .inr ⟨decide_eq_true h, decide_eq_false (fun h1 => hok (.inr ⟨h, h1⟩))⟩
    ·exact .inl (decide_eq_false h)
   refine Q1 (l := q4t) rfl hR ?_
   unfold q5y
   simp -implicitDefEqProofs -dsimp only [go_sem, seval, bts, Int.ofNat_lt, hlt, Int.natCast_nonneg, Int.toNat_natCast, hat, w7, d1, d2, d3]
   rcases hb with hb | ⟨hb, hb2⟩
   all_goals
    simp -implicitDefEqProofs -dsimp only [go_sem, seval, hb, d2, d3, decide_true, decide_false, qz6]
    try simp -implicitDefEqProofs -dsimp only [go_sem, seval, hb2, d2, d3, decide_true, decide_false, qz6]
    simp -implicitDefEqProofs -dsimp only [go_sem, seval, hp0, e1, e2, d4]
    rcases h128 : decide (y.toNat < 128) with _ | _
    ·simp -implicitDefEqProofs -dsimp only [go_sem, seval, d4, h128]
     rw [O8 (by omega)]
     have h128' := of_decide_eq_false h128
     have hk9 : k ≠ 9 := by omega
     refine ih (k + 1) _ hk' hlt (by omega) ?_ (fun h => h0 (by rw [hdec, if_neg h128']; exact h)) (fun h => hE (by rw [hdec, if_neg h128']; exact h)) fun n z h => h2 n z ?_
     ·rw [Nat.pow_succ]
      have : y.toNat % 128 * 128 ^ k <= 127 * 128 ^ k := Nat.mul_le_mul_right _ (by omega)
      omega
     ·rw [hdec, if_neg h128']; exact h
    ·have h128' := of_decide_eq_true h128
     simp -implicitDefEqProofs -dsimp only [go_sem, seval, d4, d5, d6, h128]
     rcases h00 : decide (y.toNat = 0) with _ | _
     ·simp -implicitDefEqProofs -dsimp only [go_sem, seval, d4, d5, d6, h128, h00, decide_true, decide_false]
      rw [O8 (by omega)]
      exact h2 _ _ (by rw [hdec, if_pos h128', if_neg (fun h => of_decide_eq_false h00 h.1)])
     ·rcases hk0 : decide (0 < k) with _ | _
      ·simp -implicitDefEqProofs -dsimp only [go_sem, seval, d4, d5, d6, h128, h00, hk0, decide_true, decide_false]
       rw [O8 (by omega)]
       exact h2 _ _ (by rw [hdec, if_pos h128', if_neg (fun h => of_decide_eq_false hk0 h.2)])
      ·simp -implicitDefEqProofs -dsimp only [go_sem, seval, d4, d5, d6, h128, h00, hk0, decide_true, decide_false]
       exact h0 (by rw [hdec, if_pos h128', if_pos ⟨of_decide_eq_true h00, of_decide_eq_true hk0⟩])
  by_cases hok : 9 < k \/ (k = 9 /\ 1 < y.toNat)
  ·obtain ⟨rfl, h1⟩ : k = 9 /\ 1 < y.toNat := by omega
   refine Q1 (l := q4t) rfl hR ?_
   unfold q5y
   have t1 : decide (1 < y.toNat) = true := decide_eq_true h1
   simp -implicitDefEqProofs -dsimp only [go_sem, Nat.reduceEqDiff, Nat.reduceAdd, Nat.reduceMul, Nat.reduceSub, Nat.reduceLT, Nat.reduceLeDiff, Nat.reduceBEq, reduceIte, reduceCtorEq, Int.reduceLT, Int.reduceLE, Int.reduceEq, Int.reduceNeg, Int.reduceToNat, Int.reduceAdd, Int.reduceSub, bts, Int.ofNat_lt, hlt, Int.natCast_nonneg, Int.toNat_natCast, hat, w7, d1, d2, d3, decide_true, decide_false, t1]
   exact h0 (by simp [dec, h1])
  ·exact fin hok
def qmo (b : List UInt8) : Nat × Nat := match dec 0 0 b with
 | some r => r
 | none => (0, 0)
theorem qz7 (b : List UInt8) (c : Option Nat) (hl : Len b.length) : PCalls prog q7g [bts b c] (.tup [.i .u64 (qmo b).1, .i .i64 (qmo b).2]) := by
 refine K6 U1 qmj (by simp) fun T => ?_
 unfold qee
 cases hd : dec 0 0 b with
 | none =>
  have e : qmo b = (0, 0) := by unfold qmo; rw [hd]
  rw [e]
  simp -implicitDefEqProofs -dsimp only [go_sem, seval, bts]
  refine qqu (T := T) (by repeat' (first | exact O6 _ _ | assumption | apply O5 | apply N4 | apply V8)) hl b 0 0 rfl (by omega) (by omega) (by decide) (fun _ => ?_) (fun _ a => ?_) (fun n z h => by rw [hd] at h; cases h)
  ·simp -implicitDefEqProofs -dsimp only [go_sem, seval]
   exact J9 rfl
  ·simp -implicitDefEqProofs -dsimp only [go_sem, seval]
   exact J9 rfl
 | some r =>
  have e : qmo b = r := by unfold qmo; rw [hd]
  obtain ⟨n, z⟩ := r
  rw [e]
  simp -implicitDefEqProofs -dsimp only [go_sem, seval, bts]
  refine qqu (T := T) (by repeat' (first | exact O6 _ _ | assumption | apply O5 | apply N4 | apply V8)) hl b 0 0 rfl (by omega) (by omega) (by decide) (fun h => by rw [hd] at h; cases h) (fun h a => by rw [hd] at h; cases h) (fun n' z' h => ?_)
  rw [hd] at h
  injection h with h; injection h with h1 h2
  subst h1; subst h2
  simp -implicitDefEqProofs -dsimp only [go_sem, seval]
  exact J9 rfl
theorem z29 {k : Nat} {s : RS} (h : s.2 = false) : K3 k s = if (qmo s.1).2 = 0 \/ k < (qmo s.1).1 then (0, (s.1, true)) else ((qmo s.1).1, (s.1.drop (qmo s.1).2, false)) := by
 unfold K3 qmo
 rw [if_neg (by rw [h]; decide)]
 cases hd : dec 0 0 s.1 with
 | none => simp
 | some r =>
  obtain ⟨n, z⟩ := r
  obtain ⟨h1, h2, _⟩ := qud hd
  have hz : z ≠ 0 := by
   have := List.length_pos_iff.2 (z9v n)
   omega
  simp only [hz, false_or]
  by_cases hk : n <= k
  ·rw [if_pos hk, if_neg (by omega)]
  ·rw [if_neg hk, if_pos (by omega)]
theorem z5o (b : List UInt8) : (qmo b).2 <= b.length /\ (qmo b).1 < 18446744073709551616 := by
 unfold qmo
 cases hd : dec 0 0 b with
 | none => simp
 | some r =>
  obtain ⟨n, z⟩ := r
  obtain ⟨h1, h2, h3, h4⟩ := qud hd
  exact ⟨h2, h4⟩
theorem qst {T : Tab} {id : Nat} {s : RS} (k : Nat) (hl : Len s.1.length) : ACalls prog q12 [.ptr id 0, .i .u64 k] (rT T id s) (fun v T' => v = .i .u64 (K3 k s).1 /\ T' = rT T id (K3 k s).2) := by
 refine U7 U1 qf9 (by simp) ?_
 unfold q8y
 obtain ⟨b, bad⟩ := s
 have hd := z5o b
 cases bad with
 | true =>
  rw [qyb rfl]
  simp -implicitDefEqProofs -dsimp only [go_sem, seval, ↓J0 _ _ U4]
  refine can qup ?_
  simp -implicitDefEqProofs -dsimp only [go_sem, seval]
  exact J9 rfl
 | false =>
  rw [z29 rfl]
  simp -implicitDefEqProofs -dsimp only [go_sem, seval, ↓J0 _ _ U4]
  refine can qup ?_
  simp -implicitDefEqProofs -dsimp only [go_sem, seval, qqt, ↓J0 _ _ qmk]
  refine cpn (qz7 b none hl) ?_
  have d1 : decide (((qmo b).2 : Int) = 0) = decide ((qmo b).2 = 0) := decide_eq_decide.2 (by omega)
  have d2 : decide ((k : Int) < ((qmo b).1 : Int)) = decide (k < (qmo b).1) := decide_eq_decide.2 (by omega)
  rcases h1 : decide ((qmo b).2 = 0) with _ | _
  ·rcases h2 : decide (k < (qmo b).1) with _ | _
   ·simp -implicitDefEqProofs -dsimp only [go_sem, seval, d1, d2, h1, h2, ↓J0 _ _ q92]
    refine can (qz5 (qmo b).2 hd.1) ?_
    simp -implicitDefEqProofs -dsimp only [go_sem, seval]
    rw [if_neg (by have := of_decide_eq_false h1; have := of_decide_eq_false h2; omega)]
    exact J9 rfl
   ·simp -implicitDefEqProofs -dsimp only [go_sem, seval, d1, d2, h1, h2, ↓J0 _ _ q31]
    refine can qjl ?_
    simp -implicitDefEqProofs -dsimp only [go_sem, seval]
    rw [if_pos (.inr (of_decide_eq_true h2))]
    exact J9 rfl
  ·simp -implicitDefEqProofs -dsimp only [go_sem, seval, d1, d2, h1, ↓J0 _ _ q31]
   refine can qjl ?_
   simp -implicitDefEqProofs -dsimp only [go_sem, seval]
   rw [if_pos (.inl (of_decide_eq_true h1))]
   exact J9 rfl
theorem zfm {T : Tab} {id : Nat} {s : RS} (hl : Len s.1.length) : ACalls prog Z3 [.ptr id 0] (rT T id s) (fun v T' => v = .i .u64 (K3 18446744073709551615 s).1 /\ T' = rT T id (K3 18446744073709551615 s).2) := by
 refine U7 U1 qj6 (by simp) ?_
 unfold qbx
 simp -implicitDefEqProofs -dsimp only [go_sem, seval, ↓J0 _ _ q68]
 refine can (qst 18446744073709551615 hl) ?_
 simp -implicitDefEqProofs -dsimp only [go_sem, seval]
 exact J9 rfl
theorem z3t {T : Tab} {id : Nat} {s : RS} (k : Nat) (hk : k < 9223372036854775808) (hl : Len s.1.length) : ACalls prog K7 [.ptr id 0, .i .i64 k] (rT T id s) (fun v T' => v = .i .i64 (K3 k s).1 /\ T' = rT T id (K3 k s).2) := by
 refine U7 U1 qg8 (by simp) ?_
 have d : decide ((k : Int) < 0) = false := decide_eq_false (by omega)
 have hle := q24 k s
 have w : IntKind.i64.wrap ((K3 k s).1 : Int) = (K3 k s).1 := q0c (by unfold I64; omega)
 unfold q9h
 simp -implicitDefEqProofs -dsimp only [go_sem, seval, d, q0q (n := k) (by omega), ↓J0 _ _ q68]
 refine can (qst k hl) ?_
 simp -implicitDefEqProofs -dsimp only [go_sem, seval, w]
 exact J9 rfl
theorem z5p {T : Tab} {id : Nat} {s : RS} (hl : Len s.1.length) : ACalls prog I9 [.ptr id 0] (rT T id s) (fun v T' => v = .b (decide ((K3 1 s).1 = 1)) /\ T' = rT T id (K3 1 s).2) := by
 refine U7 U1 qfb (by simp) ?_
 have d : decide (((K3 1 s).1 : Int) = 1) = decide ((K3 1 s).1 = 1) := decide_eq_decide.2 (by omega)
 unfold q8z
 simp -implicitDefEqProofs -dsimp only [go_sem, seval, ↓J0 _ _ q68]
 refine can (qst 1 hl) ?_
 simp -implicitDefEqProofs -dsimp only [go_sem, seval, d]
 exact J9 rfl
theorem qbo : ∀ (l : List UInt8), q7v (K8 l) = some l
 | [] => rfl
 | b :: l => by
  have ih := qbo l
  simp only [K8, List.map_cons, q7v, qpg] at ih ⊢
  rw [ih]
  simp
theorem z2a {T : Tab} {id : Nat} {s : RS} (k : Nat) (hk : k < 9223372036854775808) (hl : Len s.1.length) : ACalls prog Y7 [.ptr id 0, .i .i64 k] (rT T id s) (fun v T' => v = .s (q1q k s).1 /\ T' = rT T id (q1q k s).2) := by
 refine U7 U1 qfd (by simp) ?_
 unfold q90
 simp -implicitDefEqProofs -dsimp only [go_sem, seval, ↓J0 _ _ N2]
 refine can (z3t k hk hl) ?_
 simp -implicitDefEqProofs -dsimp only [go_sem, seval, ↓J0 _ _ U4]
 refine can qup ?_
 unfold q1q
 rcases h1 : (K3 k s).2.2 with _ | _
 ·have d : decide (((K3 k s).2.1.length : Int) < ((K3 k s).1 : Int)) = decide ((K3 k s).2.1.length < (K3 k s).1) := decide_eq_decide.2 (by omega)
  rcases h2 : decide ((K3 k s).2.1.length < (K3 k s).1) with _ | _
  ·have h2' := of_decide_eq_false h2
   have e : ((K3 k s).2.1.take (K3 k s).1).length = (K3 k s).1 := by rw [List.length_take]; omega
   simp -implicitDefEqProofs -dsimp only [go_sem, seval, h1, qqt, bts, d, h2, ↓J0 _ _ q92]
   refine can (qz5 (K3 k s).1 (by omega)) ?_
   rw [if_neg (by rintro (h | h); exact absurd h (by decide); exact h2' h)]
   simp -implicitDefEqProofs -dsimp only [go_sem, seval, bts, e, Y2, qbo, h1]
   exact J9 rfl
  ·simp -implicitDefEqProofs -dsimp only [go_sem, seval, h1, qqt, bts, d, h2, ↓J0 _ _ q31]
   refine can qjl ?_
   simp -implicitDefEqProofs -dsimp only [go_sem, seval]
   rw [if_pos (.inr (of_decide_eq_true h2))]
   exact J9 rfl
 ·simp -implicitDefEqProofs -dsimp only [go_sem, seval, h1, ↓J0 _ _ q31]
  refine can qjl ?_
  simp -implicitDefEqProofs -dsimp only [go_sem, seval]
  rw [if_pos (by simp)]
  exact J9 rfl
theorem qgu (xs : List UInt8) (cap : Option Nat) (hn : xs.length <= 1000000000) : PCalls prog Q4 [bts xs cap] (bts xs none) := by
 refine K6 U1 q1f (by simp) fun T => ?_
 unfold q0f
 have main : ∀ K : AV -> Tab -> Prop, (∀ v T', Own T 1 v xs.length (K8 xs) T' -> K v T') -> q1k 1 1 T (.fz 0 [] (some 0)) (.fz xs.length (K8 xs) cap) K := fun K hK =>
  (Own.nil T 1).app (m := xs.length) (news := K8 xs) (by simp [Z4, Y2]) rfl (by omega) (by omega) (by simpa using hK)
 simp -implicitDefEqProofs -dsimp only [go_sem, seval, bts, qxx]
 split
 ·refine main _ fun v T' h => ?_
  refine J1 ?_
  obtain ⟨q1, q2, q3, q4, q5, q6⟩ := h.form
  simp -implicitDefEqProofs -dsimp only [go_sem, seval, q1]
  exact h.fzn
 ·rename_i h0
  have e : xs = [] := List.length_eq_zero_iff.1 (by omega)
  subst e
  intro b
  refine K0 (fun h => ?_) (fun h => ?_) <;> simp -implicitDefEqProofs -dsimp only [go_sem, seval]
  ·exact (Own.nil T 1).fzn
  ·refine main _ fun v T' h => ?_
   refine J1 ?_
   obtain ⟨q1, q2, q3, q4, q5, q6⟩ := h.form
   simp -implicitDefEqProofs -dsimp only [go_sem, seval, q1]
   exact h.fzn
theorem z3u {T : Tab} (b : List UInt8) (cap : Option Nat) (hl : b.length <= 1000000000) : ACalls prog q8k [bts b cap] T (fun v T' => ∃ id, v = .ptr id 0 /\ T id = .unused /\ T' = rT T id (b, false)) := by
 refine U7 U1 qs4 (by simp) ?_
 unfold qkm
 simp -implicitDefEqProofs -dsimp only [go_sem, seval, ↓J0 _ _ Z5]
 refine cpn (qgu b cap hl) ?_
 simp -implicitDefEqProofs -dsimp only [go_sem, seval, bts]
 intro id hid
 refine J1 ?_
 simp -implicitDefEqProofs -dsimp only [go_sem, seval]
 exact Y3 _ (fun _ => .inr (.inl rfl)) ⟨id, rfl, hid, rfl⟩
theorem qlf {T : Tab} {id : Nat} {s : RS} (h : T id = q69 s) : rT T id s = T := Tab.put_self h
theorem q4i {T : Tab} {id : Nat} {s : RS} : rT T id s id = q69 s := Tab.put_same ..
section
variable {T : Tab} {id : Nat} {s : RS}
theorem qd7 (h : T id = q69 s) : ACalls prog Q8 [.ptr id 0] T (fun v T' => v = .b s.2 /\ T' = T) := by
 have := qup (T := T) (id := id) (s := s); rwa [qlf h] at this
theorem q45 (h : T id = q69 s) (k : Nat) (hk : k < 9223372036854775808) (hl : Len s.1.length) : ACalls prog K7 [.ptr id 0, .i .i64 k] T (fun v T' => v = .i .i64 (K3 k s).1 /\ T' = rT T id (K3 k s).2) := by
 have := z3t (T := T) (id := id) (s := s) k hk hl; rw [qlf h] at this; exact this
theorem z3v (h : T id = q69 s) (hl : Len s.1.length) : ACalls prog Z3 [.ptr id 0] T (fun v T' => v = .i .u64 (K3 18446744073709551615 s).1 /\ T' = rT T id (K3 18446744073709551615 s).2) := by
 have := zfm (T := T) (id := id) (s := s) hl; rw [qlf h] at this; exact this
theorem qor (h : T id = q69 s) (hl : Len s.1.length) : ACalls prog I9 [.ptr id 0] T (fun v T' => v = .b (decide ((K3 1 s).1 = 1)) /\ T' = rT T id (K3 1 s).2) := by
 have := z5p (T := T) (id := id) (s := s) hl; rw [qlf h] at this; exact this
theorem qhm (h : T id = q69 s) (k : Nat) (hk : k < 9223372036854775808) (hl : Len s.1.length) : ACalls prog Y7 [.ptr id 0, .i .i64 k] T (fun v T' => v = .s (q1q k s).1 /\ T' = rT T id (q1q k s).2) := by
 have := z2a (T := T) (id := id) (s := s) k hk hl; rw [qlf h] at this; exact this
end
theorem Own.rd {B T1 : Tab} {id z n : Nat} {v : AV} {xs : List AV} {s : RS} (h : Own (rT B id s) z v n xs T1) (s' : RS) : Own (rT B id s') z v n xs (rT T1 id s') := by
 have hB : rT B id s id ≠ .unused := by rw [q4i]; simp [q69]
 obtain ⟨T0, h1, h2⟩ := Owns.base_put (s := q69 s') hB (Owns.one h)
 have e : T0 = rT B id s' := by
  rw [show T0 = (rT B id s).put id (q69 s') from h1]; exact Tab.put_put ..
 rw [e] at h2
 exact h2
theorem Own.rdAt {B T1 : Tab} {id z n : Nat} {v : AV} {xs : List AV} {s : RS} (h : Own (rT B id s) z v n xs T1) : T1 id = q69 s := by
 rw [h.at (by rw [q4i]; simp [q69]), q4i]
theorem Owns.rd {B T1 : Tab} {id : Nat} {l : List Ow} {s : RS} (h : Owns (rT B id s) l T1) (s' : RS) : Owns (rT B id s') l (rT T1 id s') := by
 have hB : rT B id s id ≠ .unused := by rw [q4i]; simp [q69]
 have := Owns.base_put (s := q69 s') hB h
 rw [show (rT B id s).put id (q69 s') = rT B id s' from Tab.put_put ..] at this
 exact this
theorem Owns.rdAt {B T1 : Tab} {id : Nat} {l : List Ow} {s : RS} (h : Owns (rT B id s) l T1) : T1 id = q69 s := by
 rw [Owns.base_get (by rw [q4i]; simp [q69]) h, q4i]
end Go.Aw
namespace Go.Aw
open Go
open Go.Proofs.Tryz (prog)
set_option linter.all false
set_option maxHeartbeats 4000000
def qd8 (r : Rd) : List UInt8 := qd5 r.k ++ enc r.n.toNat
def qe6 (w : Wt) : List UInt8 := qd5 w.k ++ qd5 w.v ++ [qvm w.g]
def qgv (t : Tx) : List UInt8 := enc t.cl.toNat ++ enc t.sq.toNat ++ [qvm t.pl] ++ enc t.rs.length ++ t.rs.flatMap qd8 ++ enc t.ws.length ++ t.ws.flatMap qe6
structure Tx.Good (t : Tx) : Prop where
 cl : 0 <= t.cl /\ t.cl < 6
 sq : 0 < t.sq /\ t.sq < 18446744073709551616
 r : t.rs.length <= 8
 w : t.ws.length <= 8
 rr : ∀ r ∈ t.rs, r.k.length <= 32 /\ 0 <= r.n /\ r.n < 18446744073709551616
 ww : ∀ w ∈ t.ws, w.k.length <= 32 /\ w.v.length <= 64
def rID (s : RS) : (Nat × Nat) × RS := (((K3 5 s).1, (K3 18446744073709551615 (K3 5 s).2).1), (K3 18446744073709551615 (K3 5 s).2).2)
def rRd (s : RS) : Rd × RS := (⟨(q1q 32 s).1, (K3 18446744073709551615 (q1q 32 s).2).1⟩, (K3 18446744073709551615 (q1q 32 s).2).2)
def rWt (s : RS) : Wt × RS := (⟨(q1q 32 s).1, (q1q 64 (q1q 32 s).2).1, decide ((K3 1 (q1q 64 (q1q 32 s).2).2).1 = 1)⟩, (K3 1 (q1q 64 (q1q 32 s).2).2).2)
def rTx (s : RS) : Tx × RS :=
 let a := rID s
 let p := K3 1 a.2
 let n := K3 8 p.2
 let rs := Y1 rRd n.1 n.2
 let m := K3 8 rs.2
 let ws := Y1 rWt m.1 m.2
 (⟨a.1.1, a.1.2, decide (p.1 = 1), rs.1, ws.1⟩, ws.2)
theorem z5q {r : Rd} (h : r.k.length <= 32 /\ 0 <= r.n /\ r.n < 18446744073709551616) (rest : List UInt8) : rRd (qd8 r ++ rest, false) = (r, (rest, false)) := by
 obtain ⟨h1, h2, h3⟩ := h
 have e : qd8 r ++ rest = enc r.k.length ++ r.k ++ (enc r.n.toNat ++ rest) := by simp [qd8, qd5]
 unfold rRd
 rw [e, qa8 h1 (by omega)]
 simp only [Q9 (show r.n.toNat <= 18446744073709551615 by omega) (by omega)]
 rw [show ((r.n.toNat : Nat) : Int) = r.n by omega]
theorem z5r {w : Wt} (h : w.k.length <= 32 /\ w.v.length <= 64) (rest : List UInt8) : rWt (qe6 w ++ rest, false) = (w, (rest, false)) := by
 obtain ⟨h1, h2⟩ := h
 have e : qe6 w ++ rest = enc w.k.length ++ w.k ++ (enc w.v.length ++ w.v ++ (enc (if w.g = true then 1 else 0) ++ rest)) := by simp [qe6, qd5, qhb]
 unfold rWt
 rw [e, qa8 h1 (by omega)]
 simp only [qa8 h2 (show w.v.length < _ by omega)]
 rw [Q9 (by split <;> omega) (by split <;> omega)]
 obtain ⟨k, v, g⟩ := w
 cases g <;> simp
theorem qsu {t : Tx} (h : t.Good) (rest : List UInt8) : rTx (qgv t ++ rest, false) = (t, (rest, false)) := by
 obtain ⟨hcl, hsq, hr, hw, hrr, hww⟩ := h
 have e : qgv t ++ rest = enc t.cl.toNat ++ (enc t.sq.toNat ++ (enc (if t.pl = true then 1 else 0) ++ (enc t.rs.length ++ (t.rs.flatMap qd8 ++ (enc t.ws.length ++ (t.ws.flatMap qe6 ++ rest)))))) := by simp [qgv, qhb]
 unfold rTx rID
 rw [e, Q9 (by omega) (by omega)]
 simp only [Q9 (show t.sq.toNat <= 18446744073709551615 by omega) (by omega)]
 rw [Q9 (by split <;> omega) (by split <;> omega)]
 simp only [Q9 hr (show t.rs.length < _ by omega)]
 rw [qci (g := qd8) (ok := fun r => r.k.length <= 32 /\ 0 <= r.n /\ r.n < 18446744073709551616) (fun x rest h => z5q h rest) t.rs _ hrr]
 simp only [Q9 hw (show t.ws.length < _ by omega)]
 rw [qci (g := qe6) (ok := fun w => w.k.length <= 32 /\ w.v.length <= 64) (fun x rest h => z5r h rest) t.ws _ hww]
 obtain ⟨cl, sq, pl, rs, ws⟩ := t
 simp only at hcl hsq ⊢
 rw [show ((cl.toNat : Nat) : Int) = cl by omega, show ((sq.toNat : Nat) : Int) = sq by omega]
 cases pl <;> rfl
end Go.Aw
