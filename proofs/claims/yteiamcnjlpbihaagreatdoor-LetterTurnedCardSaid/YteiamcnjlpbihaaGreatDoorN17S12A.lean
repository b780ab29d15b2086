import Derived.Test.YteiamcnjlpbihaaGreatDoorN17E12R
import Derived.Test.YteiamcnjlpbihaaGreatDoorAwD
namespace Go.Aw
open Go
open Go.Proofs.Tryz (prog)
set_option linter.all false
set_option maxHeartbeats 4000000
def q81 (s : RS) : Slot := .row 2 [bts s.1 none, .b s.2]
def rT (T : Tab) (id : Nat) (s : RS) : Tab := T.put id (q81 s)
theorem qtu {T : Tab} {id : Nat} {s : RS} : rT T id s id = .row 2 [bts s.1 none, .b s.2] := Tab.put_same ..
theorem qg1 {T : Tab} {id : Nat} {s s' : RS} : rT (rT T id s) id s' = rT T id s' := Tab.put_put ..
theorem qx5 {T : Tab} {id : Nat} {s : RS} : ACalls prog U6 [.ptr id 0] (rT T id s) (fun v T' => v = .b s.2 /\ T' = rT T id s) := by
 refine q06 U7 qk0 (by simp) ?_
 unfold qc0
 simp -implicitDefEqProofs -dsimp only [go_sem, seval, qtu]
 exact J9 rfl
theorem qmo {T : Tab} {id : Nat} {s : RS} : ACalls prog q19 [.ptr id 0] (rT T id s) (fun v T' => v = .tup [] /\ T' = rT T id (s.1, true)) := by
 refine q06 U7 qhi (by simp) ?_
 unfold qao
 simp -implicitDefEqProofs -dsimp only [go_sem, seval, qtu]
 refine q2m (q := 2) (cells := [bts s.1 none, .b s.2]) qtu rfl rfl (by simp) (J1 ?_)
 simp -implicitDefEqProofs -dsimp only [go_sem, seval]
 refine qfc (.refl _) ?_
 unfold rT
 rw [Tab.put_put]
 rfl
theorem q9k (l : List UInt8) (k : Nat) : (O5 l).take k = O5 (l.take k) := by simp [O5, List.map_take]
theorem qcj (l : List UInt8) (k : Nat) : (O5 l).drop k = O5 (l.drop k) := by simp [O5, List.map_drop]
theorem z1n {T : Tab} {id : Nat} {s : RS} (n : Nat) (hn : n <= s.1.length) : ACalls prog q2x [.ptr id 0, .i .i64 n] (rT T id s) (fun v T' => v = bts (s.1.take n) (some n) /\ T' = rT T id (s.1.drop n, s.2)) := by
 refine q06 U7 qj0 (by simp) ?_
 have e1 : (s.1.take n).length = n := by rw [List.length_take]; omega
 have e2 : (s.1.drop n).length = s.1.length - n := List.length_drop
 have e3 : (s.1.drop n).take (s.1.length - n) = s.1.drop n := List.take_of_length_le (by omega)
 unfold qbj
 simp -implicitDefEqProofs -dsimp only [go_sem, seval, qtu, bts, hn, Nat.zero_le, Nat.le_refl, Int.natCast_nonneg, Int.toNat_natCast, Option.isSome_some, q9k, qcj, e3]
 refine q2m (q := 2) (cells := [bts s.1 none, .b s.2]) qtu rfl rfl (by simp) (J1 ?_)
 simp -implicitDefEqProofs -dsimp only [go_sem, seval]
 refine qfc (by rw [bts, e1]; exact .refl _) ?_
 unfold rT q81
 rw [Tab.put_put, bts, e2]
theorem z1o (y : UInt8) : IntKind.u8.wrap ((BitVec.ofInt IntKind.u8.bits (y.toNat : Int) &&& BitVec.ofInt IntKind.u8.bits 127).toNat : Nat) = ((y.toNat % 128 : Nat) : Int) := by
 have h := zc4 ⟨y.toNat, y.toNat_lt⟩
 simp only at h
 rw [show IntKind.u8.bits = 8 from rfl, h, qnc]
 omega
theorem zhp {c k : Nat} (h : c * 128 ^ k < 18446744073709551616) (hk : k <= 9) (hc : c < 128) : IntKind.u64.wrap (IntKind.u64.wrap (c : Int) * 2 ^ (min ((7 * k : Nat) : Int).toNat 64)) = ((c * 128 ^ k : Nat) : Int) := by
 rw [q18 (n := c) (by omega), Int.toNat_natCast, Nat.min_eq_left (by omega)]
 have e : ((c : Int) * 2 ^ (7 * k)) = ((c * 128 ^ k : Nat) : Int) := by rw [z67]; push_cast; rfl
 rw [e, q18 h]
theorem z87 {a c k : Nat} (ha : a < 128 ^ k) (h : a + c * 128 ^ k < 18446744073709551616) : IntKind.u64.wrap ((BitVec.ofInt IntKind.u64.bits (a : Int) ||| BitVec.ofInt IntKind.u64.bits ((c * 128 ^ k : Nat) : Int)).toNat : Nat) = ((a + c * 128 ^ k : Nat) : Int) := by
 have e : (BitVec.ofInt IntKind.u64.bits (a : Int) ||| BitVec.ofInt IntKind.u64.bits ((c * 128 ^ k : Nat) : Int)).toNat = a + c * 128 ^ k := by
  show (BitVec.ofInt 64 (a : Int) ||| BitVec.ofInt 64 ((c * 128 ^ k : Nat) : Int)).toNat = _
  rw [BitVec.toNat_or, BitVec.ofInt_natCast, BitVec.ofInt_natCast, BitVec.toNat_ofNat, BitVec.toNat_ofNat, Nat.mod_eq_of_lt (by omega), Nat.mod_eq_of_lt (by omega)]
  rw [z67] at ha ⊢
  have := Nat.two_pow_add_eq_or_of_lt ha c
  rw [Nat.or_comm, Nat.mul_comm c, <- this, Nat.add_comm]
 rw [e, q18 h]
theorem zcl {a c k : Nat} (ha : a < 128 ^ k) (hc : c < 128) (h : k <= 8 \/ (k = 9 /\ c <= 1)) : a + c * 128 ^ k < 18446744073709551616 := by
 rcases h with h | ⟨rfl, h⟩
 ·have h8 : 128 ^ k <= 128 ^ 8 := Nat.pow_le_pow_right (by decide) h
  have h88 : (128 : Nat) ^ 8 = 72057594037927936 := by decide
  have : c * 128 ^ k <= 127 * 128 ^ k := Nat.mul_le_mul_right _ (by omega)
  omega
 ·have : (128 : Nat) ^ 9 = 9223372036854775808 := by decide
  rw [this] at ha ⊢
  omega
theorem qtv {R : Z1} (hR : ExtR R) {T : Tab} {b : List UInt8} {cap : Option Nat} (hl : Len b.length) : ∀ (ys : List UInt8) (k a : Nat), b.drop k = ys -> k <= b.length -> k <= 9 -> a < 128 ^ k ->
  (dec k a ys = none -> R .ret [(2, .i .u64 0), (3, .i .i64 0)] [] T) -> (dec k a ys = none -> ∀ a, R (.exit 0) [(4, .i .u64 a), (8, bts b cap), (9, .i .i64 b.length), (10, .i .i64 b.length), (11, .b false)] [] T) ->
  (∀ n z, dec k a ys = some (n, z) -> R .ret [(2, .i .u64 n), (3, .i .i64 z)] [] T) ->
  AW prog q6r R [(4, .i .u64 a), (8, bts b cap), (9, .i .i64 b.length), (10, .i .i64 k)] [] T := by
 intro ys
 induction ys with
 | nil =>
  intro k a hk hle h9 ha h0 hE h2
  have hk' := U3 hk hle
  refine U1 hR ?_
  unfold q7s
  simp -implicitDefEqProofs -dsimp only [go_sem, seval, hk', Int.lt_irrefl]
  have := hE rfl a
  rw [hk'] at this
  exact this
 | cons y ys ih =>
  intro k a hk hle h9 ha h0 hE h2
  obtain ⟨hlt, hy, hk'⟩ := U9 hk
  unfold Len at hl
  have hat : ((O5 b).drop k)[0]? = some (.i .u8 y.toNat) := by simp [O5, hy]
  have w7 : IntKind.i64.wrap (7 * (k : Int)) = ((7 * k : Nat) : Int) := by rw [q13 (by unfold I64; omega)]; omega
  have d1 : decide ((63 : Int) < ((7 * k : Nat) : Int)) = false := decide_eq_false (by omega)
  have d2 : decide (((7 * k : Nat) : Int) = 63) = decide (k = 9) := decide_eq_decide.2 (by omega)
  have d3 : decide ((1 : Int) < (y.toNat : Int)) = decide (1 < y.toNat) := decide_eq_decide.2 (by omega)
  have d4 : decide ((y.toNat : Int) < 128) = decide (y.toNat < 128) := decide_eq_decide.2 (by omega)
  have d5 : decide ((y.toNat : Int) = 0) = decide (y.toNat = 0) := decide_eq_decide.2 (by omega)
  have d6 : decide ((0 : Int) < (k : Int)) = decide (0 < k) := decide_eq_decide.2 (by omega)
  have hp0 : (((7 * k : Nat) : Int) < 0) = False := eq_false (Int.not_lt.2 (Int.natCast_nonneg _))
  have fin : ¬ (9 < k \/ (k = 9 /\ 1 < y.toNat)) -> AW prog q6r R [(4, .i .u64 a), (8, bts b cap), (9, .i .i64 b.length), (10, .i .i64 k)] [] T := by
   intro hok
   have hdec : dec k a (y :: ys) = if y.toNat < 128 then (if y.toNat = 0 /\ 0 < k then none else some (a + y.toNat % 128 * 128 ^ k, k + 1)) else dec (k + 1) (a + y.toNat % 128 * 128 ^ k) ys := by simp only [dec]; rw [if_neg hok]
   have hlow : k <= 8 \/ (k = 9 /\ y.toNat % 128 <= 1) := by omega
   have hm := Nat.mod_lt y.toNat (show 0 < 128 by decide)
   have hacc := zcl ha hm hlow
   have e1 := zhp (c := y.toNat % 128) (k := k) (by omega) h9 hm
   have e2 := z87 ha hacc
   have hb : decide (k = 9) = false \/ (decide (k = 9) = true /\ decide (1 < y.toNat) = false) := by
    by_cases h : k = 9
    ·exact .inr ⟨decide_eq_true h, decide_eq_false (fun h1 => hok (.inr ⟨h, h1⟩))⟩
    ·exact .inl (decide_eq_false h)
   refine O4 (l := q6r) rfl hR ?_
   unfold q7s
   simp -implicitDefEqProofs -dsimp only [go_sem, seval, bts, Int.ofNat_lt, hlt, Int.natCast_nonneg, Int.toNat_natCast, hat, w7, d1, d2, d3]
   rcases hb with hb | ⟨hb, hb2⟩
   all_goals
    simp -implicitDefEqProofs -dsimp only [go_sem, seval, hb, d2, d3, decide_true, decide_false, z1o]
    try simp -implicitDefEqProofs -dsimp only [go_sem, seval, hb2, d2, d3, decide_true, decide_false, z1o]
    simp -implicitDefEqProofs -dsimp only [go_sem, seval, hp0, e1, e2, d4]
    rcases h128 : decide (y.toNat < 128) with _ | _
    ·simp -implicitDefEqProofs -dsimp only [go_sem, seval, d4, h128]
     rw [N6 (by omega)]
     have h128' := of_decide_eq_false h128
     have hk9 : k ≠ 9 := by omega
     refine ih (k + 1) _ hk' hlt (by omega) ?_ (fun h => h0 (by rw [hdec, if_neg h128']; exact h)) (fun h => hE (by rw [hdec, if_neg h128']; exact h)) fun n z h => h2 n z ?_
     ·rw [Nat.pow_succ]
      have : y.toNat % 128 * 128 ^ k <= 127 * 128 ^ k := Nat.mul_le_mul_right _ (by omega)
      omega
     ·rw [hdec, if_neg h128']; exact h
    ·have h128' := of_decide_eq_true h128
     simp -implicitDefEqProofs -dsimp only [go_sem, seval, d4, d5, d6, h128]
     rcases h00 : decide (y.toNat = 0) with _ | _
     ·simp -implicitDefEqProofs -dsimp only [go_sem, seval, d4, d5, d6, h128, h00, decide_true, decide_false]
      rw [N6 (by omega)]
      exact h2 _ _ (by rw [hdec, if_pos h128', if_neg (fun h => of_decide_eq_false h00 h.1)])
     ·rcases hk0 : decide (0 < k) with _ | _
      ·simp -implicitDefEqProofs -dsimp only [go_sem, seval, d4, d5, d6, h128, h00, hk0, decide_true, decide_false]
       rw [N6 (by omega)]
       exact h2 _ _ (by rw [hdec, if_pos h128', if_neg (fun h => of_decide_eq_false hk0 h.2)])
      ·simp -implicitDefEqProofs -dsimp only [go_sem, seval, d4, d5, d6, h128, h00, hk0, decide_true, decide_false]
       exact h0 (by rw [hdec, if_pos h128', if_pos ⟨of_decide_eq_true h00, of_decide_eq_true hk0⟩])
  by_cases hok : 9 < k \/ (k = 9 /\ 1 < y.toNat)
  ·obtain ⟨rfl, h1⟩ : k = 9 /\ 1 < y.toNat := by omega
   refine O4 (l := q6r) rfl hR ?_
   unfold q7s
   have t1 : decide (1 < y.toNat) = true := decide_eq_true h1
   simp -implicitDefEqProofs -dsimp only [go_sem, Nat.reduceEqDiff, Nat.reduceAdd, Nat.reduceMul, Nat.reduceSub, Nat.reduceLT, Nat.reduceLeDiff, Nat.reduceBEq, reduceIte, reduceCtorEq, Int.reduceLT, Int.reduceLE, Int.reduceEq, Int.reduceNeg, Int.reduceToNat, Int.reduceAdd, Int.reduceSub, bts, Int.ofNat_lt, hlt, Int.natCast_nonneg, Int.toNat_natCast, hat, w7, d1, d2, d3, decide_true, decide_false, t1]
   exact h0 (by simp [dec, h1])
  ·exact fin hok
def qp7 (b : List UInt8) : Nat × Nat := match dec 0 0 b with
 | some r => r
 | none => (0, 0)
theorem z1p (b : List UInt8) (c : Option Nat) (hl : Len b.length) : PCalls prog q9j [bts b c] (.tup [.i .u64 (qp7 b).1, .i .i64 (qp7 b).2]) := by
 refine K6 U7 qp2 (by simp) fun T => ?_
 unfold qhu
 cases hd : dec 0 0 b with
 | none =>
  have e : qp7 b = (0, 0) := by unfold qp7; rw [hd]
  rw [e]
  simp -implicitDefEqProofs -dsimp only [go_sem, seval, bts]
  refine qtv (T := T) (by repeat' (first | exact N8 _ _ | assumption | apply N7 | apply K8 | apply V0)) hl b 0 0 rfl (by omega) (by omega) (by decide) (fun _ => ?_) (fun _ a => ?_) (fun n z h => by rw [hd] at h; cases h)
  ·simp -implicitDefEqProofs -dsimp only [go_sem, seval]
   exact J9 rfl
  ·simp -implicitDefEqProofs -dsimp only [go_sem, seval]
   exact J9 rfl
 | some r =>
  have e : qp7 b = r := by unfold qp7; rw [hd]
  obtain ⟨n, z⟩ := r
  rw [e]
  simp -implicitDefEqProofs -dsimp only [go_sem, seval, bts]
  refine qtv (T := T) (by repeat' (first | exact N8 _ _ | assumption | apply N7 | apply K8 | apply V0)) hl b 0 0 rfl (by omega) (by omega) (by decide) (fun h => by rw [hd] at h; cases h) (fun h a => by rw [hd] at h; cases h) (fun n' z' h => ?_)
  rw [hd] at h
  injection h with h; injection h with h1 h2
  subst h1; subst h2
  simp -implicitDefEqProofs -dsimp only [go_sem, seval]
  exact J9 rfl
theorem z4w {k : Nat} {s : RS} (h : s.2 = false) : K4 k s = if (qp7 s.1).2 = 0 \/ k < (qp7 s.1).1 then (0, (s.1, true)) else ((qp7 s.1).1, (s.1.drop (qp7 s.1).2, false)) := by
 unfold K4 qp7
 rw [if_neg (by rw [h]; decide)]
 cases hd : dec 0 0 s.1 with
 | none => simp
 | some r =>
  obtain ⟨n, z⟩ := r
  obtain ⟨h1, h2, _⟩ := qwu hd
  have hz : z ≠ 0 := by
   have := List.length_pos_iff.2 (zc5 n)
   omega
  simp only [hz, false_or]
  by_cases hk : n <= k
  ·rw [if_pos hk, if_neg (by omega)]
  ·rw [if_neg hk, if_pos (by omega)]
theorem z88 (b : List UInt8) : (qp7 b).2 <= b.length /\ (qp7 b).1 < 18446744073709551616 := by
 unfold qp7
 cases hd : dec 0 0 b with
 | none => simp
 | some r =>
  obtain ⟨n, z⟩ := r
  obtain ⟨h1, h2, h3, h4⟩ := qwu hd
  exact ⟨h2, h4⟩
theorem qw3 {T : Tab} {id : Nat} {s : RS} (k : Nat) (hl : Len s.1.length) : ACalls prog q1j [.ptr id 0, .i .u64 k] (rT T id s) (fun v T' => v = .i .u64 (K4 k s).1 /\ T' = rT T id (K4 k s).2) := by
 refine q06 U7 qis (by simp) ?_
 unfold qbg
 obtain ⟨b, bad⟩ := s
 have hd := z88 b
 cases bad with
 | true =>
  rw [z0p rfl]
  simp -implicitDefEqProofs -dsimp only [go_sem, seval, ↓J0 _ _ V4]
  refine can qx5 ?_
  simp -implicitDefEqProofs -dsimp only [go_sem, seval]
  exact J9 rfl
 | false =>
  rw [z4w rfl]
  simp -implicitDefEqProofs -dsimp only [go_sem, seval, ↓J0 _ _ V4]
  refine can qx5 ?_
  simp -implicitDefEqProofs -dsimp only [go_sem, seval, qtu, ↓J0 _ _ qp3]
  refine cpn (z1p b none hl) ?_
  have d1 : decide (((qp7 b).2 : Int) = 0) = decide ((qp7 b).2 = 0) := decide_eq_decide.2 (by omega)
  have d2 : decide ((k : Int) < ((qp7 b).1 : Int)) = decide (k < (qp7 b).1) := decide_eq_decide.2 (by omega)
  rcases h1 : decide ((qp7 b).2 = 0) with _ | _
  ·rcases h2 : decide (k < (qp7 b).1) with _ | _
   ·simp -implicitDefEqProofs -dsimp only [go_sem, seval, d1, d2, h1, h2, ↓J0 _ _ qbk]
    refine can (z1n (qp7 b).2 hd.1) ?_
    simp -implicitDefEqProofs -dsimp only [go_sem, seval]
    rw [if_neg (by have := of_decide_eq_false h1; have := of_decide_eq_false h2; omega)]
    exact J9 rfl
   ·simp -implicitDefEqProofs -dsimp only [go_sem, seval, d1, d2, h1, h2, ↓J0 _ _ q4a]
    refine can qmo ?_
    simp -implicitDefEqProofs -dsimp only [go_sem, seval]
    rw [if_pos (.inr (of_decide_eq_true h2))]
    exact J9 rfl
  ·simp -implicitDefEqProofs -dsimp only [go_sem, seval, d1, d2, h1, ↓J0 _ _ q4a]
   refine can qmo ?_
   simp -implicitDefEqProofs -dsimp only [go_sem, seval]
   rw [if_pos (.inl (of_decide_eq_true h1))]
   exact J9 rfl
theorem zhq {T : Tab} {id : Nat} {s : RS} (hl : Len s.1.length) : ACalls prog G6 [.ptr id 0] (rT T id s) (fun v T' => v = .i .u64 (K4 18446744073709551615 s).1 /\ T' = rT T id (K4 18446744073709551615 s).2) := by
 refine q06 U7 qmb (by simp) ?_
 unfold qem
 simp -implicitDefEqProofs -dsimp only [go_sem, seval, ↓J0 _ _ q7z]
 refine can (qw3 18446744073709551615 hl) ?_
 simp -implicitDefEqProofs -dsimp only [go_sem, seval]
 exact J9 rfl
theorem z6c {T : Tab} {id : Nat} {s : RS} (k : Nat) (hk : k < 9223372036854775808) (hl : Len s.1.length) : ACalls prog K9 [.ptr id 0, .i .i64 k] (rT T id s) (fun v T' => v = .i .i64 (K4 k s).1 /\ T' = rT T id (K4 k s).2) := by
 refine q06 U7 qju (by simp) ?_
 have d : decide ((k : Int) < 0) = false := decide_eq_false (by omega)
 have hle := q2y k s
 have w : IntKind.i64.wrap ((K4 k s).1 : Int) = (K4 k s).1 := q13 (by unfold I64; omega)
 unfold qbz
 simp -implicitDefEqProofs -dsimp only [go_sem, seval, d, q18 (n := k) (by omega), ↓J0 _ _ q7z]
 refine can (qw3 k hl) ?_
 simp -implicitDefEqProofs -dsimp only [go_sem, seval, w]
 exact J9 rfl
theorem z89 {T : Tab} {id : Nat} {s : RS} (hl : Len s.1.length) : ACalls prog q0c [.ptr id 0] (rT T id s) (fun v T' => v = .b (decide ((K4 1 s).1 = 1)) /\ T' = rT T id (K4 1 s).2) := by
 refine q06 U7 qiu (by simp) ?_
 have d : decide (((K4 1 s).1 : Int) = 1) = decide ((K4 1 s).1 = 1) := decide_eq_decide.2 (by omega)
 unfold qbh
 simp -implicitDefEqProofs -dsimp only [go_sem, seval, ↓J0 _ _ q7z]
 refine can (qw3 1 hl) ?_
 simp -implicitDefEqProofs -dsimp only [go_sem, seval, d]
 exact J9 rfl
theorem qei : ∀ (l : List UInt8), qa1 (O5 l) = some l
 | [] => rfl
 | b :: l => by
  have ih := qei l
  simp only [O5, List.map_cons, qa1, qsb] at ih ⊢
  rw [ih]
  simp
theorem z4x {T : Tab} {id : Nat} {s : RS} (k : Nat) (hk : k < 9223372036854775808) (hl : Len s.1.length) : ACalls prog Z7 [.ptr id 0, .i .i64 k] (rT T id s) (fun v T' => v = .s (q2u k s).1 /\ T' = rT T id (q2u k s).2) := by
 refine q06 U7 qiw (by simp) ?_
 unfold qbi
 simp -implicitDefEqProofs -dsimp only [go_sem, seval, ↓J0 _ _ N3]
 refine can (z6c k hk hl) ?_
 simp -implicitDefEqProofs -dsimp only [go_sem, seval, ↓J0 _ _ V4]
 refine can qx5 ?_
 unfold q2u
 rcases h1 : (K4 k s).2.2 with _ | _
 ·have d : decide (((K4 k s).2.1.length : Int) < ((K4 k s).1 : Int)) = decide ((K4 k s).2.1.length < (K4 k s).1) := decide_eq_decide.2 (by omega)
  rcases h2 : decide ((K4 k s).2.1.length < (K4 k s).1) with _ | _
  ·have h2' := of_decide_eq_false h2
   have e : ((K4 k s).2.1.take (K4 k s).1).length = (K4 k s).1 := by rw [List.length_take]; omega
   simp -implicitDefEqProofs -dsimp only [go_sem, seval, h1, qtu, bts, d, h2, ↓J0 _ _ qbk]
   refine can (z1n (K4 k s).1 (by omega)) ?_
   rw [if_neg (by rintro (h | h); exact absurd h (by decide); exact h2' h)]
   simp -implicitDefEqProofs -dsimp only [go_sem, seval, bts, e, q0q, qei, h1]
   exact J9 rfl
  ·simp -implicitDefEqProofs -dsimp only [go_sem, seval, h1, qtu, bts, d, h2, ↓J0 _ _ q4a]
   refine can qmo ?_
   simp -implicitDefEqProofs -dsimp only [go_sem, seval]
   rw [if_pos (.inr (of_decide_eq_true h2))]
   exact J9 rfl
 ·simp -implicitDefEqProofs -dsimp only [go_sem, seval, h1, ↓J0 _ _ q4a]
  refine can qmo ?_
  simp -implicitDefEqProofs -dsimp only [go_sem, seval]
  rw [if_pos (by simp)]
  exact J9 rfl
theorem qkb (xs : List UInt8) (cap : Option Nat) (hn : xs.length <= 1000000000) : PCalls prog V2 [bts xs cap] (bts xs none) := by
 refine K6 U7 q4l (by simp) fun T => ?_
 unfold q27
 have main : ∀ K : AV -> Tab -> Prop, (∀ v T', Own T 1 v xs.length (O5 xs) T' -> K v T') -> q3f 1 1 T (.fz 0 [] (some 0)) (.fz xs.length (O5 xs) cap) K := fun K hK =>
  (Own.nil T 1).app (m := xs.length) (news := O5 xs) (by simp [q03, q0q]) rfl (by omega) (by omega) (by simpa using hK)
 simp -implicitDefEqProofs -dsimp only [go_sem, seval, bts, z0c]
 split
 ·refine main _ fun v T' h => ?_
  refine J1 ?_
  obtain ⟨q1, q2, q3, q4, q5, q6⟩ := h.form
  simp -implicitDefEqProofs -dsimp only [go_sem, seval, q1]
  exact h.fzn
 ·rename_i h0
  have e : xs = [] := List.length_eq_zero_iff.1 (by omega)
  subst e
  intro b
  refine J2 (fun h => ?_) (fun h => ?_) <;> simp -implicitDefEqProofs -dsimp only [go_sem, seval]
  ·exact (Own.nil T 1).fzn
  ·refine main _ fun v T' h => ?_
   refine J1 ?_
   obtain ⟨q1, q2, q3, q4, q5, q6⟩ := h.form
   simp -implicitDefEqProofs -dsimp only [go_sem, seval, q1]
   exact h.fzn
theorem z6d {T : Tab} (b : List UInt8) (cap : Option Nat) (hl : b.length <= 1000000000) : ACalls prog qb1 [bts b cap] T (fun v T' => ∃ id, v = .ptr id 0 /\ T id = .unused /\ T' = rT T id (b, false)) := by
 refine q06 U7 qv5 (by simp) ?_
 unfold qnk
 simp -implicitDefEqProofs -dsimp only [go_sem, seval, ↓J0 _ _ q0b]
 refine cpn (qkb b cap hl) ?_
 simp -implicitDefEqProofs -dsimp only [go_sem, seval, bts]
 intro id hid
 refine J1 ?_
 simp -implicitDefEqProofs -dsimp only [go_sem, seval]
 exact q0r _ (fun _ => .inr (.inl rfl)) ⟨id, rfl, hid, rfl⟩
theorem qoe {T : Tab} {id : Nat} {s : RS} (h : T id = q81 s) : rT T id s = T := Tab.put_self h
theorem q67 {T : Tab} {id : Nat} {s : RS} : rT T id s id = q81 s := Tab.put_same ..
section
variable {T : Tab} {id : Nat} {s : RS}
theorem qg2 (h : T id = q81 s) : ACalls prog U6 [.ptr id 0] T (fun v T' => v = .b s.2 /\ T' = T) := by
 have := qx5 (T := T) (id := id) (s := s); rwa [qoe h] at this
theorem q5l (h : T id = q81 s) (k : Nat) (hk : k < 9223372036854775808) (hl : Len s.1.length) : ACalls prog K9 [.ptr id 0, .i .i64 k] T (fun v T' => v = .i .i64 (K4 k s).1 /\ T' = rT T id (K4 k s).2) := by
 have := z6c (T := T) (id := id) (s := s) k hk hl; rw [qoe h] at this; exact this
theorem z6e (h : T id = q81 s) (hl : Len s.1.length) : ACalls prog G6 [.ptr id 0] T (fun v T' => v = .i .u64 (K4 18446744073709551615 s).1 /\ T' = rT T id (K4 18446744073709551615 s).2) := by
 have := zhq (T := T) (id := id) (s := s) hl; rw [qoe h] at this; exact this
theorem qrc (h : T id = q81 s) (hl : Len s.1.length) : ACalls prog q0c [.ptr id 0] T (fun v T' => v = .b (decide ((K4 1 s).1 = 1)) /\ T' = rT T id (K4 1 s).2) := by
 have := z89 (T := T) (id := id) (s := s) hl; rw [qoe h] at this; exact this
theorem qkw (h : T id = q81 s) (k : Nat) (hk : k < 9223372036854775808) (hl : Len s.1.length) : ACalls prog Z7 [.ptr id 0, .i .i64 k] T (fun v T' => v = .s (q2u k s).1 /\ T' = rT T id (q2u k s).2) := by
 have := z4x (T := T) (id := id) (s := s) k hk hl; rw [qoe h] at this; exact this
end
theorem Own.rd {B T1 : Tab} {id z n : Nat} {v : AV} {xs : List AV} {s : RS} (h : Own (rT B id s) z v n xs T1) (s' : RS) : Own (rT B id s') z v n xs (rT T1 id s') := by
 have hB : rT B id s id ≠ .unused := by rw [q67]; simp [q81]
 obtain ⟨T0, h1, h2⟩ := Owns.base_put (s := q81 s') hB (Owns.one h)
 have e : T0 = rT B id s' := by
  rw [show T0 = (rT B id s).put id (q81 s') from h1]; exact Tab.put_put ..
 rw [e] at h2
 exact h2
theorem Own.rdAt {B T1 : Tab} {id z n : Nat} {v : AV} {xs : List AV} {s : RS} (h : Own (rT B id s) z v n xs T1) : T1 id = q81 s := by
 rw [h.at (by rw [q67]; simp [q81]), q67]
theorem Owns.rd {B T1 : Tab} {id : Nat} {l : List Ow} {s : RS} (h : Owns (rT B id s) l T1) (s' : RS) : Owns (rT B id s') l (rT T1 id s') := by
 have hB : rT B id s id ≠ .unused := by rw [q67]; simp [q81]
 have := Owns.base_put (s := q81 s') hB h
 rw [show (rT B id s).put id (q81 s') = rT B id s' from Tab.put_put ..] at this
 exact this
theorem Owns.rdAt {B T1 : Tab} {id : Nat} {l : List Ow} {s : RS} (h : Owns (rT B id s) l T1) : T1 id = q81 s := by
 rw [Owns.base_get (by rw [q67]; simp [q81]) h, q67]
end Go.Aw
