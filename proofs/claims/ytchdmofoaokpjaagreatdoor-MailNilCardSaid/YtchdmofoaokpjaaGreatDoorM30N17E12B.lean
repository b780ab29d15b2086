import Derived.Test.YtchdmofoaokpjaaGreatDoorM30N17E12R
import Derived.Test.YtchdmofoaokpjaaGreatDoorAwD
import Derived.Test.YtchdmofoaokpjaaGreatDoorM30N17E12X
namespace Go.Aw
open Go
open Go.Proofs.Tryz (prog)
set_option linter.all false
set_option maxHeartbeats 4000000
def q5y (s : RS) : Slot := .row 2 [bts s.1 none, .b s.2]
def rT (T : Tab) (id : Nat) (s : RS) : Tab := T.put id (q5y s)
theorem qqq {T : Tab} {id : Nat} {s : RS} : rT T id s id = .row 2 [bts s.1 none, .b s.2] := Tab.put_same ..
theorem qcx {T : Tab} {id : Nat} {s s' : RS} : rT (rT T id s) id s' = rT T id s' := Tab.put_put ..
theorem quk {T : Tab} {id : Nat} {s : RS} : ACalls prog Q8 [.ptr id 0] (rT T id s) (fun v T' => v = .b s.2 /\ T' = rT T id s) := by
 refine U7 Q9 qgg (by simp) ?_
 unfold q9b
 simp -implicitDefEqProofs -dsimp only [go_sem, seval, qqq]
 exact J9 rfl
theorem qjj {T : Tab} {id : Nat} {s : RS} : ACalls prog q0p [.ptr id 0] (rT T id s) (fun v T' => v = .tup [] /\ T' = rT T id (s.1, true)) := by
 refine U7 Q9 qdw (by simp) ?_
 unfold q7z
 simp -implicitDefEqProofs -dsimp only [go_sem, seval, qqq]
 refine q16 (q := 2) (cells := [bts s.1 none, .b s.2]) qqq rfl rfl (by simp) (J1 ?_)
 simp -implicitDefEqProofs -dsimp only [go_sem, seval]
 refine q7v (.refl _) ?_
 unfold rT
 rw [Tab.put_put]
 rfl
theorem q78 (l : List UInt8) (k : Nat) : (N5 l).take k = N5 (l.take k) := by simp [N5, List.map_take]
theorem q9q (l : List UInt8) (k : Nat) : (N5 l).drop k = N5 (l.drop k) := by simp [N5, List.map_drop]
theorem qyw {T : Tab} {id : Nat} {s : RS} (n : Nat) (hn : n <= s.1.length) : ACalls prog q1y [.ptr id 0, .i .i64 n] (rT T id s) (fun v T' => v = bts (s.1.take n) (some n) /\ T' = rT T id (s.1.drop n, s.2)) := by
 refine U7 Q9 qfg (by simp) ?_
 have e1 : (s.1.take n).length = n := by rw [List.length_take]; omega
 have e2 : (s.1.drop n).length = s.1.length - n := List.length_drop
 have e3 : (s.1.drop n).take (s.1.length - n) = s.1.drop n := List.take_of_length_le (by omega)
 unfold q8v
 simp -implicitDefEqProofs -dsimp only [go_sem, seval, qqq, bts, hn, Nat.zero_le, Nat.le_refl, Int.natCast_nonneg, Int.toNat_natCast, Option.isSome_some, q78, q9q, e3]
 refine q16 (q := 2) (cells := [bts s.1 none, .b s.2]) qqq rfl rfl (by simp) (J1 ?_)
 simp -implicitDefEqProofs -dsimp only [go_sem, seval]
 refine q7v (by rw [bts, e1]; exact .refl _) ?_
 unfold rT q5y
 rw [Tab.put_put, bts, e2]
theorem qyx (y : UInt8) : IntKind.u8.wrap ((BitVec.ofInt IntKind.u8.bits (y.toNat : Int) &&& BitVec.ofInt IntKind.u8.bits 127).toNat : Nat) = ((y.toNat % 128 : Nat) : Int) := by
 have h := z9a ⟨y.toNat, y.toNat_lt⟩
 simp only at h
 rw [show IntKind.u8.bits = 8 from rfl, h, qk7]
 omega
theorem zf2 {c k : Nat} (h : c * 128 ^ k < 18446744073709551616) (hk : k <= 9) (hc : c < 128) : IntKind.u64.wrap (IntKind.u64.wrap (c : Int) * 2 ^ (min ((7 * k : Nat) : Int).toNat 64)) = ((c * 128 ^ k : Nat) : Int) := by
 rw [q0o (n := c) (by omega), Int.toNat_natCast, Nat.min_eq_left (by omega)]
 have e : ((c : Int) * 2 ^ (7 * k)) = ((c * 128 ^ k : Nat) : Int) := by rw [z38]; push_cast; rfl
 rw [e, q0o h]
theorem z54 {a c k : Nat} (ha : a < 128 ^ k) (h : a + c * 128 ^ k < 18446744073709551616) : IntKind.u64.wrap ((BitVec.ofInt IntKind.u64.bits (a : Int) ||| BitVec.ofInt IntKind.u64.bits ((c * 128 ^ k : Nat) : Int)).toNat : Nat) = ((a + c * 128 ^ k : Nat) : Int) := by
 have e : (BitVec.ofInt IntKind.u64.bits (a : Int) ||| BitVec.ofInt IntKind.u64.bits ((c * 128 ^ k : Nat) : Int)).toNat = a + c * 128 ^ k := by
  show (BitVec.ofInt 64 (a : Int) ||| BitVec.ofInt 64 ((c * 128 ^ k : Nat) : Int)).toNat = _
  rw [BitVec.toNat_or, BitVec.ofInt_natCast, BitVec.ofInt_natCast, BitVec.toNat_ofNat, BitVec.toNat_ofNat, Nat.mod_eq_of_lt (by omega), Nat.mod_eq_of_lt (by omega)]
  rw [z38] at ha ⊢
  have := Nat.two_pow_add_eq_or_of_lt ha c
  rw [Nat.or_comm, Nat.mul_comm c, <- this, Nat.add_comm]
 rw [e, q0o h]
theorem z9n {a c k : Nat} (ha : a < 128 ^ k) (hc : c < 128) (h : k <= 8 \/ (k = 9 /\ c <= 1)) : a + c * 128 ^ k < 18446744073709551616 := by
 rcases h with h | ⟨rfl, h⟩
 ·have h8 : 128 ^ k <= 128 ^ 8 := Nat.pow_le_pow_right (by decide) h
  have h88 : (128 : Nat) ^ 8 = 72057594037927936 := by decide
  have : c * 128 ^ k <= 127 * 128 ^ k := Nat.mul_le_mul_right _ (by omega)
  omega
 ·have : (128 : Nat) ^ 9 = 9223372036854775808 := by decide
  rw [this] at ha ⊢
  omega
theorem qqr {R : I2} (hR : ExtR R) {T : Tab} {b : List UInt8} {cap : Option Nat} (hl : Len b.length) : ∀ (ys : List UInt8) (k a : Nat), b.drop k = ys -> k <= b.length -> k <= 9 -> a < 128 ^ k ->
  (dec k a ys = none -> R .ret [(2, .i .u64 0), (3, .i .i64 0)] [] T) -> (dec k a ys = none -> ∀ a, R (.exit 0) [(4, .i .u64 a), (8, bts b cap), (9, .i .i64 b.length), (10, .i .i64 b.length), (11, .b false)] [] T) ->
  (∀ n z, dec k a ys = some (n, z) -> R .ret [(2, .i .u64 n), (3, .i .i64 z)] [] T) ->
  AW prog q4n R [(4, .i .u64 a), (8, bts b cap), (9, .i .i64 b.length), (10, .i .i64 k)] [] T := by
 intro ys
 induction ys with
 | nil =>
  intro k a hk hle h9 ha h0 hE h2
  have hk' := Y0 hk hle
  refine V1 hR ?_
  unfold q5o
  simp -implicitDefEqProofs -dsimp only [go_sem, seval, hk', Int.lt_irrefl]
  have := hE rfl a
  rw [hk'] at this
  exact this
 | cons y ys ih =>
  intro k a hk hle h9 ha h0 hE h2
  obtain ⟨hlt, hy, hk'⟩ := Y9 hk
  unfold Len at hl
  have hat : ((N5 b).drop k)[0]? = some (.i .u8 y.toNat) := by simp [N5, hy]
  have w7 : IntKind.i64.wrap (7 * (k : Int)) = ((7 * k : Nat) : Int) := by rw [q2d (by unfold I64; omega)]; omega
  have d1 : decide ((63 : Int) < ((7 * k : Nat) : Int)) = false := decide_eq_false (by omega)
  have d2 : decide (((7 * k : Nat) : Int) = 63) = decide (k = 9) := decide_eq_decide.2 (by omega)
  have d3 : decide ((1 : Int) < (y.toNat : Int)) = decide (1 < y.toNat) := decide_eq_decide.2 (by omega)
  have d4 : decide ((y.toNat : Int) < 128) = decide (y.toNat < 128) := decide_eq_decide.2 (by omega)
  have d5 : decide ((y.toNat : Int) = 0) = decide (y.toNat = 0) := decide_eq_decide.2 (by omega)
  have d6 : decide ((0 : Int) < (k : Int)) = decide (0 < k) := decide_eq_decide.2 (by omega)
  have hp0 : (((7 * k : Nat) : Int) < 0) = False := eq_false (Int.not_lt.2 (Int.natCast_nonneg _))
  have fin : ¬ (9 < k \/ (k = 9 /\ 1 < y.toNat)) -> AW prog q4n R [(4, .i .u64 a), (8, bts b cap), (9, .i .i64 b.length), (10, .i .i64 k)] [] T := by
   intro hok
   have hdec : dec k a (y :: ys) = if y.toNat < 128 then (if y.toNat = 0 /\ 0 < k then none else some (a + y.toNat % 128 * 128 ^ k, k + 1)) else dec (k + 1) (a + y.toNat % 128 * 128 ^ k) ys := by simp only [dec]; rw [if_neg hok]
   have hlow : k <= 8 \/ (k = 9 /\ y.toNat % 128 <= 1) := by omega
   have hm := Nat.mod_lt y.toNat (show 0 < 128 by decide)
   have hacc := z9n ha hm hlow
   have e1 := zf2 (c := y.toNat % 128) (k := k) (by omega) h9 hm
   have e2 := z54 ha hacc
   have hb : decide (k = 9) = false \/ (decide (k = 9) = true /\ decide (1 < y.toNat) = false) := by
    by_cases h : k = 9
    ·exact .inr ⟨decide_eq_true h, decide_eq_false (fun h1 => hok (.inr ⟨h, h1⟩))⟩
    ·exact .inl (decide_eq_false h)
   refine Q3 (l := q4n) rfl hR ?_
   unfold q5o
   simp -implicitDefEqProofs -dsimp only [go_sem, seval, bts, Int.ofNat_lt, hlt, Int.natCast_nonneg, Int.toNat_natCast, hat, w7, d1, d2, d3]
   rcases hb with hb | ⟨hb, hb2⟩
   all_goals
    simp -implicitDefEqProofs -dsimp only [go_sem, seval, hb, d2, d3, decide_true, decide_false, qyx]
    try simp -implicitDefEqProofs -dsimp only [go_sem, seval, hb2, d2, d3, decide_true, decide_false, qyx]
    simp -implicitDefEqProofs -dsimp only [go_sem, seval, hp0, e1, e2, d4]
    rcases h128 : decide (y.toNat < 128) with _ | _
    ·simp -implicitDefEqProofs -dsimp only [go_sem, seval, d4, h128]
     rw [Q0 (by omega)]
     have h128' := of_decide_eq_false h128
     have hk9 : k ≠ 9 := by omega
     refine ih (k + 1) _ hk' hlt (by omega) ?_ (fun h => h0 (by rw [hdec, if_neg h128']; exact h)) (fun h => hE (by rw [hdec, if_neg h128']; exact h)) fun n z h => h2 n z ?_
     ·rw [Nat.pow_succ]
      have : y.toNat % 128 * 128 ^ k <= 127 * 128 ^ k := Nat.mul_le_mul_right _ (by omega)
      omega
     ·rw [hdec, if_neg h128']; exact h
    ·have h128' := of_decide_eq_true h128
     simp -implicitDefEqProofs -dsimp only [go_sem, seval, d4, d5, d6, h128]
     rcases h00 : decide (y.toNat = 0) with _ | _
     ·simp -implicitDefEqProofs -dsimp only [go_sem, seval, d4, d5, d6, h128, h00, decide_true, decide_false]
      rw [Q0 (by omega)]
      exact h2 _ _ (by rw [hdec, if_pos h128', if_neg (fun h => of_decide_eq_false h00 h.1)])
     ·rcases hk0 : decide (0 < k) with _ | _
      ·simp -implicitDefEqProofs -dsimp only [go_sem, seval, d4, d5, d6, h128, h00, hk0, decide_true, decide_false]
       rw [Q0 (by omega)]
       exact h2 _ _ (by rw [hdec, if_pos h128', if_neg (fun h => of_decide_eq_false hk0 h.2)])
      ·simp -implicitDefEqProofs -dsimp only [go_sem, seval, d4, d5, d6, h128, h00, hk0, decide_true, decide_false]
       exact h0 (by rw [hdec, if_pos h128', if_pos ⟨of_decide_eq_true h00, of_decide_eq_true hk0⟩])
  by_cases hok : 9 < k \/ (k = 9 /\ 1 < y.toNat)
  ·obtain ⟨rfl, h1⟩ : k = 9 /\ 1 < y.toNat := by omega
   refine Q3 (l := q4n) rfl hR ?_
   unfold q5o
   have t1 : decide (1 < y.toNat) = true := decide_eq_true h1
   simp -implicitDefEqProofs -dsimp only [go_sem, Nat.reduceEqDiff, Nat.reduceAdd, Nat.reduceMul, Nat.reduceSub, Nat.reduceLT, Nat.reduceLeDiff, Nat.reduceBEq, reduceIte, reduceCtorEq, Int.reduceLT, Int.reduceLE, Int.reduceEq, Int.reduceNeg, Int.reduceToNat, Int.reduceAdd, Int.reduceSub, bts, Int.ofNat_lt, hlt, Int.natCast_nonneg, Int.toNat_natCast, hat, w7, d1, d2, d3, decide_true, decide_false, t1]
   exact h0 (by simp [dec, h1])
  ·exact fin hok
def qmi (b : List UInt8) : Nat × Nat := match dec 0 0 b with
 | some r => r
 | none => (0, 0)
theorem qyy (b : List UInt8) (c : Option Nat) (hl : Len b.length) : PCalls prog q77 [bts b c] (.tup [.i .u64 (qmi b).1, .i .i64 (qmi b).2]) := by
 refine K5 Q9 qmd (by simp) fun T => ?_
 unfold qed
 cases hd : dec 0 0 b with
 | none =>
  have e : qmi b = (0, 0) := by unfold qmi; rw [hd]
  rw [e]
  simp -implicitDefEqProofs -dsimp only [go_sem, seval, bts]
  refine qqr (T := T) (by repeat' (first | exact O7 _ _ | assumption | apply O6 | apply N6 | apply Y1)) hl b 0 0 rfl (by omega) (by omega) (by decide) (fun _ => ?_) (fun _ a => ?_) (fun n z h => by rw [hd] at h; cases h)
  ·simp -implicitDefEqProofs -dsimp only [go_sem, seval]
   exact J9 rfl
  ·simp -implicitDefEqProofs -dsimp only [go_sem, seval]
   exact J9 rfl
 | some r =>
  have e : qmi b = r := by unfold qmi; rw [hd]
  obtain ⟨n, z⟩ := r
  rw [e]
  simp -implicitDefEqProofs -dsimp only [go_sem, seval, bts]
  refine qqr (T := T) (by repeat' (first | exact O7 _ _ | assumption | apply O6 | apply N6 | apply Y1)) hl b 0 0 rfl (by omega) (by omega) (by decide) (fun h => by rw [hd] at h; cases h) (fun h a => by rw [hd] at h; cases h) (fun n' z' h => ?_)
  rw [hd] at h
  injection h with h; injection h with h1 h2
  subst h1; subst h2
  simp -implicitDefEqProofs -dsimp only [go_sem, seval]
  exact J9 rfl
theorem z1s {k : Nat} {s : RS} (h : s.2 = false) : K3 k s = if (qmi s.1).2 = 0 \/ k < (qmi s.1).1 then (0, (s.1, true)) else ((qmi s.1).1, (s.1.drop (qmi s.1).2, false)) := by
 unfold K3 qmi
 rw [if_neg (by rw [h]; decide)]
 cases hd : dec 0 0 s.1 with
 | none => simp
 | some r =>
  obtain ⟨n, z⟩ := r
  obtain ⟨h1, h2, _⟩ := qua hd
  have hz : z ≠ 0 := by
   have := List.length_pos_iff.2 (z9b n)
   omega
  simp only [hz, false_or]
  by_cases hk : n <= k
  ·rw [if_pos hk, if_neg (by omega)]
  ·rw [if_neg hk, if_pos (by omega)]
theorem z55 (b : List UInt8) : (qmi b).2 <= b.length /\ (qmi b).1 < 18446744073709551616 := by
 unfold qmi
 cases hd : dec 0 0 b with
 | none => simp
 | some r =>
  obtain ⟨n, z⟩ := r
  obtain ⟨h1, h2, h3, h4⟩ := qua hd
  exact ⟨h2, h4⟩
theorem qsq {T : Tab} {id : Nat} {s : RS} (k : Nat) (hl : Len s.1.length) : ACalls prog q0y [.ptr id 0, .i .u64 k] (rT T id s) (fun v T' => v = .i .u64 (K3 k s).1 /\ T' = rT T id (K3 k s).2) := by
 refine U7 Q9 qfa (by simp) ?_
 unfold q8s
 obtain ⟨b, bad⟩ := s
 have hd := z55 b
 cases bad with
 | true =>
  rw [qy6 rfl]
  simp -implicitDefEqProofs -dsimp only [go_sem, seval, ↓J0 _ _ U4]
  refine can quk ?_
  simp -implicitDefEqProofs -dsimp only [go_sem, seval]
  exact J9 rfl
 | false =>
  rw [z1s rfl]
  simp -implicitDefEqProofs -dsimp only [go_sem, seval, ↓J0 _ _ U4]
  refine can quk ?_
  simp -implicitDefEqProofs -dsimp only [go_sem, seval, qqq, ↓J0 _ _ qme]
  refine cpn (qyy b none hl) ?_
  have d1 : decide (((qmi b).2 : Int) = 0) = decide ((qmi b).2 = 0) := decide_eq_decide.2 (by omega)
  have d2 : decide ((k : Int) < ((qmi b).1 : Int)) = decide (k < (qmi b).1) := decide_eq_decide.2 (by omega)
  rcases h1 : decide ((qmi b).2 = 0) with _ | _
  ·rcases h2 : decide (k < (qmi b).1) with _ | _
   ·simp -implicitDefEqProofs -dsimp only [go_sem, seval, d1, d2, h1, h2, ↓J0 _ _ q8w]
    refine can (qyw (qmi b).2 hd.1) ?_
    simp -implicitDefEqProofs -dsimp only [go_sem, seval]
    rw [if_neg (by have := of_decide_eq_false h1; have := of_decide_eq_false h2; omega)]
    exact J9 rfl
   ·simp -implicitDefEqProofs -dsimp only [go_sem, seval, d1, d2, h1, h2, ↓J0 _ _ q2y]
    refine can qjj ?_
    simp -implicitDefEqProofs -dsimp only [go_sem, seval]
    rw [if_pos (.inr (of_decide_eq_true h2))]
    exact J9 rfl
  ·simp -implicitDefEqProofs -dsimp only [go_sem, seval, d1, d2, h1, ↓J0 _ _ q2y]
   refine can qjj ?_
   simp -implicitDefEqProofs -dsimp only [go_sem, seval]
   rw [if_pos (.inl (of_decide_eq_true h1))]
   exact J9 rfl
theorem zf3 {T : Tab} {id : Nat} {s : RS} (hl : Len s.1.length) : ACalls prog Z2 [.ptr id 0] (rT T id s) (fun v T' => v = .i .u64 (K3 18446744073709551615 s).1 /\ T' = rT T id (K3 18446744073709551615 s).2) := by
 refine U7 Q9 qj4 (by simp) ?_
 unfold qbm
 simp -implicitDefEqProofs -dsimp only [go_sem, seval, ↓J0 _ _ q5x]
 refine can (qsq 18446744073709551615 hl) ?_
 simp -implicitDefEqProofs -dsimp only [go_sem, seval]
 exact J9 rfl
theorem z3b {T : Tab} {id : Nat} {s : RS} (k : Nat) (hk : k < 9223372036854775808) (hl : Len s.1.length) : ACalls prog K7 [.ptr id 0, .i .i64 k] (rT T id s) (fun v T' => v = .i .i64 (K3 k s).1 /\ T' = rT T id (K3 k s).2) := by
 refine U7 Q9 qg9 (by simp) ?_
 have d : decide ((k : Int) < 0) = false := decide_eq_false (by omega)
 have hle := q21 k s
 have w : IntKind.i64.wrap ((K3 k s).1 : Int) = (K3 k s).1 := q2d (by unfold I64; omega)
 unfold q99
 simp -implicitDefEqProofs -dsimp only [go_sem, seval, d, q0o (n := k) (by omega), ↓J0 _ _ q5x]
 refine can (qsq k hl) ?_
 simp -implicitDefEqProofs -dsimp only [go_sem, seval, w]
 exact J9 rfl
theorem z56 {T : Tab} {id : Nat} {s : RS} (hl : Len s.1.length) : ACalls prog I8 [.ptr id 0] (rT T id s) (fun v T' => v = .b (decide ((K3 1 s).1 = 1)) /\ T' = rT T id (K3 1 s).2) := by
 refine U7 Q9 qfc (by simp) ?_
 have d : decide (((K3 1 s).1 : Int) = 1) = decide ((K3 1 s).1 = 1) := decide_eq_decide.2 (by omega)
 unfold q8t
 simp -implicitDefEqProofs -dsimp only [go_sem, seval, ↓J0 _ _ q5x]
 refine can (qsq 1 hl) ?_
 simp -implicitDefEqProofs -dsimp only [go_sem, seval, d]
 exact J9 rfl
theorem qbd : ∀ (l : List UInt8), q7m (N5 l) = some l
 | [] => rfl
 | b :: l => by
  have ih := qbd l
  simp only [N5, List.map_cons, q7m, qpd] at ih ⊢
  rw [ih]
  simp
theorem z1t {T : Tab} {id : Nat} {s : RS} (k : Nat) (hk : k < 9223372036854775808) (hl : Len s.1.length) : ACalls prog Y4 [.ptr id 0, .i .i64 k] (rT T id s) (fun v T' => v = .s (q1o k s).1 /\ T' = rT T id (q1o k s).2) := by
 refine U7 Q9 qfe (by simp) ?_
 unfold q8u
 simp -implicitDefEqProofs -dsimp only [go_sem, seval, ↓J0 _ _ N1]
 refine can (z3b k hk hl) ?_
 simp -implicitDefEqProofs -dsimp only [go_sem, seval, ↓J0 _ _ U4]
 refine can quk ?_
 unfold q1o
 rcases h1 : (K3 k s).2.2 with _ | _
 ·have d : decide (((K3 k s).2.1.length : Int) < ((K3 k s).1 : Int)) = decide ((K3 k s).2.1.length < (K3 k s).1) := decide_eq_decide.2 (by omega)
  rcases h2 : decide ((K3 k s).2.1.length < (K3 k s).1) with _ | _
  ·have h2' := of_decide_eq_false h2
   have e : ((K3 k s).2.1.take (K3 k s).1).length = (K3 k s).1 := by rw [List.length_take]; omega
   simp -implicitDefEqProofs -dsimp only [go_sem, seval, h1, qqq, bts, d, h2, ↓J0 _ _ q8w]
   refine can (qyw (K3 k s).1 (by omega)) ?_
   rw [if_neg (by rintro (h | h); exact absurd h (by decide); exact h2' h)]
   simp -implicitDefEqProofs -dsimp only [go_sem, seval, bts, e, q03, qbd, h1]
   exact J9 rfl
  ·simp -implicitDefEqProofs -dsimp only [go_sem, seval, h1, qqq, bts, d, h2, ↓J0 _ _ q2y]
   refine can qjj ?_
   simp -implicitDefEqProofs -dsimp only [go_sem, seval]
   rw [if_pos (.inr (of_decide_eq_true h2))]
   exact J9 rfl
 ·simp -implicitDefEqProofs -dsimp only [go_sem, seval, h1, ↓J0 _ _ q2y]
  refine can qjj ?_
  simp -implicitDefEqProofs -dsimp only [go_sem, seval]
  rw [if_pos (by simp)]
  exact J9 rfl
theorem qgu (xs : List UInt8) (cap : Option Nat) (hn : xs.length <= 1000000000) : PCalls prog Q2 [bts xs cap] (bts xs none) := by
 refine K5 Q9 q1c (by simp) fun T => ?_
 unfold q0f
 have main : ∀ K : AV -> Tab -> Prop, (∀ v T', Own T 1 v xs.length (N5 xs) T' -> K v T') -> q1i 1 1 T (.fz 0 [] (some 0)) (.fz xs.length (N5 xs) cap) K := fun K hK =>
  (Own.nil T 1).app (m := xs.length) (news := N5 xs) (by simp [Z3, q03]) rfl (by omega) (by omega) (by simpa using hK)
 simp -implicitDefEqProofs -dsimp only [go_sem, seval, bts, qxs]
 split
 ·refine main _ fun v T' h => ?_
  refine J1 ?_
  obtain ⟨q1, q2, q3, q4, q5, q6⟩ := h.form
  simp -implicitDefEqProofs -dsimp only [go_sem, seval, q1]
  exact h.fzn
 ·rename_i h0
  have e : xs = [] := List.length_eq_zero_iff.1 (by omega)
  subst e
  intro b
  refine K0 (fun h => ?_) (fun h => ?_) <;> simp -implicitDefEqProofs -dsimp only [go_sem, seval]
  ·exact (Own.nil T 1).fzn
  ·refine main _ fun v T' h => ?_
   refine J1 ?_
   obtain ⟨q1, q2, q3, q4, q5, q6⟩ := h.form
   simp -implicitDefEqProofs -dsimp only [go_sem, seval, q1]
   exact h.fzn
theorem z3c {T : Tab} (b : List UInt8) (cap : Option Nat) (hl : b.length <= 1000000000) : ACalls prog q8e [bts b cap] T (fun v T' => ∃ id, v = .ptr id 0 /\ T id = .unused /\ T' = rT T id (b, false)) := by
 refine U7 Q9 qs1 (by simp) ?_
 unfold qkh
 simp -implicitDefEqProofs -dsimp only [go_sem, seval, ↓J0 _ _ Z4]
 refine cpn (qgu b cap hl) ?_
 simp -implicitDefEqProofs -dsimp only [go_sem, seval, bts]
 intro id hid
 refine J1 ?_
 simp -implicitDefEqProofs -dsimp only [go_sem, seval]
 exact Y8 _ (fun _ => .inr (.inl rfl)) ⟨id, rfl, hid, rfl⟩
theorem ql9 {T : Tab} {id : Nat} {s : RS} (h : T id = q5y s) : rT T id s = T := Tab.put_self h
theorem q4c {T : Tab} {id : Nat} {s : RS} : rT T id s id = q5y s := Tab.put_same ..
section
variable {T : Tab} {id : Nat} {s : RS}
theorem qcy (h : T id = q5y s) : ACalls prog Q8 [.ptr id 0] T (fun v T' => v = .b s.2 /\ T' = T) := by
 have := quk (T := T) (id := id) (s := s); rwa [ql9 h] at this
theorem q40 (h : T id = q5y s) (k : Nat) (hk : k < 9223372036854775808) (hl : Len s.1.length) : ACalls prog K7 [.ptr id 0, .i .i64 k] T (fun v T' => v = .i .i64 (K3 k s).1 /\ T' = rT T id (K3 k s).2) := by
 have := z3b (T := T) (id := id) (s := s) k hk hl; rw [ql9 h] at this; exact this
theorem z3d (h : T id = q5y s) (hl : Len s.1.length) : ACalls prog Z2 [.ptr id 0] T (fun v T' => v = .i .u64 (K3 18446744073709551615 s).1 /\ T' = rT T id (K3 18446744073709551615 s).2) := by
 have := zf3 (T := T) (id := id) (s := s) hl; rw [ql9 h] at this; exact this
theorem qop (h : T id = q5y s) (hl : Len s.1.length) : ACalls prog I8 [.ptr id 0] T (fun v T' => v = .b (decide ((K3 1 s).1 = 1)) /\ T' = rT T id (K3 1 s).2) := by
 have := z56 (T := T) (id := id) (s := s) hl; rw [ql9 h] at this; exact this
theorem qhl (h : T id = q5y s) (k : Nat) (hk : k < 9223372036854775808) (hl : Len s.1.length) : ACalls prog Y4 [.ptr id 0, .i .i64 k] T (fun v T' => v = .s (q1o k s).1 /\ T' = rT T id (q1o k s).2) := by
 have := z1t (T := T) (id := id) (s := s) k hk hl; rw [ql9 h] at this; exact this
end
theorem Own.rd {B T1 : Tab} {id z n : Nat} {v : AV} {xs : List AV} {s : RS} (h : Own (rT B id s) z v n xs T1) (s' : RS) : Own (rT B id s') z v n xs (rT T1 id s') := by
 have hB : rT B id s id ≠ .unused := by rw [q4c]; simp [q5y]
 obtain ⟨T0, h1, h2⟩ := Owns.base_put (s := q5y s') hB (Owns.one h)
 have e : T0 = rT B id s' := by
  rw [show T0 = (rT B id s).put id (q5y s') from h1]; exact Tab.put_put ..
 rw [e] at h2
 exact h2
theorem Own.rdAt {B T1 : Tab} {id z n : Nat} {v : AV} {xs : List AV} {s : RS} (h : Own (rT B id s) z v n xs T1) : T1 id = q5y s := by
 rw [h.at (by rw [q4c]; simp [q5y]), q4c]
theorem Owns.rd {B T1 : Tab} {id : Nat} {l : List Ow} {s : RS} (h : Owns (rT B id s) l T1) (s' : RS) : Owns (rT B id s') l (rT T1 id s') := by
 have hB : rT B id s id ≠ .unused := by rw [q4c]; simp [q5y]
 have := Owns.base_put (s := q5y s') hB h
 rw [show (rT B id s).put id (q5y s') = rT B id s' from Tab.put_put ..] at this
 exact this
theorem Owns.rdAt {B T1 : Tab} {id : Nat} {l : List Ow} {s : RS} (h : Owns (rT B id s) l T1) : T1 id = q5y s := by
 rw [Owns.base_get (by rw [q4c]; simp [q5y]) h, q4c]
end Go.Aw
namespace Go.Aw
open Go
open Go.Proofs.Tryz (prog)
set_option linter.all false
set_option maxHeartbeats 4000000
def qcz (r : Rd) : List UInt8 := qcw r.k ++ enc r.n.toNat
def qe4 (w : Wt) : List UInt8 := qcw w.k ++ qcw w.v ++ [qvh w.g]
def qgv (t : Tx) : List UInt8 := enc t.cl.toNat ++ enc t.sq.toNat ++ [qvh t.pl] ++ enc t.rs.length ++ t.rs.flatMap qcz ++ enc t.ws.length ++ t.ws.flatMap qe4
structure Tx.Good (t : Tx) : Prop where
 cl : 0 <= t.cl /\ t.cl < 6
 sq : 0 < t.sq /\ t.sq < 18446744073709551616
 r : t.rs.length <= 8
 w : t.ws.length <= 8
 rr : ∀ r ∈ t.rs, r.k.length <= 32 /\ 0 <= r.n /\ r.n < 18446744073709551616
 ww : ∀ w ∈ t.ws, w.k.length <= 32 /\ w.v.length <= 64
def rID (s : RS) : (Nat × Nat) × RS := (((K3 5 s).1, (K3 18446744073709551615 (K3 5 s).2).1), (K3 18446744073709551615 (K3 5 s).2).2)
def rRd (s : RS) : Rd × RS := (⟨(q1o 32 s).1, (K3 18446744073709551615 (q1o 32 s).2).1⟩, (K3 18446744073709551615 (q1o 32 s).2).2)
def rWt (s : RS) : Wt × RS := (⟨(q1o 32 s).1, (q1o 64 (q1o 32 s).2).1, decide ((K3 1 (q1o 64 (q1o 32 s).2).2).1 = 1)⟩, (K3 1 (q1o 64 (q1o 32 s).2).2).2)
def rTx (s : RS) : Tx × RS :=
 let a := rID s
 let p := K3 1 a.2
 let n := K3 8 p.2
 let rs := V9 rRd n.1 n.2
 let m := K3 8 rs.2
 let ws := V9 rWt m.1 m.2
 (⟨a.1.1, a.1.2, decide (p.1 = 1), rs.1, ws.1⟩, ws.2)
theorem z57 {r : Rd} (h : r.k.length <= 32 /\ 0 <= r.n /\ r.n < 18446744073709551616) (rest : List UInt8) : rRd (qcz r ++ rest, false) = (r, (rest, false)) := by
 obtain ⟨h1, h2, h3⟩ := h
 have e : qcz r ++ rest = enc r.k.length ++ r.k ++ (enc r.n.toNat ++ rest) := by simp [qcz, qcw]
 unfold rRd
 rw [e, q9y h1 (by omega)]
 simp only [U0 (show r.n.toNat <= 18446744073709551615 by omega) (by omega)]
 rw [show ((r.n.toNat : Nat) : Int) = r.n by omega]
theorem z58 {w : Wt} (h : w.k.length <= 32 /\ w.v.length <= 64) (rest : List UInt8) : rWt (qe4 w ++ rest, false) = (w, (rest, false)) := by
 obtain ⟨h1, h2⟩ := h
 have e : qe4 w ++ rest = enc w.k.length ++ w.k ++ (enc w.v.length ++ w.v ++ (enc (if w.g = true then 1 else 0) ++ rest)) := by simp [qe4, qcw, qhb]
 unfold rWt
 rw [e, q9y h1 (by omega)]
 simp only [q9y h2 (show w.v.length < _ by omega)]
 rw [U0 (by split <;> omega) (by split <;> omega)]
 obtain ⟨k, v, g⟩ := w
 cases g <;> simp
theorem qsr {t : Tx} (h : t.Good) (rest : List UInt8) : rTx (qgv t ++ rest, false) = (t, (rest, false)) := by
 obtain ⟨hcl, hsq, hr, hw, hrr, hww⟩ := h
 have e : qgv t ++ rest = enc t.cl.toNat ++ (enc t.sq.toNat ++ (enc (if t.pl = true then 1 else 0) ++ (enc t.rs.length ++ (t.rs.flatMap qcz ++ (enc t.ws.length ++ (t.ws.flatMap qe4 ++ rest)))))) := by simp [qgv, qhb]
 unfold rTx rID
 rw [e, U0 (by omega) (by omega)]
 simp only [U0 (show t.sq.toNat <= 18446744073709551615 by omega) (by omega)]
 rw [U0 (by split <;> omega) (by split <;> omega)]
 simp only [U0 hr (show t.rs.length < _ by omega)]
 rw [qc9 (g := qcz) (ok := fun r => r.k.length <= 32 /\ 0 <= r.n /\ r.n < 18446744073709551616) (fun x rest h => z57 h rest) t.rs _ hrr]
 simp only [U0 hw (show t.ws.length < _ by omega)]
 rw [qc9 (g := qe4) (ok := fun w => w.k.length <= 32 /\ w.v.length <= 64) (fun x rest h => z58 h rest) t.ws _ hww]
 obtain ⟨cl, sq, pl, rs, ws⟩ := t
 simp only at hcl hsq ⊢
 rw [show ((cl.toNat : Nat) : Int) = cl by omega, show ((sq.toNat : Nat) : Int) = sq by omega]
 cases pl <;> rfl
end Go.Aw
