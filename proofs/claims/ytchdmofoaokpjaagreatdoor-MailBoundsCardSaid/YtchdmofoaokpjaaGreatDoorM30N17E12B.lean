import Derived.Test.YtchdmofoaokpjaaGreatDoorM30N17E12R
import Derived.Test.YtchdmofoaokpjaaGreatDoorAwD
import Derived.Test.YtchdmofoaokpjaaGreatDoorM30N17E12X
namespace Go.Aw
open Go
open Go.Proofs.Tryz (prog)
set_option linter.all false
set_option maxHeartbeats 4000000
def q5k (s : RS) : Slot := .row 2 [bts s.1 none, .b s.2]
def rT (T : Tab) (id : Nat) (s : RS) : Tab := T.put id (q5k s)
theorem qpg {T : Tab} {id : Nat} {s : RS} : rT T id s id = .row 2 [bts s.1 none, .b s.2] := Tab.put_same ..
theorem qbx {T : Tab} {id : Nat} {s s' : RS} : rT (rT T id s) id s' = rT T id s' := Tab.put_put ..
theorem qt9 {T : Tab} {id : Nat} {s : RS} : ACalls prog Q5 [.ptr id 0] (rT T id s) (fun v T' => v = .b s.2 /\ T' = rT T id s) := by
 refine U6 U1 qf1 (by simp) ?_
 unfold q8h
 simp -implicitDefEqProofs -dsimp only [go_sem, seval, qpg]
 exact J9 rfl
theorem qia {T : Tab} {id : Nat} {s : RS} : ACalls prog q0n [.ptr id 0] (rT T id s) (fun v T' => v = .tup [] /\ T' = rT T id (s.1, true)) := by
 refine U6 U1 qcr (by simp) ?_
 unfold q78
 simp -implicitDefEqProofs -dsimp only [go_sem, seval, qpg]
 refine q15 (q := 2) (cells := [bts s.1 none, .b s.2]) qpg rfl rfl (by simp) (J1 ?_)
 simp -implicitDefEqProofs -dsimp only [go_sem, seval]
 refine q74 (.refl _) ?_
 unfold rT
 rw [Tab.put_put]
 rfl
theorem q6p (l : List UInt8) (k : Nat) : (N5 l).take k = N5 (l.take k) := by simp [N5, List.map_take]
theorem q8y (l : List UInt8) (k : Nat) : (N5 l).drop k = N5 (l.drop k) := by simp [N5, List.map_drop]
theorem qxd {T : Tab} {id : Nat} {s : RS} (n : Nat) (hn : n <= s.1.length) : ACalls prog q1v [.ptr id 0, .i .i64 n] (rT T id s) (fun v T' => v = bts (s.1.take n) (some n) /\ T' = rT T id (s.1.drop n, s.2)) := by
 refine U6 U1 qdz (by simp) ?_
 have e1 : (s.1.take n).length = n := by rw [List.length_take]; omega
 have e2 : (s.1.drop n).length = s.1.length - n := List.length_drop
 have e3 : (s.1.drop n).take (s.1.length - n) = s.1.drop n := List.take_of_length_le (by omega)
 unfold q80
 simp -implicitDefEqProofs -dsimp only [go_sem, seval, qpg, bts, hn, Nat.zero_le, Nat.le_refl, Int.natCast_nonneg, Int.toNat_natCast, Option.isSome_some, q6p, q8y, e3]
 refine q15 (q := 2) (cells := [bts s.1 none, .b s.2]) qpg rfl rfl (by simp) (J1 ?_)
 simp -implicitDefEqProofs -dsimp only [go_sem, seval]
 refine q74 (by rw [bts, e1]; exact .refl _) ?_
 unfold rT q5k
 rw [Tab.put_put, bts, e2]
theorem qxe (y : UInt8) : IntKind.u8.wrap ((BitVec.ofInt IntKind.u8.bits (y.toNat : Int) &&& BitVec.ofInt IntKind.u8.bits 127).toNat : Nat) = ((y.toNat % 128 : Nat) : Int) := by
 have h := z7c ⟨y.toNat, y.toNat_lt⟩
 simp only at h
 rw [show IntKind.u8.bits = 8 from rfl, h, qiz]
 omega
theorem zcs {c k : Nat} (h : c * 128 ^ k < 18446744073709551616) (hk : k <= 9) (hc : c < 128) : IntKind.u64.wrap (IntKind.u64.wrap (c : Int) * 2 ^ (min ((7 * k : Nat) : Int).toNat 64)) = ((c * 128 ^ k : Nat) : Int) := by
 rw [q0m (n := c) (by omega), Int.toNat_natCast, Nat.min_eq_left (by omega)]
 have e : ((c : Int) * 2 ^ (7 * k)) = ((c * 128 ^ k : Nat) : Int) := by rw [z1e]; push_cast; rfl
 rw [e, q0m h]
theorem z37 {a c k : Nat} (ha : a < 128 ^ k) (h : a + c * 128 ^ k < 18446744073709551616) : IntKind.u64.wrap ((BitVec.ofInt IntKind.u64.bits (a : Int) ||| BitVec.ofInt IntKind.u64.bits ((c * 128 ^ k : Nat) : Int)).toNat : Nat) = ((a + c * 128 ^ k : Nat) : Int) := by
 have e : (BitVec.ofInt IntKind.u64.bits (a : Int) ||| BitVec.ofInt IntKind.u64.bits ((c * 128 ^ k : Nat) : Int)).toNat = a + c * 128 ^ k := by
  show (BitVec.ofInt 64 (a : Int) ||| BitVec.ofInt 64 ((c * 128 ^ k : Nat) : Int)).toNat = _
  rw [BitVec.toNat_or, BitVec.ofInt_natCast, BitVec.ofInt_natCast, BitVec.toNat_ofNat, BitVec.toNat_ofNat, Nat.mod_eq_of_lt (by omega), Nat.mod_eq_of_lt (by omega)]
  rw [z1e] at ha ⊢
  have := Nat.two_pow_add_eq_or_of_lt ha c
  rw [Nat.or_comm, Nat.mul_comm c, <- this, Nat.add_comm]
 rw [e, q0m h]
theorem z7p {a c k : Nat} (ha : a < 128 ^ k) (hc : c < 128) (h : k <= 8 \/ (k = 9 /\ c <= 1)) : a + c * 128 ^ k < 18446744073709551616 := by
 rcases h with h | ⟨rfl, h⟩
 ·have h8 : 128 ^ k <= 128 ^ 8 := Nat.pow_le_pow_right (by decide) h
  have h88 : (128 : Nat) ^ 8 = 72057594037927936 := by decide
  have : c * 128 ^ k <= 127 * 128 ^ k := Nat.mul_le_mul_right _ (by omega)
  omega
 ·have : (128 : Nat) ^ 9 = 9223372036854775808 := by decide
  rw [this] at ha ⊢
  omega
theorem qph {R : q02} (hR : ExtR R) {T : Tab} {b : List UInt8} {cap : Option Nat} (hl : Len b.length) : ∀ (ys : List UInt8) (k a : Nat), b.drop k = ys -> k <= b.length -> k <= 9 -> a < 128 ^ k ->
  (dec k a ys = none -> R .ret [(2, .i .u64 0), (3, .i .i64 0)] [] T) -> (dec k a ys = none -> ∀ a, R (.exit 0) [(4, .i .u64 a), (8, bts b cap), (9, .i .i64 b.length), (10, .i .i64 b.length), (11, .b false)] [] T) ->
  (∀ n z, dec k a ys = some (n, z) -> R .ret [(2, .i .u64 n), (3, .i .i64 z)] [] T) ->
  AW prog q48 R [(4, .i .u64 a), (8, bts b cap), (9, .i .i64 b.length), (10, .i .i64 k)] [] T := by
 intro ys
 induction ys with
 | nil =>
  intro k a hk hle h9 ha h0 hE h2
  have hk' := G7 hk hle
  refine Y2 hR ?_
  unfold q5a
  simp -implicitDefEqProofs -dsimp only [go_sem, seval, hk', Int.lt_irrefl]
  have := hE rfl a
  rw [hk'] at this
  exact this
 | cons y ys ih =>
  intro k a hk hle h9 ha h0 hE h2
  obtain ⟨hlt, hy, hk'⟩ := I2 hk
  unfold Len at hl
  have hat : ((N5 b).drop k)[0]? = some (.i .u8 y.toNat) := by simp [N5, hy]
  have w7 : IntKind.i64.wrap (7 * (k : Int)) = ((7 * k : Nat) : Int) := by rw [q1m (by unfold I64; omega)]; omega
  have d1 : decide ((63 : Int) < ((7 * k : Nat) : Int)) = false := decide_eq_false (by omega)
  have d2 : decide (((7 * k : Nat) : Int) = 63) = decide (k = 9) := decide_eq_decide.2 (by omega)
  have d3 : decide ((1 : Int) < (y.toNat : Int)) = decide (1 < y.toNat) := decide_eq_decide.2 (by omega)
  have d4 : decide ((y.toNat : Int) < 128) = decide (y.toNat < 128) := decide_eq_decide.2 (by omega)
  have d5 : decide ((y.toNat : Int) = 0) = decide (y.toNat = 0) := decide_eq_decide.2 (by omega)
  have d6 : decide ((0 : Int) < (k : Int)) = decide (0 < k) := decide_eq_decide.2 (by omega)
  have hp0 : (((7 * k : Nat) : Int) < 0) = False := eq_false (Int.not_lt.2 (Int.natCast_nonneg _))
  have fin : ¬ (9 < k \/ (k = 9 /\ 1 < y.toNat)) -> AW prog q48 R [(4, .i .u64 a), (8, bts b cap), (9, .i .i64 b.length), (10, .i .i64 k)] [] T := by
   intro hok
   have hdec : dec k a (y :: ys) = if y.toNat < 128 then (if y.toNat = 0 /\ 0 < k then none else some (a + y.toNat % 128 * 128 ^ k, k + 1)) else dec (k + 1) (a + y.toNat % 128 * 128 ^ k) ys := by simp only [dec]; rw [if_neg hok]
   have hlow : k <= 8 \/ (k = 9 /\ y.toNat % 128 <= 1) := by omega
   have hm := Nat.mod_lt y.toNat (show 0 < 128 by decide)
   have hacc := z7p ha hm hlow
   have e1 := zcs (c := y.toNat % 128) (k := k) (by omega) h9 hm
   have e2 := z37 ha hacc
   have hb : decide (k = 9) = false \/ (decide (k = 9) = true /\ decide (1 < y.toNat) = false) := by
    by_cases h : k = 9
    ·exact .inr ⟨decide_eq_true h, decide_eq_false (fun h1 => hok (.inr ⟨h, h1⟩))⟩
    ·exact .inl (decide_eq_false h)
   refine Q8 (l := q48) rfl hR ?_
   unfold q5a
   simp -implicitDefEqProofs -dsimp only [go_sem, seval, bts, Int.ofNat_lt, hlt, Int.natCast_nonneg, Int.toNat_natCast, hat, w7, d1, d2, d3]
   rcases hb with hb | ⟨hb, hb2⟩
   all_goals
    simp -implicitDefEqProofs -dsimp only [go_sem, seval, hb, d2, d3, decide_true, decide_false, qxe]
    try simp -implicitDefEqProofs -dsimp only [go_sem, seval, hb2, d2, d3, decide_true, decide_false, qxe]
    simp -implicitDefEqProofs -dsimp only [go_sem, seval, hp0, e1, e2, d4]
    rcases h128 : decide (y.toNat < 128) with _ | _
    ·simp -implicitDefEqProofs -dsimp only [go_sem, seval, d4, h128]
     rw [Q9 (by omega)]
     have h128' := of_decide_eq_false h128
     have hk9 : k ≠ 9 := by omega
     refine ih (k + 1) _ hk' hlt (by omega) ?_ (fun h => h0 (by rw [hdec, if_neg h128']; exact h)) (fun h => hE (by rw [hdec, if_neg h128']; exact h)) fun n z h => h2 n z ?_
     ·rw [Nat.pow_succ]
      have : y.toNat % 128 * 128 ^ k <= 127 * 128 ^ k := Nat.mul_le_mul_right _ (by omega)
      omega
     ·rw [hdec, if_neg h128']; exact h
    ·have h128' := of_decide_eq_true h128
     simp -implicitDefEqProofs -dsimp only [go_sem, seval, d4, d5, d6, h128]
     rcases h00 : decide (y.toNat = 0) with _ | _
     ·simp -implicitDefEqProofs -dsimp only [go_sem, seval, d4, d5, d6, h128, h00, decide_true, decide_false]
      rw [Q9 (by omega)]
      exact h2 _ _ (by rw [hdec, if_pos h128', if_neg (fun h => of_decide_eq_false h00 h.1)])
     ·rcases hk0 : decide (0 < k) with _ | _
      ·simp -implicitDefEqProofs -dsimp only [go_sem, seval, d4, d5, d6, h128, h00, hk0, decide_true, decide_false]
       rw [Q9 (by omega)]
       exact h2 _ _ (by rw [hdec, if_pos h128', if_neg (fun h => of_decide_eq_false hk0 h.2)])
      ·simp -implicitDefEqProofs -dsimp only [go_sem, seval, d4, d5, d6, h128, h00, hk0, decide_true, decide_false]
       exact h0 (by rw [hdec, if_pos h128', if_pos ⟨of_decide_eq_true h00, of_decide_eq_true hk0⟩])
  by_cases hok : 9 < k \/ (k = 9 /\ 1 < y.toNat)
  ·obtain ⟨rfl, h1⟩ : k = 9 /\ 1 < y.toNat := by omega
   refine Q8 (l := q48) rfl hR ?_
   unfold q5a
   have t1 : decide (1 < y.toNat) = true := decide_eq_true h1
   simp -implicitDefEqProofs -dsimp only [go_sem, Nat.reduceEqDiff, Nat.reduceAdd, Nat.reduceMul, Nat.reduceSub, Nat.reduceLT, Nat.reduceLeDiff, Nat.reduceBEq, reduceIte, reduceCtorEq, Int.reduceLT, Int.reduceLE, Int.reduceEq, Int.reduceNeg, Int.reduceToNat, Int.reduceAdd, Int.reduceSub, bts, Int.ofNat_lt, hlt, Int.natCast_nonneg, Int.toNat_natCast, hat, w7, d1, d2, d3, decide_true, decide_false, t1]
   exact h0 (by simp [dec, h1])
  ·exact fin hok
def ql8 (b : List UInt8) : Nat × Nat := match dec 0 0 b with
 | some r => r
 | none => (0, 0)
theorem qxf (b : List UInt8) (c : Option Nat) (hl : Len b.length) : PCalls prog q6o [bts b c] (.tup [.i .u64 (ql8 b).1, .i .i64 (ql8 b).2]) := by
 refine K6 U1 ql3 (by simp) fun T => ?_
 unfold qd6
 cases hd : dec 0 0 b with
 | none =>
  have e : ql8 b = (0, 0) := by unfold ql8; rw [hd]
  rw [e]
  simp -implicitDefEqProofs -dsimp only [go_sem, seval, bts]
  refine qph (T := T) (by repeat' (first | exact Q2 _ _ | assumption | apply Q1 | apply N7 | apply Z0)) hl b 0 0 rfl (by omega) (by omega) (by decide) (fun _ => ?_) (fun _ a => ?_) (fun n z h => by rw [hd] at h; cases h)
  ·simp -implicitDefEqProofs -dsimp only [go_sem, seval]
   exact J9 rfl
  ·simp -implicitDefEqProofs -dsimp only [go_sem, seval]
   exact J9 rfl
 | some r =>
  have e : ql8 b = r := by unfold ql8; rw [hd]
  obtain ⟨n, z⟩ := r
  rw [e]
  simp -implicitDefEqProofs -dsimp only [go_sem, seval, bts]
  refine qph (T := T) (by repeat' (first | exact Q2 _ _ | assumption | apply Q1 | apply N7 | apply Z0)) hl b 0 0 rfl (by omega) (by omega) (by decide) (fun h => by rw [hd] at h; cases h) (fun h a => by rw [hd] at h; cases h) (fun n' z' h => ?_)
  rw [hd] at h
  injection h with h; injection h with h1 h2
  subst h1; subst h2
  simp -implicitDefEqProofs -dsimp only [go_sem, seval]
  exact J9 rfl
theorem z00 {k : Nat} {s : RS} (h : s.2 = false) : K3 k s = if (ql8 s.1).2 = 0 \/ k < (ql8 s.1).1 then (0, (s.1, true)) else ((ql8 s.1).1, (s.1.drop (ql8 s.1).2, false)) := by
 unfold K3 ql8
 rw [if_neg (by rw [h]; decide)]
 cases hd : dec 0 0 s.1 with
 | none => simp
 | some r =>
  obtain ⟨n, z⟩ := r
  obtain ⟨h1, h2, _⟩ := qsz hd
  have hz : z ≠ 0 := by
   have := List.length_pos_iff.2 (z7d n)
   omega
  simp only [hz, false_or]
  by_cases hk : n <= k
  ·rw [if_pos hk, if_neg (by omega)]
  ·rw [if_neg hk, if_pos (by omega)]
theorem z38 (b : List UInt8) : (ql8 b).2 <= b.length /\ (ql8 b).1 < 18446744073709551616 := by
 unfold ql8
 cases hd : dec 0 0 b with
 | none => simp
 | some r =>
  obtain ⟨n, z⟩ := r
  obtain ⟨h1, h2, h3, h4⟩ := qsz hd
  exact ⟨h2, h4⟩
theorem qrg {T : Tab} {id : Nat} {s : RS} (k : Nat) (hl : Len s.1.length) : ACalls prog q0x [.ptr id 0, .i .u64 k] (rT T id s) (fun v T' => v = .i .u64 (K3 k s).1 /\ T' = rT T id (K3 k s).2) := by
 refine U6 U1 qdt (by simp) ?_
 unfold q7x
 obtain ⟨b, bad⟩ := s
 have hd := z38 b
 cases bad with
 | true =>
  rw [qwp rfl]
  simp -implicitDefEqProofs -dsimp only [go_sem, seval, ↓J0 _ _ U3]
  refine can qt9 ?_
  simp -implicitDefEqProofs -dsimp only [go_sem, seval]
  exact J9 rfl
 | false =>
  rw [z00 rfl]
  simp -implicitDefEqProofs -dsimp only [go_sem, seval, ↓J0 _ _ U3]
  refine can qt9 ?_
  simp -implicitDefEqProofs -dsimp only [go_sem, seval, qpg, ↓J0 _ _ ql4]
  refine cpn (qxf b none hl) ?_
  have d1 : decide (((ql8 b).2 : Int) = 0) = decide ((ql8 b).2 = 0) := decide_eq_decide.2 (by omega)
  have d2 : decide ((k : Int) < ((ql8 b).1 : Int)) = decide (k < (ql8 b).1) := decide_eq_decide.2 (by omega)
  rcases h1 : decide ((ql8 b).2 = 0) with _ | _
  ·rcases h2 : decide (k < (ql8 b).1) with _ | _
   ·simp -implicitDefEqProofs -dsimp only [go_sem, seval, d1, d2, h1, h2, ↓J0 _ _ q81]
    refine can (qxd (ql8 b).2 hd.1) ?_
    simp -implicitDefEqProofs -dsimp only [go_sem, seval]
    rw [if_neg (by have := of_decide_eq_false h1; have := of_decide_eq_false h2; omega)]
    exact J9 rfl
   ·simp -implicitDefEqProofs -dsimp only [go_sem, seval, d1, d2, h1, h2, ↓J0 _ _ q2u]
    refine can qia ?_
    simp -implicitDefEqProofs -dsimp only [go_sem, seval]
    rw [if_pos (.inr (of_decide_eq_true h2))]
    exact J9 rfl
  ·simp -implicitDefEqProofs -dsimp only [go_sem, seval, d1, d2, h1, ↓J0 _ _ q2u]
   refine can qia ?_
   simp -implicitDefEqProofs -dsimp only [go_sem, seval]
   rw [if_pos (.inl (of_decide_eq_true h1))]
   exact J9 rfl
theorem zct {T : Tab} {id : Nat} {s : RS} (hl : Len s.1.length) : ACalls prog Y9 [.ptr id 0] (rT T id s) (fun v T' => v = .i .u64 (K3 18446744073709551615 s).1 /\ T' = rT T id (K3 18446744073709551615 s).2) := by
 refine U6 U1 qhv (by simp) ?_
 unfold qas
 simp -implicitDefEqProofs -dsimp only [go_sem, seval, ↓J0 _ _ q5j]
 refine can (qrg 18446744073709551615 hl) ?_
 simp -implicitDefEqProofs -dsimp only [go_sem, seval]
 exact J9 rfl
theorem z1i {T : Tab} {id : Nat} {s : RS} (k : Nat) (hk : k < 9223372036854775808) (hl : Len s.1.length) : ACalls prog K7 [.ptr id 0, .i .i64 k] (rT T id s) (fun v T' => v = .i .i64 (K3 k s).1 /\ T' = rT T id (K3 k s).2) := by
 refine U6 U1 qeu (by simp) ?_
 have d : decide ((k : Int) < 0) = false := decide_eq_false (by omega)
 have hle := q1z k s
 have w : IntKind.i64.wrap ((K3 k s).1 : Int) = (K3 k s).1 := q1m (by unfold I64; omega)
 unfold q8f
 simp -implicitDefEqProofs -dsimp only [go_sem, seval, d, q0m (n := k) (by omega), ↓J0 _ _ q5j]
 refine can (qrg k hl) ?_
 simp -implicitDefEqProofs -dsimp only [go_sem, seval, w]
 exact J9 rfl
theorem z39 {T : Tab} {id : Nat} {s : RS} (hl : Len s.1.length) : ACalls prog I6 [.ptr id 0] (rT T id s) (fun v T' => v = .b (decide ((K3 1 s).1 = 1)) /\ T' = rT T id (K3 1 s).2) := by
 refine U6 U1 qdv (by simp) ?_
 have d : decide (((K3 1 s).1 : Int) = 1) = decide ((K3 1 s).1 = 1) := decide_eq_decide.2 (by omega)
 unfold q7y
 simp -implicitDefEqProofs -dsimp only [go_sem, seval, ↓J0 _ _ q5j]
 refine can (qrg 1 hl) ?_
 simp -implicitDefEqProofs -dsimp only [go_sem, seval, d]
 exact J9 rfl
theorem qak : ∀ (l : List UInt8), q70 (N5 l) = some l
 | [] => rfl
 | b :: l => by
  have ih := qak l
  simp only [N5, List.map_cons, q70, qo7] at ih ⊢
  rw [ih]
  simp
theorem z01 {T : Tab} {id : Nat} {s : RS} (k : Nat) (hk : k < 9223372036854775808) (hl : Len s.1.length) : ACalls prog Y3 [.ptr id 0, .i .i64 k] (rT T id s) (fun v T' => v = .s (q1n k s).1 /\ T' = rT T id (q1n k s).2) := by
 refine U6 U1 qdx (by simp) ?_
 unfold q7z
 simp -implicitDefEqProofs -dsimp only [go_sem, seval, ↓J0 _ _ N1]
 refine can (z1i k hk hl) ?_
 simp -implicitDefEqProofs -dsimp only [go_sem, seval, ↓J0 _ _ U3]
 refine can qt9 ?_
 unfold q1n
 rcases h1 : (K3 k s).2.2 with _ | _
 ·have d : decide (((K3 k s).2.1.length : Int) < ((K3 k s).1 : Int)) = decide ((K3 k s).2.1.length < (K3 k s).1) := decide_eq_decide.2 (by omega)
  rcases h2 : decide ((K3 k s).2.1.length < (K3 k s).1) with _ | _
  ·have h2' := of_decide_eq_false h2
   have e : ((K3 k s).2.1.take (K3 k s).1).length = (K3 k s).1 := by rw [List.length_take]; omega
   simp -implicitDefEqProofs -dsimp only [go_sem, seval, h1, qpg, bts, d, h2, ↓J0 _ _ q81]
   refine can (qxd (K3 k s).1 (by omega)) ?_
   rw [if_neg (by rintro (h | h); exact absurd h (by decide); exact h2' h)]
   simp -implicitDefEqProofs -dsimp only [go_sem, seval, bts, e, q01, qak, h1]
   exact J9 rfl
  ·simp -implicitDefEqProofs -dsimp only [go_sem, seval, h1, qpg, bts, d, h2, ↓J0 _ _ q2u]
   refine can qia ?_
   simp -implicitDefEqProofs -dsimp only [go_sem, seval]
   rw [if_pos (.inr (of_decide_eq_true h2))]
   exact J9 rfl
 ·simp -implicitDefEqProofs -dsimp only [go_sem, seval, h1, ↓J0 _ _ q2u]
  refine can qia ?_
  simp -implicitDefEqProofs -dsimp only [go_sem, seval]
  rw [if_pos (by simp)]
  exact J9 rfl
theorem qff (xs : List UInt8) (cap : Option Nat) (hn : xs.length <= 1000000000) : PCalls prog O9 [bts xs cap] (bts xs none) := by
 refine K6 U1 q1b (by simp) fun T => ?_
 unfold q0d
 have main : ∀ K : AV -> Tab -> Prop, (∀ v T', Own T 1 v xs.length (N5 xs) T' -> K v T') -> q1h 1 1 T (.fz 0 [] (some 0)) (.fz xs.length (N5 xs) cap) K := fun K hK =>
  (Own.nil T 1).app (m := xs.length) (news := N5 xs) (by simp [Z9, q01]) rfl (by omega) (by omega) (by simpa using hK)
 simp -implicitDefEqProofs -dsimp only [go_sem, seval, bts, qw9]
 split
 ·refine main _ fun v T' h => ?_
  refine J1 ?_
  obtain ⟨q1, q2, q3, q4, q5, q6⟩ := h.form
  simp -implicitDefEqProofs -dsimp only [go_sem, seval, q1]
  exact h.fzn
 ·rename_i h0
  have e : xs = [] := List.length_eq_zero_iff.1 (by omega)
  subst e
  intro b
  refine K0 (fun h => ?_) (fun h => ?_) <;> simp -implicitDefEqProofs -dsimp only [go_sem, seval]
  ·exact (Own.nil T 1).fzn
  ·refine main _ fun v T' h => ?_
   refine J1 ?_
   obtain ⟨q1, q2, q3, q4, q5, q6⟩ := h.form
   simp -implicitDefEqProofs -dsimp only [go_sem, seval, q1]
   exact h.fzn
theorem z1j {T : Tab} (b : List UInt8) (cap : Option Nat) (hl : b.length <= 1000000000) : ACalls prog q7o [bts b cap] T (fun v T' => ∃ id, v = .ptr id 0 /\ T id = .unused /\ T' = rT T id (b, false)) := by
 refine U6 U1 qqr (by simp) ?_
 unfold qja
 simp -implicitDefEqProofs -dsimp only [go_sem, seval, ↓J0 _ _ Z1]
 refine cpn (qff b cap hl) ?_
 simp -implicitDefEqProofs -dsimp only [go_sem, seval, bts]
 intro id hid
 refine J1 ?_
 simp -implicitDefEqProofs -dsimp only [go_sem, seval]
 exact V9 _ (fun _ => .inr (.inl rfl)) ⟨id, rfl, hid, rfl⟩
theorem qk2 {T : Tab} {id : Nat} {s : RS} (h : T id = q5k s) : rT T id s = T := Tab.put_self h
theorem q42 {T : Tab} {id : Nat} {s : RS} : rT T id s id = q5k s := Tab.put_same ..
section
variable {T : Tab} {id : Nat} {s : RS}
theorem qby (h : T id = q5k s) : ACalls prog Q5 [.ptr id 0] T (fun v T' => v = .b s.2 /\ T' = T) := by
 have := qt9 (T := T) (id := id) (s := s); rwa [qk2 h] at this
theorem q3s (h : T id = q5k s) (k : Nat) (hk : k < 9223372036854775808) (hl : Len s.1.length) : ACalls prog K7 [.ptr id 0, .i .i64 k] T (fun v T' => v = .i .i64 (K3 k s).1 /\ T' = rT T id (K3 k s).2) := by
 have := z1i (T := T) (id := id) (s := s) k hk hl; rw [qk2 h] at this; exact this
theorem z1k (h : T id = q5k s) (hl : Len s.1.length) : ACalls prog Y9 [.ptr id 0] T (fun v T' => v = .i .u64 (K3 18446744073709551615 s).1 /\ T' = rT T id (K3 18446744073709551615 s).2) := by
 have := zct (T := T) (id := id) (s := s) hl; rw [qk2 h] at this; exact this
theorem qnh (h : T id = q5k s) (hl : Len s.1.length) : ACalls prog I6 [.ptr id 0] T (fun v T' => v = .b (decide ((K3 1 s).1 = 1)) /\ T' = rT T id (K3 1 s).2) := by
 have := z39 (T := T) (id := id) (s := s) hl; rw [qk2 h] at this; exact this
theorem qg6 (h : T id = q5k s) (k : Nat) (hk : k < 9223372036854775808) (hl : Len s.1.length) : ACalls prog Y3 [.ptr id 0, .i .i64 k] T (fun v T' => v = .s (q1n k s).1 /\ T' = rT T id (q1n k s).2) := by
 have := z01 (T := T) (id := id) (s := s) k hk hl; rw [qk2 h] at this; exact this
end
theorem Own.rd {B T1 : Tab} {id z n : Nat} {v : AV} {xs : List AV} {s : RS} (h : Own (rT B id s) z v n xs T1) (s' : RS) : Own (rT B id s') z v n xs (rT T1 id s') := by
 have hB : rT B id s id ≠ .unused := by rw [q42]; simp [q5k]
 obtain ⟨T0, h1, h2⟩ := Owns.base_put (s := q5k s') hB (Owns.one h)
 have e : T0 = rT B id s' := by
  rw [show T0 = (rT B id s).put id (q5k s') from h1]; exact Tab.put_put ..
 rw [e] at h2
 exact h2
theorem Own.rdAt {B T1 : Tab} {id z n : Nat} {v : AV} {xs : List AV} {s : RS} (h : Own (rT B id s) z v n xs T1) : T1 id = q5k s := by
 rw [h.at (by rw [q42]; simp [q5k]), q42]
theorem Owns.rd {B T1 : Tab} {id : Nat} {l : List Ow} {s : RS} (h : Owns (rT B id s) l T1) (s' : RS) : Owns (rT B id s') l (rT T1 id s') := by
 have hB : rT B id s id ≠ .unused := by rw [q42]; simp [q5k]
 have := Owns.base_put (s := q5k s') hB h
 rw [show (rT B id s).put id (q5k s') = rT B id s' from Tab.put_put ..] at this
 exact this
theorem Owns.rdAt {B T1 : Tab} {id : Nat} {l : List Ow} {s : RS} (h : Owns (rT B id s) l T1) : T1 id = q5k s := by
 rw [Owns.base_get (by rw [q42]; simp [q5k]) h, q42]
end Go.Aw
namespace Go.Aw
open Go
open Go.Proofs.Tryz (prog)
set_option linter.all false
set_option maxHeartbeats 4000000
def qbz (r : Rd) : List UInt8 := qbw r.k ++ enc r.n.toNat
def qcz (w : Wt) : List UInt8 := qbw w.k ++ qbw w.v ++ [qu1 w.g]
def qfg (t : Tx) : List UInt8 := enc t.cl.toNat ++ enc t.sq.toNat ++ [qu1 t.pl] ++ enc t.rs.length ++ t.rs.flatMap qbz ++ enc t.ws.length ++ t.ws.flatMap qcz
structure Tx.Good (t : Tx) : Prop where
 cl : 0 <= t.cl /\ t.cl < 6
 sq : 0 < t.sq /\ t.sq < 18446744073709551616
 r : t.rs.length <= 8
 w : t.ws.length <= 8
 rr : ∀ r ∈ t.rs, r.k.length <= 32 /\ 0 <= r.n /\ r.n < 18446744073709551616
 ww : ∀ w ∈ t.ws, w.k.length <= 32 /\ w.v.length <= 64
def rID (s : RS) : (Nat × Nat) × RS := (((K3 5 s).1, (K3 18446744073709551615 (K3 5 s).2).1), (K3 18446744073709551615 (K3 5 s).2).2)
def rRd (s : RS) : Rd × RS := (⟨(q1n 32 s).1, (K3 18446744073709551615 (q1n 32 s).2).1⟩, (K3 18446744073709551615 (q1n 32 s).2).2)
def rWt (s : RS) : Wt × RS := (⟨(q1n 32 s).1, (q1n 64 (q1n 32 s).2).1, decide ((K3 1 (q1n 64 (q1n 32 s).2).2).1 = 1)⟩, (K3 1 (q1n 64 (q1n 32 s).2).2).2)
def rTx (s : RS) : Tx × RS :=
 let a := rID s
 let p := K3 1 a.2
 let n := K3 8 p.2
 let rs := V8 rRd n.1 n.2
 let m := K3 8 rs.2
 let ws := V8 rWt m.1 m.2
 (⟨a.1.1, a.1.2, decide (p.1 = 1), rs.1, ws.1⟩, ws.2)
theorem z3a {r : Rd} (h : r.k.length <= 32 /\ 0 <= r.n /\ r.n < 18446744073709551616) (rest : List UInt8) : rRd (qbz r ++ rest, false) = (r, (rest, false)) := by
 obtain ⟨h1, h2, h3⟩ := h
 have e : qbz r ++ rest = enc r.k.length ++ r.k ++ (enc r.n.toNat ++ rest) := by simp [qbz, qbw]
 unfold rRd
 rw [e, q95 h1 (by omega)]
 simp only [Q6 (show r.n.toNat <= 18446744073709551615 by omega) (by omega)]
 rw [show ((r.n.toNat : Nat) : Int) = r.n by omega]
theorem z3b {w : Wt} (h : w.k.length <= 32 /\ w.v.length <= 64) (rest : List UInt8) : rWt (qcz w ++ rest, false) = (w, (rest, false)) := by
 obtain ⟨h1, h2⟩ := h
 have e : qcz w ++ rest = enc w.k.length ++ w.k ++ (enc w.v.length ++ w.v ++ (enc (if w.g = true then 1 else 0) ++ rest)) := by simp [qcz, qbw, qfv]
 unfold rWt
 rw [e, q95 h1 (by omega)]
 simp only [q95 h2 (show w.v.length < _ by omega)]
 rw [Q6 (by split <;> omega) (by split <;> omega)]
 obtain ⟨k, v, g⟩ := w
 cases g <;> simp
theorem qrh {t : Tx} (h : t.Good) (rest : List UInt8) : rTx (qfg t ++ rest, false) = (t, (rest, false)) := by
 obtain ⟨hcl, hsq, hr, hw, hrr, hww⟩ := h
 have e : qfg t ++ rest = enc t.cl.toNat ++ (enc t.sq.toNat ++ (enc (if t.pl = true then 1 else 0) ++ (enc t.rs.length ++ (t.rs.flatMap qbz ++ (enc t.ws.length ++ (t.ws.flatMap qcz ++ rest)))))) := by simp [qfg, qfv]
 unfold rTx rID
 rw [e, Q6 (by omega) (by omega)]
 simp only [Q6 (show t.sq.toNat <= 18446744073709551615 by omega) (by omega)]
 rw [Q6 (by split <;> omega) (by split <;> omega)]
 simp only [Q6 hr (show t.rs.length < _ by omega)]
 rw [qbc (g := qbz) (ok := fun r => r.k.length <= 32 /\ 0 <= r.n /\ r.n < 18446744073709551616) (fun x rest h => z3a h rest) t.rs _ hrr]
 simp only [Q6 hw (show t.ws.length < _ by omega)]
 rw [qbc (g := qcz) (ok := fun w => w.k.length <= 32 /\ w.v.length <= 64) (fun x rest h => z3b h rest) t.ws _ hww]
 obtain ⟨cl, sq, pl, rs, ws⟩ := t
 simp only at hcl hsq ⊢
 rw [show ((cl.toNat : Nat) : Int) = cl by omega, show ((sq.toNat : Nat) : Int) = sq by omega]
 cases pl <;> rfl
end Go.Aw
