import Derived.Test.YtpbnmegmhhkloaaDoorW06E12R
import Derived.Test.YtpbnmegmhhkloaaDoorAwD
namespace Go.Aw
open Go
open Go.Proofs.Tryd (prog)
set_option linter.all false
set_option maxHeartbeats 4000000
def qex (s : RS) : Slot := .row 2 [bts s.1 none, .b s.2]
def rT (T : Tab) (id : Nat) (s : RS) : Tab := T.put id (qex s)
theorem qhb {T : Tab} {id : Nat} {s : RS} : rT T id s id = .row 2 [bts s.1 none, .b s.2] := Tab.put_same ..
theorem qk3 {T : Tab} {id : Nat} {s : RS} : ACalls prog Q5 [.ptr id 0] (rT T id s) (fun v T' => v = .b s.2 /\ T' = rT T id s) := by
 refine K1 O5 q6w (by simp) ?_
 unfold q25
 simp -implicitDefEqProofs -dsimp only [go_sem, seval, qhb]
 exact J8 rfl
theorem qfq {T : Tab} {id : Nat} {s : RS} : ACalls prog Y4 [.ptr id 0] (rT T id s) (fun v T' => v = .tup [] /\ T' = rT T id (s.1, true)) := by
 refine K1 O5 q54 (by simp) ?_
 unfold q1d
 simp -implicitDefEqProofs -dsimp only [go_sem, seval, qhb]
 refine O6 (q := 2) (cells := [bts s.1 none, .b s.2]) qhb rfl rfl (by simp) (J7 ?_)
 simp -implicitDefEqProofs -dsimp only [go_sem, seval]
 refine K6 (.refl _) ?_
 unfold rT
 rw [Tab.put_put]
 rfl
theorem qol {T : Tab} {id : Nat} {s : RS} (n : Nat) (hn : n <= s.1.length) : ACalls prog Z5 [.ptr id 0, .i .i64 n] (rT T id s) (fun v T' => v = bts (s.1.take n) (some n) /\ T' = rT T id (s.1.drop n, s.2)) := by
 refine K1 O5 q5x (by simp) ?_
 have e1 : (s.1.take n).length = n := by rw [List.length_take]; omega
 have e2 : (s.1.drop n).length = s.1.length - n := List.length_drop
 have e3 : (s.1.drop n).take (s.1.length - n) = s.1.drop n := List.take_of_length_le (by omega)
 unfold q1t
 simp -implicitDefEqProofs -dsimp only [go_sem, seval, qhb, bts, hn, Nat.zero_le, Nat.le_refl, Int.natCast_nonneg, Int.toNat_natCast, Option.isSome_some, O1, q13, e3]
 refine O6 (q := 2) (cells := [bts s.1 none, .b s.2]) qhb rfl rfl (by simp) (J7 ?_)
 simp -implicitDefEqProofs -dsimp only [go_sem, seval]
 refine K6 (by rw [bts, e1]; exact .refl _) ?_
 unfold rT qex
 rw [Tab.put_put, bts, e2]
theorem qk4 (y : UInt8) : IntKind.u8.wrap ((BitVec.ofInt IntKind.u8.bits (y.toNat : Int) &&& BitVec.ofInt IntKind.u8.bits 127).toNat : Nat) = ((y.toNat % 128 : Nat) : Int) := by
 have h := qs3 ⟨y.toNat, y.toNat_lt⟩
 simp only at h
 rw [show IntKind.u8.bits = 8 from rfl, h, qby]
 omega
theorem qwa {c k : Nat} (h : c * 128 ^ k < 18446744073709551616) (hk : k <= 9) (hc : c < 128) : IntKind.u64.wrap (IntKind.u64.wrap (c : Int) * 2 ^ (min ((7 * k : Nat) : Int).toNat 64)) = ((c * 128 ^ k : Nat) : Int) := by
 rw [q9t (n := c) (by omega), Int.toNat_natCast, Nat.min_eq_left (by omega)]
 have e : ((c : Int) * 2 ^ (7 * k)) = ((c * 128 ^ k : Nat) : Int) := by rw [qn3]; push_cast; rfl
 rw [e, q9t h]
theorem qom {a c k : Nat} (ha : a < 128 ^ k) (h : a + c * 128 ^ k < 18446744073709551616) : IntKind.u64.wrap ((BitVec.ofInt IntKind.u64.bits (a : Int) ||| BitVec.ofInt IntKind.u64.bits ((c * 128 ^ k : Nat) : Int)).toNat : Nat) = ((a + c * 128 ^ k : Nat) : Int) := by
 have e : (BitVec.ofInt IntKind.u64.bits (a : Int) ||| BitVec.ofInt IntKind.u64.bits ((c * 128 ^ k : Nat) : Int)).toNat = a + c * 128 ^ k := by
  show (BitVec.ofInt 64 (a : Int) ||| BitVec.ofInt 64 ((c * 128 ^ k : Nat) : Int)).toNat = _
  rw [BitVec.toNat_or, BitVec.ofInt_natCast, BitVec.ofInt_natCast, BitVec.toNat_ofNat, BitVec.toNat_ofNat, Nat.mod_eq_of_lt (by omega), Nat.mod_eq_of_lt (by omega)]
  rw [qn3] at ha ⊢
  have := Nat.two_pow_add_eq_or_of_lt ha c
  rw [Nat.or_comm, Nat.mul_comm c, <- this, Nat.add_comm]
 rw [e, q9t h]
theorem qsq {a c k : Nat} (ha : a < 128 ^ k) (hc : c < 128) (h : k <= 8 \/ (k = 9 /\ c <= 1)) : a + c * 128 ^ k < 18446744073709551616 := by
 rcases h with h | ⟨rfl, h⟩
 ·have h8 : 128 ^ k <= 128 ^ 8 := Nat.pow_le_pow_right (by decide) h
  have h88 : (128 : Nat) ^ 8 = 72057594037927936 := by decide
  have : c * 128 ^ k <= 127 * 128 ^ k := Nat.mul_le_mul_right _ (by omega)
  omega
 ·have : (128 : Nat) ^ 9 = 9223372036854775808 := by decide
  rw [this] at ha ⊢
  omega
theorem qdl {R : Z1} (hR : ExtR R) {T : Tab} {b : List UInt8} {cap : Option Nat} (hl : Len b.length) : ∀ (ys : List UInt8) (k a : Nat), b.drop k = ys -> k <= b.length -> k <= 9 -> a < 128 ^ k ->
  (dec k a ys = none -> R .ret [(2, .i .u64 0), (3, .i .i64 0)] [] T) -> (dec k a ys = none -> ∀ a, R (.exit 0) [(4, .i .u64 a), (8, bts b cap), (9, .i .i64 b.length), (10, .i .i64 b.length), (11, .b false)] [] T) ->
  (∀ n z, dec k a ys = some (n, z) -> R .ret [(2, .i .u64 n), (3, .i .i64 z)] [] T) ->
  AW prog I1 R [(4, .i .u64 a), (8, bts b cap), (9, .i .i64 b.length), (10, .i .i64 k)] [] T := by
 intro ys
 induction ys with
 | nil =>
  intro k a hk hle h9 ha h0 hE h2
  have hk' := q35 hk hle
  refine q27 hR ?_
  unfold q0f
  simp -implicitDefEqProofs -dsimp only [go_sem, seval, hk', Int.lt_irrefl]
  have := hE rfl a
  rw [hk'] at this
  exact this
 | cons y ys ih =>
  intro k a hk hle h9 ha h0 hE h2
  obtain ⟨hlt, hy, hk'⟩ := q7d hk
  unfold Len at hl
  have hat : ((J1 b).drop k)[0]? = some (.i .u8 y.toNat) := by simp [J1, hy]
  have w7 : IntKind.i64.wrap (7 * (k : Int)) = ((7 * k : Nat) : Int) := by rw [K8 (by unfold I64; omega)]; omega
  have d1 : decide ((63 : Int) < ((7 * k : Nat) : Int)) = false := decide_eq_false (by omega)
  have d2 : decide (((7 * k : Nat) : Int) = 63) = decide (k = 9) := decide_eq_decide.2 (by omega)
  have d3 : decide ((1 : Int) < (y.toNat : Int)) = decide (1 < y.toNat) := decide_eq_decide.2 (by omega)
  have d4 : decide ((y.toNat : Int) < 128) = decide (y.toNat < 128) := decide_eq_decide.2 (by omega)
  have d5 : decide ((y.toNat : Int) = 0) = decide (y.toNat = 0) := decide_eq_decide.2 (by omega)
  have d6 : decide ((0 : Int) < (k : Int)) = decide (0 < k) := decide_eq_decide.2 (by omega)
  have hp0 : (((7 * k : Nat) : Int) < 0) = False := eq_false (Int.not_lt.2 (Int.natCast_nonneg _))
  have fin : ¬ (9 < k \/ (k = 9 /\ 1 < y.toNat)) -> AW prog I1 R [(4, .i .u64 a), (8, bts b cap), (9, .i .i64 b.length), (10, .i .i64 k)] [] T := by
   intro hok
   have hdec : dec k a (y :: ys) = if y.toNat < 128 then (if y.toNat = 0 /\ 0 < k then none else some (a + y.toNat % 128 * 128 ^ k, k + 1)) else dec (k + 1) (a + y.toNat % 128 * 128 ^ k) ys := by simp only [dec]; rw [if_neg hok]
   have hlow : k <= 8 \/ (k = 9 /\ y.toNat % 128 <= 1) := by omega
   have hm := Nat.mod_lt y.toNat (show 0 < 128 by decide)
   have hacc := qsq ha hm hlow
   have e1 := qwa (c := y.toNat % 128) (k := k) (by omega) h9 hm
   have e2 := qom ha hacc
   have hb : decide (k = 9) = false \/ (decide (k = 9) = true /\ decide (1 < y.toNat) = false) := by
    by_cases h : k = 9
    ·exact .inr ⟨decide_eq_true h, decide_eq_false (fun h1 => hok (.inr ⟨h, h1⟩))⟩
    ·exact .inl (decide_eq_false h)
   refine N6 (l := I1) rfl hR ?_
   unfold q0f
   simp -implicitDefEqProofs -dsimp only [go_sem, seval, bts, Int.ofNat_lt, hlt, Int.natCast_nonneg, Int.toNat_natCast, hat, w7, d1, d2, d3]
   rcases hb with hb | ⟨hb, hb2⟩
   all_goals
    simp -implicitDefEqProofs -dsimp only [go_sem, seval, hb, d2, d3, decide_true, decide_false, qk4]
    try simp -implicitDefEqProofs -dsimp only [go_sem, seval, hb2, d2, d3, decide_true, decide_false, qk4]
    simp -implicitDefEqProofs -dsimp only [go_sem, seval, hp0, e1, e2, d4]
    rcases h128 : decide (y.toNat < 128) with _ | _
    ·simp -implicitDefEqProofs -dsimp only [go_sem, seval, d4, h128]
     rw [q03 (by omega)]
     have h128' := of_decide_eq_false h128
     have hk9 : k ≠ 9 := by omega
     refine ih (k + 1) _ hk' hlt (by omega) ?_ (fun h => h0 (by rw [hdec, if_neg h128']; exact h)) (fun h => hE (by rw [hdec, if_neg h128']; exact h)) fun n z h => h2 n z ?_
     ·rw [Nat.pow_succ]
      have : y.toNat % 128 * 128 ^ k <= 127 * 128 ^ k := Nat.mul_le_mul_right _ (by omega)
      omega
     ·rw [hdec, if_neg h128']; exact h
    ·have h128' := of_decide_eq_true h128
     simp -implicitDefEqProofs -dsimp only [go_sem, seval, d4, d5, d6, h128]
     rcases h00 : decide (y.toNat = 0) with _ | _
     ·simp -implicitDefEqProofs -dsimp only [go_sem, seval, d4, d5, d6, h128, h00, decide_true, decide_false]
      rw [q03 (by omega)]
      exact h2 _ _ (by rw [hdec, if_pos h128', if_neg (fun h => of_decide_eq_false h00 h.1)])
     ·rcases hk0 : decide (0 < k) with _ | _
      ·simp -implicitDefEqProofs -dsimp only [go_sem, seval, d4, d5, d6, h128, h00, hk0, decide_true, decide_false]
       rw [q03 (by omega)]
       exact h2 _ _ (by rw [hdec, if_pos h128', if_neg (fun h => of_decide_eq_false hk0 h.2)])
      ·simp -implicitDefEqProofs -dsimp only [go_sem, seval, d4, d5, d6, h128, h00, hk0, decide_true, decide_false]
       exact h0 (by rw [hdec, if_pos h128', if_pos ⟨of_decide_eq_true h00, of_decide_eq_true hk0⟩])
  by_cases hok : 9 < k \/ (k = 9 /\ 1 < y.toNat)
  ·obtain ⟨rfl, h1⟩ : k = 9 /\ 1 < y.toNat := by omega
   refine N6 (l := I1) rfl hR ?_
   unfold q0f
   have t1 : decide (1 < y.toNat) = true := decide_eq_true h1
   simp -implicitDefEqProofs -dsimp only [go_sem, Nat.reduceEqDiff, Nat.reduceAdd, Nat.reduceMul, Nat.reduceSub, Nat.reduceLT, Nat.reduceLeDiff, Nat.reduceBEq, reduceIte, reduceCtorEq, Int.reduceLT, Int.reduceLE, Int.reduceEq, Int.reduceNeg, Int.reduceToNat, Int.reduceAdd, Int.reduceSub, bts, Int.ofNat_lt, hlt, Int.natCast_nonneg, Int.toNat_natCast, hat, w7, d1, d2, d3, decide_true, decide_false, t1]
   exact h0 (by simp [dec, h1])
  ·exact fin hok
def qai (b : List UInt8) : Nat × Nat := match dec 0 0 b with
 | some r => r
 | none => (0, 0)
theorem qk5 (b : List UInt8) (c : Option Nat) (hl : Len b.length) : PCalls prog q12 [bts b c] (.tup [.i .u64 (qai b).1, .i .i64 (qai b).2]) := by
 refine K7 O5 qag (by simp) fun T => ?_
 unfold q5c
 cases hd : dec 0 0 b with
 | none =>
  have e : qai b = (0, 0) := by unfold qai; rw [hd]
  rw [e]
  simp -implicitDefEqProofs -dsimp only [go_sem, seval, bts]
  refine qdl (T := T) (by repeat' (first | exact N3 _ _ | assumption | apply N2 | apply K3 | apply V2)) hl b 0 0 rfl (by omega) (by omega) (by decide) (fun _ => ?_) (fun _ a => ?_) (fun n z h => by rw [hd] at h; cases h)
  ·simp -implicitDefEqProofs -dsimp only [go_sem, seval]
   exact J8 rfl
  ·simp -implicitDefEqProofs -dsimp only [go_sem, seval]
   exact J8 rfl
 | some r =>
  have e : qai b = r := by unfold qai; rw [hd]
  obtain ⟨n, z⟩ := r
  rw [e]
  simp -implicitDefEqProofs -dsimp only [go_sem, seval, bts]
  refine qdl (T := T) (by repeat' (first | exact N3 _ _ | assumption | apply N2 | apply K3 | apply V2)) hl b 0 0 rfl (by omega) (by omega) (by decide) (fun h => by rw [hd] at h; cases h) (fun h a => by rw [hd] at h; cases h) (fun n' z' h => ?_)
  rw [hd] at h
  injection h with h; injection h with h1 h2
  subst h1; subst h2
  simp -implicitDefEqProofs -dsimp only [go_sem, seval]
  exact J8 rfl
theorem qmm {k : Nat} {s : RS} (h : s.2 = false) : q1a k s = if (qai s.1).2 = 0 \/ k < (qai s.1).1 then (0, (s.1, true)) else ((qai s.1).1, (s.1.drop (qai s.1).2, false)) := by
 unfold q1a qai
 rw [if_neg (by rw [h]; decide)]
 cases hd : dec 0 0 s.1 with
 | none => simp
 | some r =>
  obtain ⟨n, z⟩ := r
  obtain ⟨h1, h2, _⟩ := qfh hd
  have hz : z ≠ 0 := by
   have := List.length_pos_iff.2 (qs4 n)
   omega
  simp only [hz, false_or]
  by_cases hk : n <= k
  ·rw [if_pos hk, if_neg (by omega)]
  ·rw [if_neg hk, if_pos (by omega)]
theorem qon (b : List UInt8) : (qai b).2 <= b.length /\ (qai b).1 < 18446744073709551616 := by
 unfold qai
 cases hd : dec 0 0 b with
 | none => simp
 | some r =>
  obtain ⟨n, z⟩ := r
  obtain ⟨h1, h2, h3, h4⟩ := qfh hd
  exact ⟨h2, h4⟩
theorem qoo {T : Tab} {id : Nat} {s : RS} (k : Nat) (hl : Len s.1.length) : ACalls prog Z4 [.ptr id 0, .i .u64 k] (rT T id s) (fun v T' => v = .i .u64 (q1a k s).1 /\ T' = rT T id (q1a k s).2) := by
 refine K1 O5 q5s (by simp) ?_
 unfold q1s
 obtain ⟨b, bad⟩ := s
 have hd := qon b
 cases bad with
 | true =>
  rw [qj1 rfl]
  simp -implicitDefEqProofs -dsimp only [go_sem, seval, ↓J2 _ _ q0s]
  refine can qk3 ?_
  simp -implicitDefEqProofs -dsimp only [go_sem, seval]
  exact J8 rfl
 | false =>
  rw [qmm rfl]
  simp -implicitDefEqProofs -dsimp only [go_sem, seval, ↓J2 _ _ q0s]
  refine can qk3 ?_
  simp -implicitDefEqProofs -dsimp only [go_sem, seval, qhb, ↓J2 _ _ qah]
  refine cpn (qk5 b none hl) ?_
  have d1 : decide (((qai b).2 : Int) = 0) = decide ((qai b).2 = 0) := decide_eq_decide.2 (by omega)
  have d2 : decide ((k : Int) < ((qai b).1 : Int)) = decide (k < (qai b).1) := decide_eq_decide.2 (by omega)
  rcases h1 : decide ((qai b).2 = 0) with _ | _
  ·rcases h2 : decide (k < (qai b).1) with _ | _
   ·simp -implicitDefEqProofs -dsimp only [go_sem, seval, d1, d2, h1, h2, ↓J2 _ _ q5y]
    refine can (qol (qai b).2 hd.1) ?_
    simp -implicitDefEqProofs -dsimp only [go_sem, seval]
    rw [if_neg (by have := of_decide_eq_false h1; have := of_decide_eq_false h2; omega)]
    exact J8 rfl
   ·simp -implicitDefEqProofs -dsimp only [go_sem, seval, d1, d2, h1, h2, ↓J2 _ _ q1e]
    refine can qfq ?_
    simp -implicitDefEqProofs -dsimp only [go_sem, seval]
    rw [if_pos (.inr (of_decide_eq_true h2))]
    exact J8 rfl
  ·simp -implicitDefEqProofs -dsimp only [go_sem, seval, d1, d2, h1, ↓J2 _ _ q1e]
   refine can qfq ?_
   simp -implicitDefEqProofs -dsimp only [go_sem, seval]
   rw [if_pos (.inl (of_decide_eq_true h1))]
   exact J8 rfl
theorem qwb {T : Tab} {id : Nat} {s : RS} (hl : Len s.1.length) : ACalls prog V5 [.ptr id 0] (rT T id s) (fun v T' => v = .i .u64 (q1a 18446744073709551615 s).1 /\ T' = rT T id (q1a 18446744073709551615 s).2) := by
 refine K1 O5 q8k (by simp) ?_
 unfold q3m
 simp -implicitDefEqProofs -dsimp only [go_sem, seval, ↓J2 _ _ q5t]
 refine can (qoo 18446744073709551615 hl) ?_
 simp -implicitDefEqProofs -dsimp only [go_sem, seval]
 exact J8 rfl
theorem qcb (xs : List UInt8) (cap : Option Nat) (hn : xs.length <= 1000000000) : PCalls prog J3 [bts xs cap] (bts xs none) := by
 refine K7 O5 Y8 (by simp) fun T => ?_
 unfold Q7
 have main : ∀ K : AV -> Tab -> Prop, (∀ v T', Own T 1 v xs.length (J1 xs) T' -> K v T') -> Z0 1 1 T (.fz 0 [] (some 0)) (.fz xs.length (J1 xs) cap) K := fun K hK =>
  (Own.nil T 1).app (m := xs.length) (news := J1 xs) (by simp [N1, U0]) rfl (by omega) (by omega) (by simpa using hK)
 simp -implicitDefEqProofs -dsimp only [go_sem, seval, bts, qis]
 split
 ·refine main _ fun v T' h => ?_
  refine J7 ?_
  obtain ⟨q1, q2, q3, q4, q5, q6⟩ := h.form
  simp -implicitDefEqProofs -dsimp only [go_sem, seval, q1]
  exact h.fzn
 ·rename_i h0
  have e : xs = [] := List.length_eq_zero_iff.1 (by omega)
  subst e
  intro b
  refine V6 (fun h => ?_) (fun h => ?_) <;> simp -implicitDefEqProofs -dsimp only [go_sem, seval]
  ·exact (Own.nil T 1).fzn
  ·refine main _ fun v T' h => ?_
   refine J7 ?_
   obtain ⟨q1, q2, q3, q4, q5, q6⟩ := h.form
   simp -implicitDefEqProofs -dsimp only [go_sem, seval, q1]
   exact h.fzn
theorem qsr {T : Tab} (b : List UInt8) (cap : Option Nat) (hl : b.length <= 1000000000) : ACalls prog q1p [bts b cap] T (fun v T' => ∃ id, v = .ptr id 0 /\ T id = .unused /\ T' = rT T id (b, false)) := by
 refine K1 O5 qel (by simp) ?_
 unfold q9r
 simp -implicitDefEqProofs -dsimp only [go_sem, seval, ↓J2 _ _ J9]
 refine cpn (qcb b cap hl) ?_
 simp -implicitDefEqProofs -dsimp only [go_sem, seval, bts]
 intro id hid
 refine J7 ?_
 simp -implicitDefEqProofs -dsimp only [go_sem, seval]
 exact q19 _ (fun _ => .inr (.inl rfl)) ⟨id, rfl, hid, rfl⟩
theorem qk6 {T : Tab} {id : Nat} {s : RS} (h : T id = qex s) : rT T id s = T := Tab.put_self h
theorem qk7 {T : Tab} {id : Nat} {s : RS} : rT T id s id = qex s := Tab.put_same ..
section
variable {T : Tab} {id : Nat} {s : RS}
theorem qss (h : T id = qex s) : ACalls prog Q5 [.ptr id 0] T (fun v T' => v = .b s.2 /\ T' = T) := by
 have := qk3 (T := T) (id := id) (s := s); rwa [qk6 h] at this
theorem qvq (h : T id = qex s) (hl : Len s.1.length) : ACalls prog V5 [.ptr id 0] T (fun v T' => v = .i .u64 (q1a 18446744073709551615 s).1 /\ T' = rT T id (q1a 18446744073709551615 s).2) := by
 have := qwb (T := T) (id := id) (s := s) hl; rw [qk6 h] at this; exact this
end
end Go.Aw
