import Derived.Test.YteiamcnjlpbihaaGreatDoorN17E12R
import Derived.Test.YteiamcnjlpbihaaGreatDoorAwD
namespace Go.Aw
open Go
open Go.Proofs.Tryz (prog)
set_option linter.all false
set_option maxHeartbeats 4000000
def q9a (s : RS) : Slot := .row 2 [bts s.1 none, .b s.2]
def rT (T : Tab) (id : Nat) (s : RS) : Tab := T.put id (q9a s)
theorem qyh {T : Tab} {id : Nat} {s : RS} : rT T id s id = .row 2 [bts s.1 none, .b s.2] := Tab.put_same ..
theorem qif {T : Tab} {id : Nat} {s s' : RS} : rT (rT T id s) id s' = rT T id s' := Tab.put_put ..
theorem z1y {T : Tab} {id : Nat} {s : RS} : ACalls prog V1 [.ptr id 0] (rT T id s) (fun v T' => v = .b s.2 /\ T' = rT T id s) := by
 refine Z3 U3 qnp (by simp) ?_
 unfold qe0
 simp -implicitDefEqProofs -dsimp only [go_sem, seval, qyh]
 exact J9 rfl
theorem qqk {T : Tab} {id : Nat} {s : RS} : ACalls prog q1m [.ptr id 0] (rT T id s) (fun v T' => v = .tup [] /\ T' = rT T id (s.1, true)) := by
 refine Z3 U3 qk9 (by simp) ?_
 unfold qc7
 simp -implicitDefEqProofs -dsimp only [go_sem, seval, qyh]
 refine q35 (q := 2) (cells := [bts s.1 none, .b s.2]) qyh rfl rfl (by simp) (J1 ?_)
 simp -implicitDefEqProofs -dsimp only [go_sem, seval]
 refine qev (.refl _) ?_
 unfold rT
 rw [Tab.put_put]
 rfl
theorem qb1 (l : List UInt8) (k : Nat) : (K8 l).take k = K8 (l.take k) := by simp [K8, List.map_take]
theorem qel (l : List UInt8) (k : Nat) : (K8 l).drop k = K8 (l.drop k) := by simp [K8, List.map_drop]
theorem z6f {T : Tab} {id : Nat} {s : RS} (n : Nat) (hn : n <= s.1.length) : ACalls prog q3d [.ptr id 0, .i .i64 n] (rT T id s) (fun v T' => v = bts (s.1.take n) (some n) /\ T' = rT T id (s.1.drop n, s.2)) := by
 refine Z3 U3 qm0 (by simp) ?_
 have e1 : (s.1.take n).length = n := by rw [List.length_take]; omega
 have e2 : (s.1.drop n).length = s.1.length - n := List.length_drop
 have e3 : (s.1.drop n).take (s.1.length - n) = s.1.drop n := List.take_of_length_le (by omega)
 unfold qd5
 simp -implicitDefEqProofs -dsimp only [go_sem, seval, qyh, bts, hn, Nat.zero_le, Nat.le_refl, Int.natCast_nonneg, Int.toNat_natCast, Option.isSome_some, qb1, qel, e3]
 refine q35 (q := 2) (cells := [bts s.1 none, .b s.2]) qyh rfl rfl (by simp) (J1 ?_)
 simp -implicitDefEqProofs -dsimp only [go_sem, seval]
 refine qev (by rw [bts, e1]; exact .refl _) ?_
 unfold rT q9a
 rw [Tab.put_put, bts, e2]
theorem z6g (y : UInt8) : IntKind.u8.wrap ((BitVec.ofInt IntKind.u8.bits (y.toNat : Int) &&& BitVec.ofInt IntKind.u8.bits 127).toNat : Nat) = ((y.toNat % 128 : Nat) : Int) := by
 have h := zgv ⟨y.toNat, y.toNat_lt⟩
 simp only at h
 rw [show IntKind.u8.bits = 8 from rfl, h, qck]
 omega
theorem zmv {c k : Nat} (h : c * 128 ^ k < 18446744073709551616) (hk : k <= 9) (hc : c < 128) : IntKind.u64.wrap (IntKind.u64.wrap (c : Int) * 2 ^ (min ((7 * k : Nat) : Int).toNat 64)) = ((c * 128 ^ k : Nat) : Int) := by
 rw [q0r (n := c) (by omega), Int.toNat_natCast, Nat.min_eq_left (by omega)]
 have e : ((c : Int) * 2 ^ (7 * k)) = ((c * 128 ^ k : Nat) : Int) := by rw [zan]; push_cast; rfl
 rw [e, q0r h]
theorem zcl {a c k : Nat} (ha : a < 128 ^ k) (h : a + c * 128 ^ k < 18446744073709551616) : IntKind.u64.wrap ((BitVec.ofInt IntKind.u64.bits (a : Int) ||| BitVec.ofInt IntKind.u64.bits ((c * 128 ^ k : Nat) : Int)).toNat : Nat) = ((a + c * 128 ^ k : Nat) : Int) := by
 have e : (BitVec.ofInt IntKind.u64.bits (a : Int) ||| BitVec.ofInt IntKind.u64.bits ((c * 128 ^ k : Nat) : Int)).toNat = a + c * 128 ^ k := by
  show (BitVec.ofInt 64 (a : Int) ||| BitVec.ofInt 64 ((c * 128 ^ k : Nat) : Int)).toNat = _
  rw [BitVec.toNat_or, BitVec.ofInt_natCast, BitVec.ofInt_natCast, BitVec.toNat_ofNat, BitVec.toNat_ofNat, Nat.mod_eq_of_lt (by omega), Nat.mod_eq_of_lt (by omega)]
  rw [zan] at ha ⊢
  have := Nat.two_pow_add_eq_or_of_lt ha c
  rw [Nat.or_comm, Nat.mul_comm c, <- this, Nat.add_comm]
 rw [e, q0r h]
theorem zha {a c k : Nat} (ha : a < 128 ^ k) (hc : c < 128) (h : k <= 8 \/ (k = 9 /\ c <= 1)) : a + c * 128 ^ k < 18446744073709551616 := by
 rcases h with h | ⟨rfl, h⟩
 ·have h8 : 128 ^ k <= 128 ^ 8 := Nat.pow_le_pow_right (by decide) h
  have h88 : (128 : Nat) ^ 8 = 72057594037927936 := by decide
  have : c * 128 ^ k <= 127 * 128 ^ k := Nat.mul_le_mul_right _ (by omega)
  omega
 ·have : (128 : Nat) ^ 9 = 9223372036854775808 := by decide
  rw [this] at ha ⊢
  omega
theorem qyi {R : Z1} (hR : ExtR R) {T : Tab} {b : List UInt8} {cap : Option Nat} (hl : Len b.length) : ∀ (ys : List UInt8) (k a : Nat), b.drop k = ys -> k <= b.length -> k <= 9 -> a < 128 ^ k ->
  (dec k a ys = none -> R .ret [(2, .i .u64 0), (3, .i .i64 0)] [] T) -> (dec k a ys = none -> ∀ a, R (.exit 0) [(4, .i .u64 a), (8, bts b cap), (9, .i .i64 b.length), (10, .i .i64 b.length), (11, .b false)] [] T) ->
  (∀ n z, dec k a ys = some (n, z) -> R .ret [(2, .i .u64 n), (3, .i .i64 z)] [] T) ->
  AW prog q7r R [(4, .i .u64 a), (8, bts b cap), (9, .i .i64 b.length), (10, .i .i64 k)] [] T := by
 intro ys
 induction ys with
 | nil =>
  intro k a hk hle h9 ha h0 hE h2
  have hk' := Q7 hk hle
  refine Q5 hR ?_
  unfold q90
  simp -implicitDefEqProofs -dsimp only [go_sem, seval, hk', Int.lt_irrefl]
  have := hE rfl a
  rw [hk'] at this
  exact this
 | cons y ys ih =>
  intro k a hk hle h9 ha h0 hE h2
  obtain ⟨hlt, hy, hk'⟩ := U6 hk
  unfold Len at hl
  have hat : ((K8 b).drop k)[0]? = some (.i .u8 y.toNat) := by simp [K8, hy]
  have w7 : IntKind.i64.wrap (7 * (k : Int)) = ((7 * k : Nat) : Int) := by rw [q2l (by unfold I64; omega)]; omega
  have d1 : decide ((63 : Int) < ((7 * k : Nat) : Int)) = false := decide_eq_false (by omega)
  have d2 : decide (((7 * k : Nat) : Int) = 63) = decide (k = 9) := decide_eq_decide.2 (by omega)
  have d3 : decide ((1 : Int) < (y.toNat : Int)) = decide (1 < y.toNat) := decide_eq_decide.2 (by omega)
  have d4 : decide ((y.toNat : Int) < 128) = decide (y.toNat < 128) := decide_eq_decide.2 (by omega)
  have d5 : decide ((y.toNat : Int) = 0) = decide (y.toNat = 0) := decide_eq_decide.2 (by omega)
  have d6 : decide ((0 : Int) < (k : Int)) = decide (0 < k) := decide_eq_decide.2 (by omega)
  have hp0 : (((7 * k : Nat) : Int) < 0) = False := eq_false (Int.not_lt.2 (Int.natCast_nonneg _))
  have fin : ¬ (9 < k \/ (k = 9 /\ 1 < y.toNat)) -> AW prog q7r R [(4, .i .u64 a), (8, bts b cap), (9, .i .i64 b.length), (10, .i .i64 k)] [] T := by
   intro hok
   have hdec : dec k a (y :: ys) = if y.toNat < 128 then (if y.toNat = 0 /\ 0 < k then none else some (a + y.toNat % 128 * 128 ^ k, k + 1)) else dec (k + 1) (a + y.toNat % 128 * 128 ^ k) ys := by simp only [dec]; rw [if_neg hok]
   have hlow : k <= 8 \/ (k = 9 /\ y.toNat % 128 <= 1) := by omega
   have hm := Nat.mod_lt y.toNat (show 0 < 128 by decide)
   have hacc := zha ha hm hlow
   have e1 := zmv (c := y.toNat % 128) (k := k) (by omega) h9 hm
   have e2 := zcl ha hacc
   have hb : decide (k = 9) = false \/ (decide (k = 9) = true /\ decide (1 < y.toNat) = false) := by
    by_cases h : k = 9
    ·exact .inr ⟨decide_eq_true h, decide_eq_false (fun h1 => hok (.inr ⟨h, h1⟩))⟩
    ·exact .inl (decide_eq_false h)
   refine O0 (l := q7r) rfl hR ?_
   unfold q90
   simp -implicitDefEqProofs -dsimp only [go_sem, seval, bts, Int.ofNat_lt, hlt, Int.natCast_nonneg, Int.toNat_natCast, hat, w7, d1, d2, d3]
   rcases hb with hb | ⟨hb, hb2⟩
   all_goals
    simp -implicitDefEqProofs -dsimp only [go_sem, seval, hb, d2, d3, decide_true, decide_false, z6g]
    try simp -implicitDefEqProofs -dsimp only [go_sem, seval, hb2, d2, d3, decide_true, decide_false, z6g]
    simp -implicitDefEqProofs -dsimp only [go_sem, seval, hp0, e1, e2, d4]
    rcases h128 : decide (y.toNat < 128) with _ | _
    ·simp -implicitDefEqProofs -dsimp only [go_sem, seval, d4, h128]
     rw [N4 (by omega)]
     have h128' := of_decide_eq_false h128
     have hk9 : k ≠ 9 := by omega
     refine ih (k + 1) _ hk' hlt (by omega) ?_ (fun h => h0 (by rw [hdec, if_neg h128']; exact h)) (fun h => hE (by rw [hdec, if_neg h128']; exact h)) fun n z h => h2 n z ?_
     ·rw [Nat.pow_succ]
      have : y.toNat % 128 * 128 ^ k <= 127 * 128 ^ k := Nat.mul_le_mul_right _ (by omega)
      omega
     ·rw [hdec, if_neg h128']; exact h
    ·have h128' := of_decide_eq_true h128
     simp -implicitDefEqProofs -dsimp only [go_sem, seval, d4, d5, d6, h128]
     rcases h00 : decide (y.toNat = 0) with _ | _
     ·simp -implicitDefEqProofs -dsimp only [go_sem, seval, d4, d5, d6, h128, h00, decide_true, decide_false]
      rw [N4 (by omega)]
      exact h2 _ _ (by rw [hdec, if_pos h128', if_neg (fun h => of_decide_eq_false h00 h.1)])
     ·rcases hk0 : decide (0 < k) with _ | _
      ·simp -implicitDefEqProofs -dsimp only [go_sem, seval, d4, d5, d6, h128, h00, hk0, decide_true, decide_false]
       rw [N4 (by omega)]
       exact h2 _ _ (by rw [hdec, if_pos h128', if_neg (fun h => of_decide_eq_false hk0 h.2)])
      ·simp -implicitDefEqProofs -dsimp only [go_sem, seval, d4, d5, d6, h128, h00, hk0, decide_true, decide_false]
       exact h0 (by rw [hdec, if_pos h128', if_pos ⟨of_decide_eq_true h00, of_decide_eq_true hk0⟩])
  by_cases hok : 9 < k \/ (k = 9 /\ 1 < y.toNat)
  ·obtain ⟨rfl, h1⟩ : k = 9 /\ 1 < y.toNat := by omega
   refine O0 (l := q7r) rfl hR ?_
   unfold q90
   have t1 : decide (1 < y.toNat) = true := decide_eq_true h1
   simp -implicitDefEqProofs -dsimp only [go_sem, Nat.reduceEqDiff, Nat.reduceAdd, Nat.reduceMul, Nat.reduceSub, Nat.reduceLT, Nat.reduceLeDiff, Nat.reduceBEq, reduceIte, reduceCtorEq, Int.reduceLT, Int.reduceLE, Int.reduceEq, Int.reduceNeg, Int.reduceToNat, Int.reduceAdd, Int.reduceSub, bts, Int.ofNat_lt, hlt, Int.natCast_nonneg, Int.toNat_natCast, hat, w7, d1, d2, d3, decide_true, decide_false, t1]
   exact h0 (by simp [dec, h1])
  ·exact fin hok
def qtp (b : List UInt8) : Nat × Nat := match dec 0 0 b with
 | some r => r
 | none => (0, 0)
theorem z6h (b : List UInt8) (c : Option Nat) (hl : Len b.length) : PCalls prog qb0 [bts b c] (.tup [.i .u64 (qtp b).1, .i .i64 (qtp b).2]) := by
 refine K7 U3 qtk (by simp) fun T => ?_
 unfold qkm
 cases hd : dec 0 0 b with
 | none =>
  have e : qtp b = (0, 0) := by unfold qtp; rw [hd]
  rw [e]
  simp -implicitDefEqProofs -dsimp only [go_sem, seval, bts]
  refine qyi (T := T) (by repeat' (first | exact N2 _ _ | assumption | apply N1 | apply K9 | apply Q3)) hl b 0 0 rfl (by omega) (by omega) (by decide) (fun _ => ?_) (fun _ a => ?_) (fun n z h => by rw [hd] at h; cases h)
  ·simp -implicitDefEqProofs -dsimp only [go_sem, seval]
   exact J9 rfl
  ·simp -implicitDefEqProofs -dsimp only [go_sem, seval]
   exact J9 rfl
 | some r =>
  have e : qtp b = r := by unfold qtp; rw [hd]
  obtain ⟨n, z⟩ := r
  rw [e]
  simp -implicitDefEqProofs -dsimp only [go_sem, seval, bts]
  refine qyi (T := T) (by repeat' (first | exact N2 _ _ | assumption | apply N1 | apply K9 | apply Q3)) hl b 0 0 rfl (by omega) (by omega) (by decide) (fun h => by rw [hd] at h; cases h) (fun h a => by rw [hd] at h; cases h) (fun n' z' h => ?_)
  rw [hd] at h
  injection h with h; injection h with h1 h2
  subst h1; subst h2
  simp -implicitDefEqProofs -dsimp only [go_sem, seval]
  exact J9 rfl
theorem z93 {k : Nat} {s : RS} (h : s.2 = false) : K2 k s = if (qtp s.1).2 = 0 \/ k < (qtp s.1).1 then (0, (s.1, true)) else ((qtp s.1).1, (s.1.drop (qtp s.1).2, false)) := by
 unfold K2 qtp
 rw [if_neg (by rw [h]; decide)]
 cases hd : dec 0 0 s.1 with
 | none => simp
 | some r =>
  obtain ⟨n, z⟩ := r
  obtain ⟨h1, h2, _⟩ := qv8 hd
  have hz : z ≠ 0 := by
   have := List.length_pos_iff.2 (z1n n)
   omega
  simp only [hz, false_or]
  by_cases hk : n <= k
  ·rw [if_pos hk, if_neg (by omega)]
  ·rw [if_neg hk, if_pos (by omega)]
theorem zcm (b : List UInt8) : (qtp b).2 <= b.length /\ (qtp b).1 < 18446744073709551616 := by
 unfold qtp
 cases hd : dec 0 0 b with
 | none => simp
 | some r =>
  obtain ⟨n, z⟩ := r
  obtain ⟨h1, h2, h3, h4⟩ := qv8 hd
  exact ⟨h2, h4⟩
theorem z0q {T : Tab} {id : Nat} {s : RS} (k : Nat) (hl : Len s.1.length) : ACalls prog q23 [.ptr id 0, .i .u64 k] (rT T id s) (fun v T' => v = .i .u64 (K2 k s).1 /\ T' = rT T id (K2 k s).2) := by
 refine Z3 U3 qls (by simp) ?_
 unfold qd2
 obtain ⟨b, bad⟩ := s
 have hd := zcm b
 cases bad with
 | true =>
  rw [z5j rfl]
  simp -implicitDefEqProofs -dsimp only [go_sem, seval, ↓J0 _ _ Y2]
  refine can z1y ?_
  simp -implicitDefEqProofs -dsimp only [go_sem, seval]
  exact J9 rfl
 | false =>
  rw [z93 rfl]
  simp -implicitDefEqProofs -dsimp only [go_sem, seval, ↓J0 _ _ Y2]
  refine can z1y ?_
  simp -implicitDefEqProofs -dsimp only [go_sem, seval, qyh, ↓J0 _ _ qtl]
  refine cpn (z6h b none hl) ?_
  have d1 : decide (((qtp b).2 : Int) = 0) = decide ((qtp b).2 = 0) := decide_eq_decide.2 (by omega)
  have d2 : decide ((k : Int) < ((qtp b).1 : Int)) = decide (k < (qtp b).1) := decide_eq_decide.2 (by omega)
  rcases h1 : decide ((qtp b).2 = 0) with _ | _
  ·rcases h2 : decide (k < (qtp b).1) with _ | _
   ·simp -implicitDefEqProofs -dsimp only [go_sem, seval, d1, d2, h1, h2, ↓J0 _ _ qd6]
    refine can (z6f (qtp b).2 hd.1) ?_
    simp -implicitDefEqProofs -dsimp only [go_sem, seval]
    rw [if_neg (by have := of_decide_eq_false h1; have := of_decide_eq_false h2; omega)]
    exact J9 rfl
   ·simp -implicitDefEqProofs -dsimp only [go_sem, seval, d1, d2, h1, h2, ↓J0 _ _ q4w]
    refine can qqk ?_
    simp -implicitDefEqProofs -dsimp only [go_sem, seval]
    rw [if_pos (.inr (of_decide_eq_true h2))]
    exact J9 rfl
  ·simp -implicitDefEqProofs -dsimp only [go_sem, seval, d1, d2, h1, ↓J0 _ _ q4w]
   refine can qqk ?_
   simp -implicitDefEqProofs -dsimp only [go_sem, seval]
   rw [if_pos (.inl (of_decide_eq_true h1))]
   exact J9 rfl
theorem zmw {T : Tab} {id : Nat} {s : RS} (hl : Len s.1.length) : ACalls prog I7 [.ptr id 0] (rT T id s) (fun v T' => v = .i .u64 (K2 18446744073709551615 s).1 /\ T' = rT T id (K2 18446744073709551615 s).2) := by
 refine Z3 U3 qq4 (by simp) ?_
 unfold qgz
 simp -implicitDefEqProofs -dsimp only [go_sem, seval, ↓J0 _ _ q98]
 refine can (z0q 18446744073709551615 hl) ?_
 simp -implicitDefEqProofs -dsimp only [go_sem, seval]
 exact J9 rfl
theorem zat {T : Tab} {id : Nat} {s : RS} (k : Nat) (hk : k < 9223372036854775808) (hl : Len s.1.length) : ACalls prog N3 [.ptr id 0, .i .i64 k] (rT T id s) (fun v T' => v = .i .i64 (K2 k s).1 /\ T' = rT T id (K2 k s).2) := by
 refine Z3 U3 qnb (by simp) ?_
 have d : decide ((k : Int) < 0) = false := decide_eq_false (by omega)
 have hle := q1d k s
 have w : IntKind.i64.wrap ((K2 k s).1 : Int) = (K2 k s).1 := q2l (by unfold I64; omega)
 unfold qdv
 simp -implicitDefEqProofs -dsimp only [go_sem, seval, d, q0r (n := k) (by omega), ↓J0 _ _ q98]
 refine can (z0q k hl) ?_
 simp -implicitDefEqProofs -dsimp only [go_sem, seval, w]
 exact J9 rfl
theorem zcn {T : Tab} {id : Nat} {s : RS} (hl : Len s.1.length) : ACalls prog q0n [.ptr id 0] (rT T id s) (fun v T' => v = .b (decide ((K2 1 s).1 = 1)) /\ T' = rT T id (K2 1 s).2) := by
 refine Z3 U3 qlu (by simp) ?_
 have d : decide (((K2 1 s).1 : Int) = 1) = decide ((K2 1 s).1 = 1) := decide_eq_decide.2 (by omega)
 unfold qd3
 simp -implicitDefEqProofs -dsimp only [go_sem, seval, ↓J0 _ _ q98]
 refine can (z0q 1 hl) ?_
 simp -implicitDefEqProofs -dsimp only [go_sem, seval, d]
 exact J9 rfl
theorem q39 : ∀ (l : List UInt8), qbj (K8 l) = some l
 | [] => rfl
 | b :: l => by
  have ih := q39 l
  simp only [K8, List.map_cons, qbj, qwt] at ih ⊢
  rw [ih]
  simp
theorem z94 {T : Tab} {id : Nat} {s : RS} (k : Nat) (hk : k < 9223372036854775808) (hl : Len s.1.length) : ACalls prog I0 [.ptr id 0, .i .i64 k] (rT T id s) (fun v T' => v = .s (q2f k s).1 /\ T' = rT T id (q2f k s).2) := by
 refine Z3 U3 qlw (by simp) ?_
 unfold qd4
 simp -implicitDefEqProofs -dsimp only [go_sem, seval, ↓J0 _ _ N8]
 refine can (zat k hk hl) ?_
 simp -implicitDefEqProofs -dsimp only [go_sem, seval, ↓J0 _ _ Y2]
 refine can z1y ?_
 unfold q2f
 rcases h1 : (K2 k s).2.2 with _ | _
 ·have d : decide (((K2 k s).2.1.length : Int) < ((K2 k s).1 : Int)) = decide ((K2 k s).2.1.length < (K2 k s).1) := decide_eq_decide.2 (by omega)
  rcases h2 : decide ((K2 k s).2.1.length < (K2 k s).1) with _ | _
  ·have h2' := of_decide_eq_false h2
   have e : ((K2 k s).2.1.take (K2 k s).1).length = (K2 k s).1 := by rw [List.length_take]; omega
   simp -implicitDefEqProofs -dsimp only [go_sem, seval, h1, qyh, bts, d, h2, ↓J0 _ _ qd6]
   refine can (z6f (K2 k s).1 (by omega)) ?_
   rw [if_neg (by rintro (h | h); exact absurd h (by decide); exact h2' h)]
   simp -implicitDefEqProofs -dsimp only [go_sem, seval, bts, e, V4, q39, h1]
   exact J9 rfl
  ·simp -implicitDefEqProofs -dsimp only [go_sem, seval, h1, qyh, bts, d, h2, ↓J0 _ _ q4w]
   refine can qqk ?_
   simp -implicitDefEqProofs -dsimp only [go_sem, seval]
   rw [if_pos (.inr (of_decide_eq_true h2))]
   exact J9 rfl
 ·simp -implicitDefEqProofs -dsimp only [go_sem, seval, h1, ↓J0 _ _ q4w]
  refine can qqk ?_
  simp -implicitDefEqProofs -dsimp only [go_sem, seval]
  rw [if_pos (by simp)]
  exact J9 rfl
theorem qo0 (xs : List UInt8) (cap : Option Nat) (hn : xs.length <= 1000000000) : PCalls prog V8 [bts xs cap] (bts xs none) := by
 refine K7 U3 q58 (by simp) fun T => ?_
 unfold q2q
 have main : ∀ K : AV -> Tab -> Prop, (∀ v T', Own T 1 v xs.length (K8 xs) T' -> K v T') -> q1q 1 1 T (.fz 0 [] (some 0)) (.fz xs.length (K8 xs) cap) K := fun K hK =>
  (Own.nil T 1).app (m := xs.length) (news := K8 xs) (by simp [G4, V4]) rfl (by omega) (by omega) (by simpa using hK)
 simp -implicitDefEqProofs -dsimp only [go_sem, seval, bts, z56]
 split
 ·refine main _ fun v T' h => ?_
  refine J1 ?_
  obtain ⟨q1, q2, q3, q4, q5, q6⟩ := h.form
  simp -implicitDefEqProofs -dsimp only [go_sem, seval, q1]
  exact h.fzn
 ·rename_i h0
  have e : xs = [] := List.length_eq_zero_iff.1 (by omega)
  subst e
  intro b
  refine J2 (fun h => ?_) (fun h => ?_) <;> simp -implicitDefEqProofs -dsimp only [go_sem, seval]
  ·exact (Own.nil T 1).fzn
  ·refine main _ fun v T' h => ?_
   refine J1 ?_
   obtain ⟨q1, q2, q3, q4, q5, q6⟩ := h.form
   simp -implicitDefEqProofs -dsimp only [go_sem, seval, q1]
   exact h.fzn
theorem zau {T : Tab} (b : List UInt8) (cap : Option Nat) (hl : b.length <= 1000000000) : ACalls prog qcm [bts b cap] T (fun v T' => ∃ id, v = .ptr id 0 /\ T id = .unused /\ T' = rT T id (b, false)) := by
 refine Z3 U3 qzz (by simp) ?_
 unfold qre
 simp -implicitDefEqProofs -dsimp only [go_sem, seval, ↓J0 _ _ q0m]
 refine cpn (qo0 b cap hl) ?_
 simp -implicitDefEqProofs -dsimp only [go_sem, seval, bts]
 intro id hid
 refine J1 ?_
 simp -implicitDefEqProofs -dsimp only [go_sem, seval]
 exact q12 _ (fun _ => .inr (.inl rfl)) ⟨id, rfl, hid, rfl⟩
theorem qs8 {T : Tab} {id : Nat} {s : RS} (h : T id = q9a s) : rT T id s = T := Tab.put_self h
theorem q77 {T : Tab} {id : Nat} {s : RS} : rT T id s id = q9a s := Tab.put_same ..
section
variable {T : Tab} {id : Nat} {s : RS}
theorem qig (h : T id = q9a s) : ACalls prog V1 [.ptr id 0] T (fun v T' => v = .b s.2 /\ T' = T) := by
 have := z1y (T := T) (id := id) (s := s); rwa [qs8 h] at this
theorem q6d (h : T id = q9a s) (k : Nat) (hk : k < 9223372036854775808) (hl : Len s.1.length) : ACalls prog N3 [.ptr id 0, .i .i64 k] T (fun v T' => v = .i .i64 (K2 k s).1 /\ T' = rT T id (K2 k s).2) := by
 have := zat (T := T) (id := id) (s := s) k hk hl; rw [qs8 h] at this; exact this
theorem zav (h : T id = q9a s) (hl : Len s.1.length) : ACalls prog I7 [.ptr id 0] T (fun v T' => v = .i .u64 (K2 18446744073709551615 s).1 /\ T' = rT T id (K2 18446744073709551615 s).2) := by
 have := zmw (T := T) (id := id) (s := s) hl; rw [qs8 h] at this; exact this
theorem qvw (h : T id = q9a s) (hl : Len s.1.length) : ACalls prog q0n [.ptr id 0] T (fun v T' => v = .b (decide ((K2 1 s).1 = 1)) /\ T' = rT T id (K2 1 s).2) := by
 have := zcn (T := T) (id := id) (s := s) hl; rw [qs8 h] at this; exact this
theorem qot (h : T id = q9a s) (k : Nat) (hk : k < 9223372036854775808) (hl : Len s.1.length) : ACalls prog I0 [.ptr id 0, .i .i64 k] T (fun v T' => v = .s (q2f k s).1 /\ T' = rT T id (q2f k s).2) := by
 have := z94 (T := T) (id := id) (s := s) k hk hl; rw [qs8 h] at this; exact this
end
theorem Own.rd {B T1 : Tab} {id z n : Nat} {v : AV} {xs : List AV} {s : RS} (h : Own (rT B id s) z v n xs T1) (s' : RS) : Own (rT B id s') z v n xs (rT T1 id s') := by
 have hB : rT B id s id ≠ .unused := by rw [q77]; simp [q9a]
 obtain ⟨T0, h1, h2⟩ := Owns.base_put (s := q9a s') hB (Owns.one h)
 have e : T0 = rT B id s' := by
  rw [show T0 = (rT B id s).put id (q9a s') from h1]; exact Tab.put_put ..
 rw [e] at h2
 exact h2
theorem Own.rdAt {B T1 : Tab} {id z n : Nat} {v : AV} {xs : List AV} {s : RS} (h : Own (rT B id s) z v n xs T1) : T1 id = q9a s := by
 rw [h.at (by rw [q77]; simp [q9a]), q77]
theorem Owns.rd {B T1 : Tab} {id : Nat} {l : List Ow} {s : RS} (h : Owns (rT B id s) l T1) (s' : RS) : Owns (rT B id s') l (rT T1 id s') := by
 have hB : rT B id s id ≠ .unused := by rw [q77]; simp [q9a]
 have := Owns.base_put (s := q9a s') hB h
 rw [show (rT B id s).put id (q9a s') = rT B id s' from Tab.put_put ..] at this
 exact this
theorem Owns.rdAt {B T1 : Tab} {id : Nat} {l : List Ow} {s : RS} (h : Owns (rT B id s) l T1) : T1 id = q9a s := by
 rw [Owns.base_get (by rw [q77]; simp [q9a]) h, q77]
end Go.Aw
