import Derived.Test.YtnkagdjmjakeiaaGreatDoorV22O16R
import Derived.Test.YtnkagdjmjakeiaaGreatDoorAwD
namespace Go.Aw
open Go
open Go.Proofs.Tryz (prog)
set_option linter.all false
set_option maxHeartbeats 4000000
def ql3 (s : RS) : Slot := .row 2 [bts s.1 none, .b s.2]
def rT (T : Tab) (id : Nat) (s : RS) : Tab := T.put id (ql3 s)
theorem qos {T : Tab} {id : Nat} {s : RS} : rT T id s id = .row 2 [bts s.1 none, .b s.2] := Tab.put_same ..
theorem qr9 {T : Tab} {id : Nat} {s : RS} : ACalls prog Z9 [.ptr id 0] (rT T id s) (fun v T' => v = .b s.2 /\ T' = rT T id s) := by
 refine K3 O1 qe3 (by simp) ?_
 unfold q6y
 simp -implicitDefEqProofs -dsimp only [go_sem, seval, qos]
 exact J9 rfl
theorem qnr {T : Tab} {id : Nat} {s : RS} : ACalls prog G8 [.ptr id 0] (rT T id s) (fun v T' => v = .tup [] /\ T' = rT T id (s.1, true)) := by
 refine K3 O1 qb7 (by simp) ?_
 unfold q5a
 simp -implicitDefEqProofs -dsimp only [go_sem, seval, qos]
 refine V6 (q := 2) (cells := [bts s.1 none, .b s.2]) qos rfl rfl (by simp) (J3 ?_)
 simp -implicitDefEqProofs -dsimp only [go_sem, seval]
 refine O6 (.refl _) ?_
 unfold rT
 rw [Tab.put_put]
 rfl
theorem q7d (l : List UInt8) (k : Nat) : (N3 l).take k = N3 (l.take k) := by simp [N3, List.map_take]
theorem q7e (l : List UInt8) (k : Nat) : (N3 l).drop k = N3 (l.drop k) := by simp [N3, List.map_drop]
theorem qw5 {T : Tab} {id : Nat} {s : RS} (n : Nat) (hn : n <= s.1.length) : ACalls prog q15 [.ptr id 0, .i .i64 n] (rT T id s) (fun v T' => v = bts (s.1.take n) (some n) /\ T' = rT T id (s.1.drop n, s.2)) := by
 refine K3 O1 qcr (by simp) ?_
 have e1 : (s.1.take n).length = n := by rw [List.length_take]; omega
 have e2 : (s.1.drop n).length = s.1.length - n := List.length_drop
 have e3 : (s.1.drop n).take (s.1.length - n) = s.1.drop n := List.take_of_length_le (by omega)
 unfold q62
 simp -implicitDefEqProofs -dsimp only [go_sem, seval, qos, bts, hn, Nat.zero_le, Nat.le_refl, Int.natCast_nonneg, Int.toNat_natCast, Option.isSome_some, q7d, q7e, e3]
 refine V6 (q := 2) (cells := [bts s.1 none, .b s.2]) qos rfl rfl (by simp) (J3 ?_)
 simp -implicitDefEqProofs -dsimp only [go_sem, seval]
 refine O6 (by rw [bts, e1]; exact .refl _) ?_
 unfold rT ql3
 rw [Tab.put_put, bts, e2]
theorem qra (y : UInt8) : IntKind.u8.wrap ((BitVec.ofInt IntKind.u8.bits (y.toNat : Int) &&& BitVec.ofInt IntKind.u8.bits 127).toNat : Nat) = ((y.toNat % 128 : Nat) : Int) := by
 have h := z05 ⟨y.toNat, y.toNat_lt⟩
 simp only at h
 rw [show IntKind.u8.bits = 8 from rfl, h, qbo]
 omega
theorem z3l {c k : Nat} (h : c * 128 ^ k < 18446744073709551616) (hk : k <= 9) (hc : c < 128) : IntKind.u64.wrap (IntKind.u64.wrap (c : Int) * 2 ^ (min ((7 * k : Nat) : Int).toNat 64)) = ((c * 128 ^ k : Nat) : Int) := by
 rw [q66 (n := c) (by omega), Int.toNat_natCast, Nat.min_eq_left (by omega)]
 have e : ((c : Int) * 2 ^ (7 * k)) = ((c * 128 ^ k : Nat) : Int) := by rw [qup]; push_cast; rfl
 rw [e, q66 h]
theorem qw6 {a c k : Nat} (ha : a < 128 ^ k) (h : a + c * 128 ^ k < 18446744073709551616) : IntKind.u64.wrap ((BitVec.ofInt IntKind.u64.bits (a : Int) ||| BitVec.ofInt IntKind.u64.bits ((c * 128 ^ k : Nat) : Int)).toNat : Nat) = ((a + c * 128 ^ k : Nat) : Int) := by
 have e : (BitVec.ofInt IntKind.u64.bits (a : Int) ||| BitVec.ofInt IntKind.u64.bits ((c * 128 ^ k : Nat) : Int)).toNat = a + c * 128 ^ k := by
  show (BitVec.ofInt 64 (a : Int) ||| BitVec.ofInt 64 ((c * 128 ^ k : Nat) : Int)).toNat = _
  rw [BitVec.toNat_or, BitVec.ofInt_natCast, BitVec.ofInt_natCast, BitVec.toNat_ofNat, BitVec.toNat_ofNat, Nat.mod_eq_of_lt (by omega), Nat.mod_eq_of_lt (by omega)]
  rw [qup] at ha ⊢
  have := Nat.two_pow_add_eq_or_of_lt ha c
  rw [Nat.or_comm, Nat.mul_comm c, <- this, Nat.add_comm]
 rw [e, q66 h]
theorem z0d {a c k : Nat} (ha : a < 128 ^ k) (hc : c < 128) (h : k <= 8 \/ (k = 9 /\ c <= 1)) : a + c * 128 ^ k < 18446744073709551616 := by
 rcases h with h | ⟨rfl, h⟩
 ·have h8 : 128 ^ k <= 128 ^ 8 := Nat.pow_le_pow_right (by decide) h
  have h88 : (128 : Nat) ^ 8 = 72057594037927936 := by decide
  have : c * 128 ^ k <= 127 * 128 ^ k := Nat.mul_le_mul_right _ (by omega)
  omega
 ·have : (128 : Nat) ^ 9 = 9223372036854775808 := by decide
  rw [this] at ha ⊢
  omega
theorem ql4 {R : U6} (hR : ExtR R) {T : Tab} {b : List UInt8} {cap : Option Nat} (hl : Len b.length) : ∀ (ys : List UInt8) (k a : Nat), b.drop k = ys -> k <= b.length -> k <= 9 -> a < 128 ^ k ->
  (dec k a ys = none -> R .ret [(2, .i .u64 0), (3, .i .i64 0)] [] T) -> (dec k a ys = none -> ∀ a, R (.exit 0) [(4, .i .u64 a), (8, bts b cap), (9, .i .i64 b.length), (10, .i .i64 b.length), (11, .b false)] [] T) ->
  (∀ n z, dec k a ys = some (n, z) -> R .ret [(2, .i .u64 n), (3, .i .i64 z)] [] T) ->
  AW prog q26 R [(4, .i .u64 a), (8, bts b cap), (9, .i .i64 b.length), (10, .i .i64 k)] [] T := by
 intro ys
 induction ys with
 | nil =>
  intro k a hk hle h9 ha h0 hE h2
  have hk' := I0 hk hle
  refine U8 hR ?_
  unfold q38
  simp -implicitDefEqProofs -dsimp only [go_sem, seval, hk', Int.lt_irrefl]
  have := hE rfl a
  rw [hk'] at this
  exact this
 | cons y ys ih =>
  intro k a hk hle h9 ha h0 hE h2
  obtain ⟨hlt, hy, hk'⟩ := q0b hk
  unfold Len at hl
  have hat : ((N3 b).drop k)[0]? = some (.i .u8 y.toNat) := by simp [N3, hy]
  have w7 : IntKind.i64.wrap (7 * (k : Int)) = ((7 * k : Nat) : Int) := by rw [V8 (by unfold I64; omega)]; omega
  have d1 : decide ((63 : Int) < ((7 * k : Nat) : Int)) = false := decide_eq_false (by omega)
  have d2 : decide (((7 * k : Nat) : Int) = 63) = decide (k = 9) := decide_eq_decide.2 (by omega)
  have d3 : decide ((1 : Int) < (y.toNat : Int)) = decide (1 < y.toNat) := decide_eq_decide.2 (by omega)
  have d4 : decide ((y.toNat : Int) < 128) = decide (y.toNat < 128) := decide_eq_decide.2 (by omega)
  have d5 : decide ((y.toNat : Int) = 0) = decide (y.toNat = 0) := decide_eq_decide.2 (by omega)
  have d6 : decide ((0 : Int) < (k : Int)) = decide (0 < k) := decide_eq_decide.2 (by omega)
  have hp0 : (((7 * k : Nat) : Int) < 0) = False := eq_false (Int.not_lt.2 (Int.natCast_nonneg _))
  have fin : ¬ (9 < k \/ (k = 9 /\ 1 < y.toNat)) -> AW prog q26 R [(4, .i .u64 a), (8, bts b cap), (9, .i .i64 b.length), (10, .i .i64 k)] [] T := by
   intro hok
   have hdec : dec k a (y :: ys) = if y.toNat < 128 then (if y.toNat = 0 /\ 0 < k then none else some (a + y.toNat % 128 * 128 ^ k, k + 1)) else dec (k + 1) (a + y.toNat % 128 * 128 ^ k) ys := by simp only [dec]; rw [if_neg hok]
   have hlow : k <= 8 \/ (k = 9 /\ y.toNat % 128 <= 1) := by omega
   have hm := Nat.mod_lt y.toNat (show 0 < 128 by decide)
   have hacc := z0d ha hm hlow
   have e1 := z3l (c := y.toNat % 128) (k := k) (by omega) h9 hm
   have e2 := qw6 ha hacc
   have hb : decide (k = 9) = false \/ (decide (k = 9) = true /\ decide (1 < y.toNat) = false) := by
    by_cases h : k = 9
    ·exact .inr ⟨decide_eq_true h, decide_eq_false (fun h1 => hok (.inr ⟨h, h1⟩))⟩
    ·exact .inl (decide_eq_false h)
   refine O4 (l := q26) rfl hR ?_
   unfold q38
   simp -implicitDefEqProofs -dsimp only [go_sem, seval, bts, Int.ofNat_lt, hlt, Int.natCast_nonneg, Int.toNat_natCast, hat, w7, d1, d2, d3]
   rcases hb with hb | ⟨hb, hb2⟩
   all_goals
    simp -implicitDefEqProofs -dsimp only [go_sem, seval, hb, d2, d3, decide_true, decide_false, qra]
    try simp -implicitDefEqProofs -dsimp only [go_sem, seval, hb2, d2, d3, decide_true, decide_false, qra]
    simp -implicitDefEqProofs -dsimp only [go_sem, seval, hp0, e1, e2, d4]
    rcases h128 : decide (y.toNat < 128) with _ | _
    ·simp -implicitDefEqProofs -dsimp only [go_sem, seval, d4, h128]
     rw [O0 (by omega)]
     have h128' := of_decide_eq_false h128
     have hk9 : k ≠ 9 := by omega
     refine ih (k + 1) _ hk' hlt (by omega) ?_ (fun h => h0 (by rw [hdec, if_neg h128']; exact h)) (fun h => hE (by rw [hdec, if_neg h128']; exact h)) fun n z h => h2 n z ?_
     ·rw [Nat.pow_succ]
      have : y.toNat % 128 * 128 ^ k <= 127 * 128 ^ k := Nat.mul_le_mul_right _ (by omega)
      omega
     ·rw [hdec, if_neg h128']; exact h
    ·have h128' := of_decide_eq_true h128
     simp -implicitDefEqProofs -dsimp only [go_sem, seval, d4, d5, d6, h128]
     rcases h00 : decide (y.toNat = 0) with _ | _
     ·simp -implicitDefEqProofs -dsimp only [go_sem, seval, d4, d5, d6, h128, h00, decide_true, decide_false]
      rw [O0 (by omega)]
      exact h2 _ _ (by rw [hdec, if_pos h128', if_neg (fun h => of_decide_eq_false h00 h.1)])
     ·rcases hk0 : decide (0 < k) with _ | _
      ·simp -implicitDefEqProofs -dsimp only [go_sem, seval, d4, d5, d6, h128, h00, hk0, decide_true, decide_false]
       rw [O0 (by omega)]
       exact h2 _ _ (by rw [hdec, if_pos h128', if_neg (fun h => of_decide_eq_false hk0 h.2)])
      ·simp -implicitDefEqProofs -dsimp only [go_sem, seval, d4, d5, d6, h128, h00, hk0, decide_true, decide_false]
       exact h0 (by rw [hdec, if_pos h128', if_pos ⟨of_decide_eq_true h00, of_decide_eq_true hk0⟩])
  by_cases hok : 9 < k \/ (k = 9 /\ 1 < y.toNat)
  ·obtain ⟨rfl, h1⟩ : k = 9 /\ 1 < y.toNat := by omega
   refine O4 (l := q26) rfl hR ?_
   unfold q38
   have t1 : decide (1 < y.toNat) = true := decide_eq_true h1
   simp -implicitDefEqProofs -dsimp only [go_sem, Nat.reduceEqDiff, Nat.reduceAdd, Nat.reduceMul, Nat.reduceSub, Nat.reduceLT, Nat.reduceLeDiff, Nat.reduceBEq, reduceIte, reduceCtorEq, Int.reduceLT, Int.reduceLE, Int.reduceEq, Int.reduceNeg, Int.reduceToNat, Int.reduceAdd, Int.reduceSub, bts, Int.ofNat_lt, hlt, Int.natCast_nonneg, Int.toNat_natCast, hat, w7, d1, d2, d3, decide_true, decide_false, t1]
   exact h0 (by simp [dec, h1])
  ·exact fin hok
def qb8 (b : List UInt8) : Nat × Nat := match dec 0 0 b with
 | some r => r
 | none => (0, 0)
theorem qrb (b : List UInt8) (c : Option Nat) (hl : Len b.length) : Q4 prog q4l [bts b c] (.tup [.i .u64 (qb8 b).1, .i .i64 (qb8 b).2]) := by
 refine K8 O1 qhs (by simp) fun T => ?_
 unfold qbf
 cases hd : dec 0 0 b with
 | none =>
  have e : qb8 b = (0, 0) := by unfold qb8; rw [hd]
  rw [e]
  simp -implicitDefEqProofs -dsimp only [go_sem, seval, bts]
  refine ql4 (T := T) (by repeat' (first | exact N8 _ _ | assumption | apply N7 | apply N0 | apply V0)) hl b 0 0 rfl (by omega) (by omega) (by decide) (fun _ => ?_) (fun _ a => ?_) (fun n z h => by rw [hd] at h; cases h)
  ·simp -implicitDefEqProofs -dsimp only [go_sem, seval]
   exact J9 rfl
  ·simp -implicitDefEqProofs -dsimp only [go_sem, seval]
   exact J9 rfl
 | some r =>
  have e : qb8 b = r := by unfold qb8; rw [hd]
  obtain ⟨n, z⟩ := r
  rw [e]
  simp -implicitDefEqProofs -dsimp only [go_sem, seval, bts]
  refine ql4 (T := T) (by repeat' (first | exact N8 _ _ | assumption | apply N7 | apply N0 | apply V0)) hl b 0 0 rfl (by omega) (by omega) (by decide) (fun h => by rw [hd] at h; cases h) (fun h a => by rw [hd] at h; cases h) (fun n' z' h => ?_)
  rw [hd] at h
  injection h with h; injection h with h1 h2
  subst h1; subst h2
  simp -implicitDefEqProofs -dsimp only [go_sem, seval]
  exact J9 rfl
theorem qns {k : Nat} {s : RS} (h : s.2 = false) : q0g k s = if (qb8 s.1).2 = 0 \/ k < (qb8 s.1).1 then (0, (s.1, true)) else ((qb8 s.1).1, (s.1.drop (qb8 s.1).2, false)) := by
 unfold q0g qb8
 rw [if_neg (by rw [h]; decide)]
 cases hd : dec 0 0 s.1 with
 | none => simp
 | some r =>
  obtain ⟨n, z⟩ := r
  obtain ⟨h1, h2, _⟩ := qfz hd
  have hz : z ≠ 0 := by
   have := List.length_pos_iff.2 (qqu n)
   omega
  simp only [hz, false_or]
  by_cases hk : n <= k
  ·rw [if_pos hk, if_neg (by omega)]
  ·rw [if_neg hk, if_pos (by omega)]
theorem qrc (b : List UInt8) : (qb8 b).2 <= b.length /\ (qb8 b).1 < 18446744073709551616 := by
 unfold qb8
 cases hd : dec 0 0 b with
 | none => simp
 | some r =>
  obtain ⟨n, z⟩ := r
  obtain ⟨h1, h2, h3, h4⟩ := qfz hd
  exact ⟨h2, h4⟩
theorem qrd {T : Tab} {id : Nat} {s : RS} (k : Nat) (hl : Len s.1.length) : ACalls prog q00 [.ptr id 0, .i .u64 k] (rT T id s) (fun v T' => v = .i .u64 (q0g k s).1 /\ T' = rT T id (q0g k s).2) := by
 refine K3 O1 qcp (by simp) ?_
 unfold q60
 obtain ⟨b, bad⟩ := s
 have hd := qrc b
 cases bad with
 | true =>
  rw [qkr rfl]
  simp -implicitDefEqProofs -dsimp only [go_sem, seval, ↓J0 _ _ q46]
  refine can qr9 ?_
  simp -implicitDefEqProofs -dsimp only [go_sem, seval]
  exact J9 rfl
 | false =>
  rw [qns rfl]
  simp -implicitDefEqProofs -dsimp only [go_sem, seval, ↓J0 _ _ q46]
  refine can qr9 ?_
  simp -implicitDefEqProofs -dsimp only [go_sem, seval, qos, ↓J0 _ _ qht]
  refine cpn (qrb b none hl) ?_
  have d1 : decide (((qb8 b).2 : Int) = 0) = decide ((qb8 b).2 = 0) := decide_eq_decide.2 (by omega)
  have d2 : decide ((k : Int) < ((qb8 b).1 : Int)) = decide (k < (qb8 b).1) := decide_eq_decide.2 (by omega)
  rcases h1 : decide ((qb8 b).2 = 0) with _ | _
  ·rcases h2 : decide (k < (qb8 b).1) with _ | _
   ·simp -implicitDefEqProofs -dsimp only [go_sem, seval, d1, d2, h1, h2, ↓J0 _ _ qcs]
    refine can (qw5 (qb8 b).2 hd.1) ?_
    simp -implicitDefEqProofs -dsimp only [go_sem, seval]
    rw [if_neg (by have := of_decide_eq_false h1; have := of_decide_eq_false h2; omega)]
    exact J9 rfl
   ·simp -implicitDefEqProofs -dsimp only [go_sem, seval, d1, d2, h1, h2, ↓J0 _ _ q5b]
    refine can qnr ?_
    simp -implicitDefEqProofs -dsimp only [go_sem, seval]
    rw [if_pos (.inr (of_decide_eq_true h2))]
    exact J9 rfl
  ·simp -implicitDefEqProofs -dsimp only [go_sem, seval, d1, d2, h1, ↓J0 _ _ q5b]
   refine can qnr ?_
   simp -implicitDefEqProofs -dsimp only [go_sem, seval]
   rw [if_pos (.inl (of_decide_eq_true h1))]
   exact J9 rfl
theorem z3m {T : Tab} {id : Nat} {s : RS} (hl : Len s.1.length) : ACalls prog q1e [.ptr id 0] (rT T id s) (fun v T' => v = .i .u64 (q0g 18446744073709551615 s).1 /\ T' = rT T id (q0g 18446744073709551615 s).2) := by
 refine K3 O1 qfr (by simp) ?_
 unfold q8w
 simp -implicitDefEqProofs -dsimp only [go_sem, seval, ↓J0 _ _ q61]
 refine can (qrd 18446744073709551615 hl) ?_
 simp -implicitDefEqProofs -dsimp only [go_sem, seval]
 exact J9 rfl
theorem z0e {T : Tab} {id : Nat} {s : RS} (k : Nat) (hk : k < 9223372036854775808) (hl : Len s.1.length) : ACalls prog V7 [.ptr id 0, .i .i64 k] (rT T id s) (fun v T' => v = .i .i64 (q0g k s).1 /\ T' = rT T id (q0g k s).2) := by
 refine K3 O1 qe0 (by simp) ?_
 have d : decide ((k : Int) < 0) = false := decide_eq_false (by omega)
 have hle := qj6 k s
 have w : IntKind.i64.wrap ((q0g k s).1 : Int) = (q0g k s).1 := V8 (by unfold I64; omega)
 unfold q6x
 simp -implicitDefEqProofs -dsimp only [go_sem, seval, d, q66 (n := k) (by omega), ↓J0 _ _ q61]
 refine can (qrd k hl) ?_
 simp -implicitDefEqProofs -dsimp only [go_sem, seval, w]
 exact J9 rfl
theorem q4a : ∀ (l : List UInt8), q4x (N3 l) = some l
 | [] => rfl
 | b :: l => by
  have ih := q4a l
  simp only [N3, List.map_cons, q4x, qkf] at ih ⊢
  rw [ih]
  simp
theorem qju (xs : List UInt8) (cap : Option Nat) (hn : xs.length <= 1000000000) : Q4 prog Q7 [bts xs cap] (bts xs none) := by
 refine K8 O1 q3o (by simp) fun T => ?_
 unfold q0t
 have main : ∀ K : AV -> Tab -> Prop, (∀ v T', Own T 1 v xs.length (N3 xs) T' -> K v T') -> q0n 1 1 T (.fz 0 [] (some 0)) (.fz xs.length (N3 xs) cap) K := fun K hK =>
  (Own.nil T 1).app (m := xs.length) (news := N3 xs) (by simp [N2, G3]) rfl (by omega) (by omega) (by simpa using hK)
 simp -implicitDefEqProofs -dsimp only [go_sem, seval, bts, qid]
 split
 ·refine main _ fun v T' h => ?_
  refine J3 ?_
  obtain ⟨q1, q2, q3, q4, q5, q6⟩ := h.form
  simp -implicitDefEqProofs -dsimp only [go_sem, seval, q1]
  exact h.fzn
 ·rename_i h0
  have e : xs = [] := List.length_eq_zero_iff.1 (by omega)
  subst e
  intro b
  refine J4 (fun h => ?_) (fun h => ?_) <;> simp -implicitDefEqProofs -dsimp only [go_sem, seval]
  ·exact (Own.nil T 1).fzn
  ·refine main _ fun v T' h => ?_
   refine J3 ?_
   obtain ⟨q1, q2, q3, q4, q5, q6⟩ := h.form
   simp -implicitDefEqProofs -dsimp only [go_sem, seval, q1]
   exact h.fzn
theorem z0f {T : Tab} (b : List UInt8) (cap : Option Nat) (hl : b.length <= 1000000000) : ACalls prog q89 [bts b cap] T (fun v T' => ∃ id, v = .ptr id 0 /\ T id = .unused /\ T' = rT T id (b, false)) := by
 refine K3 O1 qmh (by simp) ?_
 unfold qgu
 simp -implicitDefEqProofs -dsimp only [go_sem, seval, ↓J0 _ _ q3p]
 refine cpn (qju b cap hl) ?_
 simp -implicitDefEqProofs -dsimp only [go_sem, seval, bts]
 intro id hid
 refine J3 ?_
 simp -implicitDefEqProofs -dsimp only [go_sem, seval]
 exact I6 _ (fun _ => .inr (.inl rfl)) ⟨id, rfl, hid, rfl⟩
theorem qmr {T : Tab} {id : Nat} {s : RS} (h : T id = ql3 s) : rT T id s = T := Tab.put_self h
theorem ql5 {T : Tab} {id : Nat} {s : RS} : rT T id s id = ql3 s := Tab.put_same ..
section
variable {T : Tab} {id : Nat} {s : RS}
theorem z0g (h : T id = ql3 s) : ACalls prog Z9 [.ptr id 0] T (fun v T' => v = .b s.2 /\ T' = T) := by
 have := qr9 (T := T) (id := id) (s := s); rwa [qmr h] at this
theorem qre (h : T id = ql3 s) (k : Nat) (hk : k < 9223372036854775808) (hl : Len s.1.length) : ACalls prog V7 [.ptr id 0, .i .i64 k] T (fun v T' => v = .i .i64 (q0g k s).1 /\ T' = rT T id (q0g k s).2) := by
 have := z0e (T := T) (id := id) (s := s) k hk hl; rw [qmr h] at this; exact this
theorem z3n (h : T id = ql3 s) (hl : Len s.1.length) : ACalls prog q1e [.ptr id 0] T (fun v T' => v = .i .u64 (q0g 18446744073709551615 s).1 /\ T' = rT T id (q0g 18446744073709551615 s).2) := by
 have := z3m (T := T) (id := id) (s := s) hl; rw [qmr h] at this; exact this
end
end Go.Aw
