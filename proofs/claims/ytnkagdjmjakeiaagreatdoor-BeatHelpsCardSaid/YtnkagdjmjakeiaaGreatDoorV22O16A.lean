import Derived.Test.YtnkagdjmjakeiaaGreatDoorV22O16R
import Derived.Test.YtnkagdjmjakeiaaGreatDoorAwD
namespace Go.Aw
open Go
open Go.Proofs.Tryz (prog)
set_option linter.all false
set_option maxHeartbeats 4000000
def qhd (s : RS) : Slot := .row 2 [bts s.1 none, .b s.2]
def rT (T : Tab) (id : Nat) (s : RS) : Tab := T.put id (qhd s)
theorem qkn {T : Tab} {id : Nat} {s : RS} : rT T id s id = .row 2 [bts s.1 none, .b s.2] := Tab.put_same ..
theorem qn7 {T : Tab} {id : Nat} {s : RS} : ACalls prog Y8 [.ptr id 0] (rT T id s) (fun v T' => v = .b s.2 /\ T' = rT T id s) := by
 refine K6 O2 qag (by simp) ?_
 unfold q4r
 simp -implicitDefEqProofs -dsimp only [go_sem, seval, qkn]
 exact K0 rfl
theorem qjp {T : Tab} {id : Nat} {s : RS} : ACalls prog Z4 [.ptr id 0] (rT T id s) (fun v T' => v = .tup [] /\ T' = rT T id (s.1, true)) := by
 refine K6 O2 q88 (by simp) ?_
 unfold q3q
 simp -implicitDefEqProofs -dsimp only [go_sem, seval, qkn]
 refine q3i (q := 2) (cells := [bts s.1 none, .b s.2]) qkn rfl rfl (by simp) (J5 ?_)
 simp -implicitDefEqProofs -dsimp only [go_sem, seval]
 refine Q3 (.refl _) ?_
 unfold rT
 rw [Tab.put_put]
 rfl
theorem qe8 (l : List UInt8) (k : Nat) : (N9 l).take k = N9 (l.take k) := by simp [N9, List.map_take]
theorem qe9 (l : List UInt8) (k : Nat) : (N9 l).drop k = N9 (l.drop k) := by simp [N9, List.map_drop]
theorem qrj {T : Tab} {id : Nat} {s : RS} (n : Nat) (hn : n <= s.1.length) : ACalls prog q0g [.ptr id 0, .i .i64 n] (rT T id s) (fun v T' => v = bts (s.1.take n) (some n) /\ T' = rT T id (s.1.drop n, s.2)) := by
 refine K6 O2 q9f (by simp) ?_
 have e1 : (s.1.take n).length = n := by rw [List.length_take]; omega
 have e2 : (s.1.drop n).length = s.1.length - n := List.length_drop
 have e3 : (s.1.drop n).take (s.1.length - n) = s.1.drop n := List.take_of_length_le (by omega)
 unfold q4g
 simp -implicitDefEqProofs -dsimp only [go_sem, seval, qkn, bts, hn, Nat.zero_le, Nat.le_refl, Int.natCast_nonneg, Int.toNat_natCast, Option.isSome_some, qe8, qe9, e3]
 refine q3i (q := 2) (cells := [bts s.1 none, .b s.2]) qkn rfl rfl (by simp) (J5 ?_)
 simp -implicitDefEqProofs -dsimp only [go_sem, seval]
 refine Q3 (by rw [bts, e1]; exact .refl _) ?_
 unfold rT qhd
 rw [Tab.put_put, bts, e2]
theorem qn8 (y : UInt8) : IntKind.u8.wrap ((BitVec.ofInt IntKind.u8.bits (y.toNat : Int) &&& BitVec.ofInt IntKind.u8.bits 127).toNat : Nat) = ((y.toNat % 128 : Nat) : Int) := by
 have h := qvb ⟨y.toNat, y.toNat_lt⟩
 simp only at h
 rw [show IntKind.u8.bits = 8 from rfl, h, qfi]
 omega
theorem qyx {c k : Nat} (h : c * 128 ^ k < 18446744073709551616) (hk : k <= 9) (hc : c < 128) : IntKind.u64.wrap (IntKind.u64.wrap (c : Int) * 2 ^ (min ((7 * k : Nat) : Int).toNat 64)) = ((c * 128 ^ k : Nat) : Int) := by
 rw [qan (n := c) (by omega), Int.toNat_natCast, Nat.min_eq_left (by omega)]
 have e : ((c : Int) * 2 ^ (7 * k)) = ((c * 128 ^ k : Nat) : Int) := by rw [qq5]; push_cast; rfl
 rw [e, qan h]
theorem qrk {a c k : Nat} (ha : a < 128 ^ k) (h : a + c * 128 ^ k < 18446744073709551616) : IntKind.u64.wrap ((BitVec.ofInt IntKind.u64.bits (a : Int) ||| BitVec.ofInt IntKind.u64.bits ((c * 128 ^ k : Nat) : Int)).toNat : Nat) = ((a + c * 128 ^ k : Nat) : Int) := by
 have e : (BitVec.ofInt IntKind.u64.bits (a : Int) ||| BitVec.ofInt IntKind.u64.bits ((c * 128 ^ k : Nat) : Int)).toNat = a + c * 128 ^ k := by
  show (BitVec.ofInt 64 (a : Int) ||| BitVec.ofInt 64 ((c * 128 ^ k : Nat) : Int)).toNat = _
  rw [BitVec.toNat_or, BitVec.ofInt_natCast, BitVec.ofInt_natCast, BitVec.toNat_ofNat, BitVec.toNat_ofNat, Nat.mod_eq_of_lt (by omega), Nat.mod_eq_of_lt (by omega)]
  rw [qq5] at ha ⊢
  have := Nat.two_pow_add_eq_or_of_lt ha c
  rw [Nat.or_comm, Nat.mul_comm c, <- this, Nat.add_comm]
 rw [e, qan h]
theorem qvl {a c k : Nat} (ha : a < 128 ^ k) (hc : c < 128) (h : k <= 8 \/ (k = 9 /\ c <= 1)) : a + c * 128 ^ k < 18446744073709551616 := by
 rcases h with h | ⟨rfl, h⟩
 ·have h8 : 128 ^ k <= 128 ^ 8 := Nat.pow_le_pow_right (by decide) h
  have h88 : (128 : Nat) ^ 8 = 72057594037927936 := by decide
  have : c * 128 ^ k <= 127 * 128 ^ k := Nat.mul_le_mul_right _ (by omega)
  omega
 ·have : (128 : Nat) ^ 9 = 9223372036854775808 := by decide
  rw [this] at ha ⊢
  omega
theorem qhe {R : Y5} (hR : ExtR R) {T : Tab} {b : List UInt8} {cap : Option Nat} (hl : Len b.length) : ∀ (ys : List UInt8) (k a : Nat), b.drop k = ys -> k <= b.length -> k <= 9 -> a < 128 ^ k ->
  (dec k a ys = none -> R .ret [(2, .i .u64 0), (3, .i .i64 0)] [] T) -> (dec k a ys = none -> ∀ a, R (.exit 0) [(4, .i .u64 a), (8, bts b cap), (9, .i .i64 b.length), (10, .i .i64 b.length), (11, .b false)] [] T) ->
  (∀ n z, dec k a ys = some (n, z) -> R .ret [(2, .i .u64 n), (3, .i .i64 z)] [] T) ->
  AW prog q15 R [(4, .i .u64 a), (8, bts b cap), (9, .i .i64 b.length), (10, .i .i64 k)] [] T := by
 intro ys
 induction ys with
 | nil =>
  intro k a hk hle h9 ha h0 hE h2
  have hk' := q18 hk hle
  refine G9 hR ?_
  unfold q1x
  simp -implicitDefEqProofs -dsimp only [go_sem, seval, hk', Int.lt_irrefl]
  have := hE rfl a
  rw [hk'] at this
  exact this
 | cons y ys ih =>
  intro k a hk hle h9 ha h0 hE h2
  obtain ⟨hlt, hy, hk'⟩ := q1e hk
  unfold Len at hl
  have hat : ((N9 b).drop k)[0]? = some (.i .u8 y.toNat) := by simp [N9, hy]
  have w7 : IntKind.i64.wrap (7 * (k : Int)) = ((7 * k : Nat) : Int) := by rw [q2k (by unfold I64; omega)]; omega
  have d1 : decide ((63 : Int) < ((7 * k : Nat) : Int)) = false := decide_eq_false (by omega)
  have d2 : decide (((7 * k : Nat) : Int) = 63) = decide (k = 9) := decide_eq_decide.2 (by omega)
  have d3 : decide ((1 : Int) < (y.toNat : Int)) = decide (1 < y.toNat) := decide_eq_decide.2 (by omega)
  have d4 : decide ((y.toNat : Int) < 128) = decide (y.toNat < 128) := decide_eq_decide.2 (by omega)
  have d5 : decide ((y.toNat : Int) = 0) = decide (y.toNat = 0) := decide_eq_decide.2 (by omega)
  have d6 : decide ((0 : Int) < (k : Int)) = decide (0 < k) := decide_eq_decide.2 (by omega)
  have hp0 : (((7 * k : Nat) : Int) < 0) = False := eq_false (Int.not_lt.2 (Int.natCast_nonneg _))
  have fin : ¬ (9 < k \/ (k = 9 /\ 1 < y.toNat)) -> AW prog q15 R [(4, .i .u64 a), (8, bts b cap), (9, .i .i64 b.length), (10, .i .i64 k)] [] T := by
   intro hok
   have hdec : dec k a (y :: ys) = if y.toNat < 128 then (if y.toNat = 0 /\ 0 < k then none else some (a + y.toNat % 128 * 128 ^ k, k + 1)) else dec (k + 1) (a + y.toNat % 128 * 128 ^ k) ys := by simp only [dec]; rw [if_neg hok]
   have hlow : k <= 8 \/ (k = 9 /\ y.toNat % 128 <= 1) := by omega
   have hm := Nat.mod_lt y.toNat (show 0 < 128 by decide)
   have hacc := qvl ha hm hlow
   have e1 := qyx (c := y.toNat % 128) (k := k) (by omega) h9 hm
   have e2 := qrk ha hacc
   have hb : decide (k = 9) = false \/ (decide (k = 9) = true /\ decide (1 < y.toNat) = false) := by
    by_cases h : k = 9
    ·exact .inr ⟨decide_eq_true h, decide_eq_false (fun h1 => hok (.inr ⟨h, h1⟩))⟩
    ·exact .inl (decide_eq_false h)
   refine Q7 (l := q15) rfl hR ?_
   unfold q1x
   simp -implicitDefEqProofs -dsimp only [go_sem, seval, bts, Int.ofNat_lt, hlt, Int.natCast_nonneg, Int.toNat_natCast, hat, w7, d1, d2, d3]
   rcases hb with hb | ⟨hb, hb2⟩
   all_goals
    simp -implicitDefEqProofs -dsimp only [go_sem, seval, hb, d2, d3, decide_true, decide_false, qn8]
    try simp -implicitDefEqProofs -dsimp only [go_sem, seval, hb2, d2, d3, decide_true, decide_false, qn8]
    simp -implicitDefEqProofs -dsimp only [go_sem, seval, hp0, e1, e2, d4]
    rcases h128 : decide (y.toNat < 128) with _ | _
    ·simp -implicitDefEqProofs -dsimp only [go_sem, seval, d4, h128]
     rw [Q0 (by omega)]
     have h128' := of_decide_eq_false h128
     have hk9 : k ≠ 9 := by omega
     refine ih (k + 1) _ hk' hlt (by omega) ?_ (fun h => h0 (by rw [hdec, if_neg h128']; exact h)) (fun h => hE (by rw [hdec, if_neg h128']; exact h)) fun n z h => h2 n z ?_
     ·rw [Nat.pow_succ]
      have : y.toNat % 128 * 128 ^ k <= 127 * 128 ^ k := Nat.mul_le_mul_right _ (by omega)
      omega
     ·rw [hdec, if_neg h128']; exact h
    ·have h128' := of_decide_eq_true h128
     simp -implicitDefEqProofs -dsimp only [go_sem, seval, d4, d5, d6, h128]
     rcases h00 : decide (y.toNat = 0) with _ | _
     ·simp -implicitDefEqProofs -dsimp only [go_sem, seval, d4, d5, d6, h128, h00, decide_true, decide_false]
      rw [Q0 (by omega)]
      exact h2 _ _ (by rw [hdec, if_pos h128', if_neg (fun h => of_decide_eq_false h00 h.1)])
     ·rcases hk0 : decide (0 < k) with _ | _
      ·simp -implicitDefEqProofs -dsimp only [go_sem, seval, d4, d5, d6, h128, h00, hk0, decide_true, decide_false]
       rw [Q0 (by omega)]
       exact h2 _ _ (by rw [hdec, if_pos h128', if_neg (fun h => of_decide_eq_false hk0 h.2)])
      ·simp -implicitDefEqProofs -dsimp only [go_sem, seval, d4, d5, d6, h128, h00, hk0, decide_true, decide_false]
       exact h0 (by rw [hdec, if_pos h128', if_pos ⟨of_decide_eq_true h00, of_decide_eq_true hk0⟩])
  by_cases hok : 9 < k \/ (k = 9 /\ 1 < y.toNat)
  ·obtain ⟨rfl, h1⟩ : k = 9 /\ 1 < y.toNat := by omega
   refine Q7 (l := q15) rfl hR ?_
   unfold q1x
   have t1 : decide (1 < y.toNat) = true := decide_eq_true h1
   simp -implicitDefEqProofs -dsimp only [go_sem, Nat.reduceEqDiff, Nat.reduceAdd, Nat.reduceMul, Nat.reduceSub, Nat.reduceLT, Nat.reduceLeDiff, Nat.reduceBEq, reduceIte, reduceCtorEq, Int.reduceLT, Int.reduceLE, Int.reduceEq, Int.reduceNeg, Int.reduceToNat, Int.reduceAdd, Int.reduceSub, bts, Int.ofNat_lt, hlt, Int.natCast_nonneg, Int.toNat_natCast, hat, w7, d1, d2, d3, decide_true, decide_false, t1]
   exact h0 (by simp [dec, h1])
  ·exact fin hok
def qea (b : List UInt8) : Nat × Nat := match dec 0 0 b with
 | some r => r
 | none => (0, 0)
theorem qn9 (b : List UInt8) (c : Option Nat) (hl : Len b.length) : U4 prog q37 [bts b c] (.tup [.i .u64 (qea b).1, .i .i64 (qea b).2]) := by
 refine K9 O2 qe5 (by simp) fun T => ?_
 unfold q8f
 cases hd : dec 0 0 b with
 | none =>
  have e : qea b = (0, 0) := by unfold qea; rw [hd]
  rw [e]
  simp -implicitDefEqProofs -dsimp only [go_sem, seval, bts]
  refine qhe (T := T) (by repeat' (first | exact O6 _ _ | assumption | apply O5 | apply N2 | apply Z8)) hl b 0 0 rfl (by omega) (by omega) (by decide) (fun _ => ?_) (fun _ a => ?_) (fun n z h => by rw [hd] at h; cases h)
  ·simp -implicitDefEqProofs -dsimp only [go_sem, seval]
   exact K0 rfl
  ·simp -implicitDefEqProofs -dsimp only [go_sem, seval]
   exact K0 rfl
 | some r =>
  have e : qea b = r := by unfold qea; rw [hd]
  obtain ⟨n, z⟩ := r
  rw [e]
  simp -implicitDefEqProofs -dsimp only [go_sem, seval, bts]
  refine qhe (T := T) (by repeat' (first | exact O6 _ _ | assumption | apply O5 | apply N2 | apply Z8)) hl b 0 0 rfl (by omega) (by omega) (by decide) (fun h => by rw [hd] at h; cases h) (fun h a => by rw [hd] at h; cases h) (fun n' z' h => ?_)
  rw [hd] at h
  injection h with h; injection h with h1 h2
  subst h1; subst h2
  simp -implicitDefEqProofs -dsimp only [go_sem, seval]
  exact K0 rfl
theorem qp5 {k : Nat} {s : RS} (h : s.2 = false) : q1l k s = if (qea s.1).2 = 0 \/ k < (qea s.1).1 then (0, (s.1, true)) else ((qea s.1).1, (s.1.drop (qea s.1).2, false)) := by
 unfold q1l qea
 rw [if_neg (by rw [h]; decide)]
 cases hd : dec 0 0 s.1 with
 | none => simp
 | some r =>
  obtain ⟨n, z⟩ := r
  obtain ⟨h1, h2, _⟩ := qfj hd
  have hz : z ≠ 0 := by
   have := List.length_pos_iff.2 (qq6 n)
   omega
  simp only [hz, false_or]
  by_cases hk : n <= k
  ·rw [if_pos hk, if_neg (by omega)]
  ·rw [if_neg hk, if_pos (by omega)]
theorem qrl (b : List UInt8) : (qea b).2 <= b.length /\ (qea b).1 < 18446744073709551616 := by
 unfold qea
 cases hd : dec 0 0 b with
 | none => simp
 | some r =>
  obtain ⟨n, z⟩ := r
  obtain ⟨h1, h2, h3, h4⟩ := qfj hd
  exact ⟨h2, h4⟩
theorem qna {T : Tab} {id : Nat} {s : RS} (k : Nat) (hl : Len s.1.length) : ACalls prog G1 [.ptr id 0, .i .u64 k] (rT T id s) (fun v T' => v = .i .u64 (q1l k s).1 /\ T' = rT T id (q1l k s).2) := by
 refine K6 O2 q9d (by simp) ?_
 unfold q4e
 obtain ⟨b, bad⟩ := s
 have hd := qrl b
 cases bad with
 | true =>
  rw [qmu rfl]
  simp -implicitDefEqProofs -dsimp only [go_sem, seval, ↓J1 _ _ q2u]
  refine can qn7 ?_
  simp -implicitDefEqProofs -dsimp only [go_sem, seval]
  exact K0 rfl
 | false =>
  rw [qp5 rfl]
  simp -implicitDefEqProofs -dsimp only [go_sem, seval, ↓J1 _ _ q2u]
  refine can qn7 ?_
  simp -implicitDefEqProofs -dsimp only [go_sem, seval, qkn, ↓J1 _ _ qe6]
  refine cpn (qn9 b none hl) ?_
  have d1 : decide (((qea b).2 : Int) = 0) = decide ((qea b).2 = 0) := decide_eq_decide.2 (by omega)
  have d2 : decide ((k : Int) < ((qea b).1 : Int)) = decide (k < (qea b).1) := decide_eq_decide.2 (by omega)
  rcases h1 : decide ((qea b).2 = 0) with _ | _
  ·rcases h2 : decide (k < (qea b).1) with _ | _
   ·simp -implicitDefEqProofs -dsimp only [go_sem, seval, d1, d2, h1, h2, ↓J1 _ _ q9g]
    refine can (qrj (qea b).2 hd.1) ?_
    simp -implicitDefEqProofs -dsimp only [go_sem, seval]
    rw [if_neg (by have := of_decide_eq_false h1; have := of_decide_eq_false h2; omega)]
    exact K0 rfl
   ·simp -implicitDefEqProofs -dsimp only [go_sem, seval, d1, d2, h1, h2, ↓J1 _ _ q3r]
    refine can qjp ?_
    simp -implicitDefEqProofs -dsimp only [go_sem, seval]
    rw [if_pos (.inr (of_decide_eq_true h2))]
    exact K0 rfl
  ·simp -implicitDefEqProofs -dsimp only [go_sem, seval, d1, d2, h1, ↓J1 _ _ q3r]
   refine can qjp ?_
   simp -implicitDefEqProofs -dsimp only [go_sem, seval]
   rw [if_pos (.inl (of_decide_eq_true h1))]
   exact K0 rfl
theorem qyy {T : Tab} {id : Nat} {s : RS} (hl : Len s.1.length) : ACalls prog q0l [.ptr id 0] (rT T id s) (fun v T' => v = .i .u64 (q1l 18446744073709551615 s).1 /\ T' = rT T id (q1l 18446744073709551615 s).2) := by
 refine K6 O2 qc8 (by simp) ?_
 unfold q6e
 simp -implicitDefEqProofs -dsimp only [go_sem, seval, ↓J1 _ _ q4f]
 refine can (qna 18446744073709551615 hl) ?_
 simp -implicitDefEqProofs -dsimp only [go_sem, seval]
 exact K0 rfl
theorem qvm {T : Tab} {id : Nat} {s : RS} (k : Nat) (hk : k < 9223372036854775808) (hl : Len s.1.length) : ACalls prog U6 [.ptr id 0, .i .i64 k] (rT T id s) (fun v T' => v = .i .i64 (q1l k s).1 /\ T' = rT T id (q1l k s).2) := by
 refine K6 O2 qad (by simp) ?_
 have d : decide ((k : Int) < 0) = false := decide_eq_false (by omega)
 have hle := qos k s
 have w : IntKind.i64.wrap ((q1l k s).1 : Int) = (q1l k s).1 := q2k (by unfold I64; omega)
 unfold q4q
 simp -implicitDefEqProofs -dsimp only [go_sem, seval, d, qan (n := k) (by omega), ↓J1 _ _ q4f]
 refine can (qna k hl) ?_
 simp -implicitDefEqProofs -dsimp only [go_sem, seval, w]
 exact K0 rfl
theorem qao : ∀ (l : List UInt8), q3h (N9 l) = some l
 | [] => rfl
 | b :: l => by
  have ih := qao l
  simp only [N9, List.map_cons, q3h, qgo] at ih ⊢
  rw [ih]
  simp
theorem qg6 (xs : List UInt8) (cap : Option Nat) (hn : xs.length <= 1000000000) : U4 prog O8 [bts xs cap] (bts xs none) := by
 refine K9 O2 q2a (by simp) fun T => ?_
 unfold q04
 have main : ∀ K : AV -> Tab -> Prop, (∀ v T', Own T 1 v xs.length (N9 xs) T' -> K v T') -> I8 1 1 T (.fz 0 [] (some 0)) (.fz xs.length (N9 xs) cap) K := fun K hK =>
  (Own.nil T 1).app (m := xs.length) (news := N9 xs) (by simp [N4, q3j]) rfl (by omega) (by omega) (by simpa using hK)
 simp -implicitDefEqProofs -dsimp only [go_sem, seval, bts, qeq]
 split
 ·refine main _ fun v T' h => ?_
  refine J5 ?_
  obtain ⟨q1, q2, q3, q4, q5, q6⟩ := h.form
  simp -implicitDefEqProofs -dsimp only [go_sem, seval, q1]
  exact h.fzn
 ·rename_i h0
  have e : xs = [] := List.length_eq_zero_iff.1 (by omega)
  subst e
  intro b
  refine J8 (fun h => ?_) (fun h => ?_) <;> simp -implicitDefEqProofs -dsimp only [go_sem, seval]
  ·exact (Own.nil T 1).fzn
  ·refine main _ fun v T' h => ?_
   refine J5 ?_
   obtain ⟨q1, q2, q3, q4, q5, q6⟩ := h.form
   simp -implicitDefEqProofs -dsimp only [go_sem, seval, q1]
   exact h.fzn
theorem qvn {T : Tab} (b : List UInt8) (cap : Option Nat) (hl : b.length <= 1000000000) : ACalls prog q5v [bts b cap] T (fun v T' => ∃ id, v = .ptr id 0 /\ T id = .unused /\ T' = rT T id (b, false)) := by
 refine K6 O2 qim (by simp) ?_
 unfold qd7
 simp -implicitDefEqProofs -dsimp only [go_sem, seval, ↓J1 _ _ q2b]
 refine cpn (qg6 b cap hl) ?_
 simp -implicitDefEqProofs -dsimp only [go_sem, seval, bts]
 intro id hid
 refine J5 ?_
 simp -implicitDefEqProofs -dsimp only [go_sem, seval]
 exact q1z _ (fun _ => .inr (.inl rfl)) ⟨id, rfl, hid, rfl⟩
theorem qiv {T : Tab} {id : Nat} {s : RS} (h : T id = qhd s) : rT T id s = T := Tab.put_self h
theorem qhf {T : Tab} {id : Nat} {s : RS} : rT T id s id = qhd s := Tab.put_same ..
section
variable {T : Tab} {id : Nat} {s : RS}
theorem qvo (h : T id = qhd s) : ACalls prog Y8 [.ptr id 0] T (fun v T' => v = .b s.2 /\ T' = T) := by
 have := qn7 (T := T) (id := id) (s := s); rwa [qiv h] at this
theorem qnb (h : T id = qhd s) (k : Nat) (hk : k < 9223372036854775808) (hl : Len s.1.length) : ACalls prog U6 [.ptr id 0, .i .i64 k] T (fun v T' => v = .i .i64 (q1l k s).1 /\ T' = rT T id (q1l k s).2) := by
 have := qvm (T := T) (id := id) (s := s) k hk hl; rw [qiv h] at this; exact this
theorem qyz (h : T id = qhd s) (hl : Len s.1.length) : ACalls prog q0l [.ptr id 0] T (fun v T' => v = .i .u64 (q1l 18446744073709551615 s).1 /\ T' = rT T id (q1l 18446744073709551615 s).2) := by
 have := qyy (T := T) (id := id) (s := s) hl; rw [qiv h] at this; exact this
end
end Go.Aw
