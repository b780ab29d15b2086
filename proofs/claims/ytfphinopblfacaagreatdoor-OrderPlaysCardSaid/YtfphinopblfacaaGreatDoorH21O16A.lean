import Derived.Test.YtfphinopblfacaaGreatDoorH21O16R
import Derived.Test.YtfphinopblfacaaGreatDoorAwD
namespace Go.Aw
open Go
open Go.Proofs.Tryz (prog)
set_option linter.all false
set_option maxHeartbeats 4000000

/-! A reader. -/
def rdRow (s : RS) : Slot := .row 2 [bts s.1 none, .b s.2]
def rT (T : Tab) (id : Nat) (s : RS) : Tab := T.put id (rdRow s)
theorem rT_at {T : Tab} {id : Nat} {s : RS} : rT T id s id = .row 2 [bts s.1 none, .b s.2] := Tab.put_same ..
theorem rT_rT {T : Tab} {id : Nat} {s s' : RS} : rT (rT T id s) id s' = rT T id s' := Tab.put_put ..

theorem ac_Bad {T : Tab} {id : Nat} {s : RS} : ACalls prog f_octet_Reader_Bad [.ptr id 0] (rT T id s) (fun v T' => v = .b s.2 ∧ T' = rT T id s) := by
  refine acalls_of mixed t_octet_Reader_Bad (by simp) ?_
  unfold s_octet_Reader_Bad
  simp -implicitDefEqProofs -dsimp only [go_sem, Nat.reduceEqDiff, Nat.reduceAdd, Nat.reduceMul, Nat.reduceSub, Nat.reduceLT, Nat.reduceLeDiff, Nat.reduceBEq, reduceIte, reduceCtorEq, Int.reduceLT, Int.reduceLE, Int.reduceEq, Int.reduceNeg, Int.reduceToNat, Int.reduceAdd, Int.reduceSub, rT_at]
  exact finL_pure rfl
theorem ac_spoil {T : Tab} {id : Nat} {s : RS} : ACalls prog f_octet_Reader_spoil [.ptr id 0] (rT T id s) (fun v T' => v = .tup [] ∧ T' = rT T id (s.1, true)) := by
  refine acalls_of mixed t_octet_Reader_spoil (by simp) ?_
  unfold s_octet_Reader_spoil
  simp -implicitDefEqProofs -dsimp only [go_sem, Nat.reduceEqDiff, Nat.reduceAdd, Nat.reduceMul, Nat.reduceSub, Nat.reduceLT, Nat.reduceLeDiff, Nat.reduceBEq, reduceIte, reduceCtorEq, Int.reduceLT, Int.reduceLE, Int.reduceEq, Int.reduceNeg, Int.reduceToNat, Int.reduceAdd, Int.reduceSub, rT_at]
  refine stS_row (q := 2) (cells := [bts s.1 none, .b s.2]) rT_at rfl rfl (by simp) (aft_nil ?_)
  simp -implicitDefEqProofs -dsimp only [go_sem, Nat.reduceEqDiff, Nat.reduceAdd, Nat.reduceMul, Nat.reduceSub, Nat.reduceLT, Nat.reduceLeDiff, Nat.reduceBEq, reduceIte, reduceCtorEq, Int.reduceLT, Int.reduceLE, Int.reduceEq, Int.reduceNeg, Int.reduceToNat, Int.reduceAdd, Int.reduceSub]
  refine fin_as (.refl _) ?_
  unfold rT
  rw [Tab.put_put]
  rfl
theorem byteCells_take (l : List UInt8) (k : Nat) : (byteCells l).take k = byteCells (l.take k) := by simp [byteCells, List.map_take]
theorem byteCells_drop (l : List UInt8) (k : Nat) : (byteCells l).drop k = byteCells (l.drop k) := by simp [byteCells, List.map_drop]
theorem ac_take {T : Tab} {id : Nat} {s : RS} (n : Nat) (hn : n ≤ s.1.length) : ACalls prog f_octet_Reader_take [.ptr id 0, .i .i64 n] (rT T id s) (fun v T' => v = bts (s.1.take n) (some n) ∧ T' = rT T id (s.1.drop n, s.2)) := by
  refine acalls_of mixed t_octet_Reader_take (by simp) ?_
  have e1 : (s.1.take n).length = n := by rw [List.length_take]; omega
  have e2 : (s.1.drop n).length = s.1.length - n := List.length_drop
  have e3 : (s.1.drop n).take (s.1.length - n) = s.1.drop n := List.take_of_length_le (by omega)
  unfold s_octet_Reader_take
  simp -implicitDefEqProofs -dsimp only [go_sem, Nat.reduceEqDiff, Nat.reduceAdd, Nat.reduceMul, Nat.reduceSub, Nat.reduceLT, Nat.reduceLeDiff, Nat.reduceBEq, reduceIte, reduceCtorEq, Int.reduceLT, Int.reduceLE, Int.reduceEq, Int.reduceNeg, Int.reduceToNat, Int.reduceAdd, Int.reduceSub, rT_at, bts, hn, Nat.zero_le, Nat.le_refl, Int.natCast_nonneg, Int.toNat_natCast, Option.isSome_some, byteCells_take, byteCells_drop, e3]
  refine stS_row (q := 2) (cells := [bts s.1 none, .b s.2]) rT_at rfl rfl (by simp) (aft_nil ?_)
  simp -implicitDefEqProofs -dsimp only [go_sem, Nat.reduceEqDiff, Nat.reduceAdd, Nat.reduceMul, Nat.reduceSub, Nat.reduceLT, Nat.reduceLeDiff, Nat.reduceBEq, reduceIte, reduceCtorEq, Int.reduceLT, Int.reduceLE, Int.reduceEq, Int.reduceNeg, Int.reduceToNat, Int.reduceAdd, Int.reduceSub]
  refine fin_as (by rw [bts, e1]; exact .refl _) ?_
  unfold rT rdRow
  rw [Tab.put_put, bts, e2]

theorem and_low (y : UInt8) : IntKind.u8.wrap ((BitVec.ofInt IntKind.u8.bits (y.toNat : Int) &&& BitVec.ofInt IntKind.u8.bits 127).toNat : Nat) = ((y.toNat % 128 : Nat) : Int) := by
  have h := and127 ⟨y.toNat, y.toNat_lt⟩
  simp only at h
  rw [show IntKind.u8.bits = 8 from rfl, h, wrap_u8]
  omega
theorem shl7 {c k : Nat} (h : c * 128 ^ k < 18446744073709551616) (hk : k ≤ 9) (hc : c < 128) : IntKind.u64.wrap (IntKind.u64.wrap (c : Int) * 2 ^ (min ((7 * k : Nat) : Int).toNat 64)) = ((c * 128 ^ k : Nat) : Int) := by
  rw [wrap_u64n (n := c) (by omega), Int.toNat_natCast, Nat.min_eq_left (by omega)]
  have e : ((c : Int) * 2 ^ (7 * k)) = ((c * 128 ^ k : Nat) : Int) := by rw [pow128]; push_cast; rfl
  rw [e, wrap_u64n h]
theorem or_high {a c k : Nat} (ha : a < 128 ^ k) (h : a + c * 128 ^ k < 18446744073709551616) : IntKind.u64.wrap ((BitVec.ofInt IntKind.u64.bits (a : Int) ||| BitVec.ofInt IntKind.u64.bits ((c * 128 ^ k : Nat) : Int)).toNat : Nat) = ((a + c * 128 ^ k : Nat) : Int) := by
  have e : (BitVec.ofInt IntKind.u64.bits (a : Int) ||| BitVec.ofInt IntKind.u64.bits ((c * 128 ^ k : Nat) : Int)).toNat = a + c * 128 ^ k := by
    show (BitVec.ofInt 64 (a : Int) ||| BitVec.ofInt 64 ((c * 128 ^ k : Nat) : Int)).toNat = _
    rw [BitVec.toNat_or, BitVec.ofInt_natCast, BitVec.ofInt_natCast, BitVec.toNat_ofNat, BitVec.toNat_ofNat, Nat.mod_eq_of_lt (by omega), Nat.mod_eq_of_lt (by omega)]
    rw [pow128] at ha ⊢
    have := Nat.two_pow_add_eq_or_of_lt ha c
    rw [Nat.or_comm, Nat.mul_comm c, ← this, Nat.add_comm]
  rw [e, wrap_u64n h]
theorem acc_lt {a c k : Nat} (ha : a < 128 ^ k) (hc : c < 128) (h : k ≤ 8 ∨ (k = 9 ∧ c ≤ 1)) : a + c * 128 ^ k < 18446744073709551616 := by
  rcases h with h | ⟨rfl, h⟩
  · have h8 : 128 ^ k ≤ 128 ^ 8 := Nat.pow_le_pow_right (by decide) h
    have h88 : (128 : Nat) ^ 8 = 72057594037927936 := by decide
    have : c * 128 ^ k ≤ 127 * 128 ^ k := Nat.mul_le_mul_right _ (by omega)
    omega
  · have : (128 : Nat) ^ 9 = 9223372036854775808 := by decide
    rw [this] at ha ⊢
    omega

theorem lp_number {R : RPost} (hR : ExtR R) {T : Tab} {b : List UInt8} {cap : Option Nat} (hl : Len b.length) : ∀ (ys : List UInt8) (k a : Nat), b.drop k = ys → k ≤ b.length → k ≤ 9 → a < 128 ^ k →
    (dec k a ys = none → R .ret [(2, .i .u64 0), (3, .i .i64 0)] [] T) → (dec k a ys = none → ∀ a, R (.exit 0) [(4, .i .u64 a), (8, bts b cap), (9, .i .i64 b.length), (10, .i .i64 b.length), (11, .b false)] [] T) →
    (∀ n z, dec k a ys = some (n, z) → R .ret [(2, .i .u64 n), (3, .i .i64 z)] [] T) →
    AW prog octet_number_l0 R [(4, .i .u64 a), (8, bts b cap), (9, .i .i64 b.length), (10, .i .i64 k)] [] T := by
  intro ys
  induction ys with
  | nil =>
    intro k a hk hle h9 ha h0 hE h2
    have hk' := drop_nil hk hle
    refine AW_loop hR ?_
    unfold octet_number_l0b
    simp -implicitDefEqProofs -dsimp only [go_sem, Nat.reduceEqDiff, Nat.reduceAdd, Nat.reduceMul, Nat.reduceSub, Nat.reduceLT, Nat.reduceLeDiff, Nat.reduceBEq, reduceIte, reduceCtorEq, Int.reduceLT, Int.reduceLE, Int.reduceEq, Int.reduceNeg, Int.reduceToNat, Int.reduceAdd, Int.reduceSub, hk', Int.lt_irrefl]
    have := hE rfl a
    rw [hk'] at this
    exact this
  | cons y ys ih =>
    intro k a hk hle h9 ha h0 hE h2
    obtain ⟨hlt, hy, hk'⟩ := drop_lt hk
    unfold Len at hl
    have hat : ((byteCells b).drop k)[0]? = some (.i .u8 y.toNat) := by simp [byteCells, hy]
    have w7 : IntKind.i64.wrap (7 * (k : Int)) = ((7 * k : Nat) : Int) := by rw [wrap_i64 (by unfold I64; omega)]; omega
    have d1 : decide ((63 : Int) < ((7 * k : Nat) : Int)) = false := decide_eq_false (by omega)
    have d2 : decide (((7 * k : Nat) : Int) = 63) = decide (k = 9) := decide_eq_decide.2 (by omega)
    have d3 : decide ((1 : Int) < (y.toNat : Int)) = decide (1 < y.toNat) := decide_eq_decide.2 (by omega)
    have d4 : decide ((y.toNat : Int) < 128) = decide (y.toNat < 128) := decide_eq_decide.2 (by omega)
    have d5 : decide ((y.toNat : Int) = 0) = decide (y.toNat = 0) := decide_eq_decide.2 (by omega)
    have d6 : decide ((0 : Int) < (k : Int)) = decide (0 < k) := decide_eq_decide.2 (by omega)
    have hp0 : (((7 * k : Nat) : Int) < 0) = False := eq_false (Int.not_lt.2 (Int.natCast_nonneg _))
    have fin : ¬ (9 < k ∨ (k = 9 ∧ 1 < y.toNat)) → AW prog octet_number_l0 R [(4, .i .u64 a), (8, bts b cap), (9, .i .i64 b.length), (10, .i .i64 k)] [] T := by
      intro hok
      have hdec : dec k a (y :: ys) = if y.toNat < 128 then (if y.toNat = 0 ∧ 0 < k then none else some (a + y.toNat % 128 * 128 ^ k, k + 1)) else dec (k + 1) (a + y.toNat % 128 * 128 ^ k) ys := by simp only [dec]; rw [if_neg hok]
      have hlow : k ≤ 8 ∨ (k = 9 ∧ y.toNat % 128 ≤ 1) := by omega
      have hm := Nat.mod_lt y.toNat (show 0 < 128 by decide)
      have hacc := acc_lt ha hm hlow
      have e1 := shl7 (c := y.toNat % 128) (k := k) (by omega) h9 hm
      have e2 := or_high ha hacc
      have hb : decide (k = 9) = false ∨ (decide (k = 9) = true ∧ decide (1 < y.toNat) = false) := by
        by_cases h : k = 9
        · exact .inr ⟨decide_eq_true h, decide_eq_false (fun h1 => hok (.inr ⟨h, h1⟩))⟩
        · exact .inl (decide_eq_false h)
      refine AW_loopD (l := octet_number_l0) rfl hR ?_
      unfold octet_number_l0b
      simp -implicitDefEqProofs -dsimp only [go_sem, Nat.reduceEqDiff, Nat.reduceAdd, Nat.reduceMul, Nat.reduceSub, Nat.reduceLT, Nat.reduceLeDiff, Nat.reduceBEq, reduceIte, reduceCtorEq, Int.reduceLT, Int.reduceLE, Int.reduceEq, Int.reduceNeg, Int.reduceToNat, Int.reduceAdd, Int.reduceSub, bts, Int.ofNat_lt, hlt, Int.natCast_nonneg, Int.toNat_natCast, hat, w7, d1, d2, d3]
      rcases hb with hb | ⟨hb, hb2⟩
      all_goals
        simp -implicitDefEqProofs -dsimp only [go_sem, Nat.reduceEqDiff, Nat.reduceAdd, Nat.reduceMul, Nat.reduceSub, Nat.reduceLT, Nat.reduceLeDiff, Nat.reduceBEq, reduceIte, reduceCtorEq, Int.reduceLT, Int.reduceLE, Int.reduceEq, Int.reduceNeg, Int.reduceToNat, Int.reduceAdd, Int.reduceSub, hb, d2, d3, decide_true, decide_false, and_low]
        try simp -implicitDefEqProofs -dsimp only [go_sem, Nat.reduceEqDiff, Nat.reduceAdd, Nat.reduceMul, Nat.reduceSub, Nat.reduceLT, Nat.reduceLeDiff, Nat.reduceBEq, reduceIte, reduceCtorEq, Int.reduceLT, Int.reduceLE, Int.reduceEq, Int.reduceNeg, Int.reduceToNat, Int.reduceAdd, Int.reduceSub, hb2, d2, d3, decide_true, decide_false, and_low]
        simp -implicitDefEqProofs -dsimp only [go_sem, Nat.reduceEqDiff, Nat.reduceAdd, Nat.reduceMul, Nat.reduceSub, Nat.reduceLT, Nat.reduceLeDiff, Nat.reduceBEq, reduceIte, reduceCtorEq, Int.reduceLT, Int.reduceLE, Int.reduceEq, Int.reduceNeg, Int.reduceToNat, Int.reduceAdd, Int.reduceSub, hp0, e1, e2, d4]
        rcases h128 : decide (y.toNat < 128) with _ | _
        · simp -implicitDefEqProofs -dsimp only [go_sem, Nat.reduceEqDiff, Nat.reduceAdd, Nat.reduceMul, Nat.reduceSub, Nat.reduceLT, Nat.reduceLeDiff, Nat.reduceBEq, reduceIte, reduceCtorEq, Int.reduceLT, Int.reduceLE, Int.reduceEq, Int.reduceNeg, Int.reduceToNat, Int.reduceAdd, Int.reduceSub, d4, h128]
          rw [wrap_succ (by omega)]
          have h128' := of_decide_eq_false h128
          have hk9 : k ≠ 9 := by omega
          refine ih (k + 1) _ hk' hlt (by omega) ?_ (fun h => h0 (by rw [hdec, if_neg h128']; exact h)) (fun h => hE (by rw [hdec, if_neg h128']; exact h)) fun n z h => h2 n z ?_
          · rw [Nat.pow_succ]
            have : y.toNat % 128 * 128 ^ k ≤ 127 * 128 ^ k := Nat.mul_le_mul_right _ (by omega)
            omega
          · rw [hdec, if_neg h128']; exact h
        · have h128' := of_decide_eq_true h128
          simp -implicitDefEqProofs -dsimp only [go_sem, Nat.reduceEqDiff, Nat.reduceAdd, Nat.reduceMul, Nat.reduceSub, Nat.reduceLT, Nat.reduceLeDiff, Nat.reduceBEq, reduceIte, reduceCtorEq, Int.reduceLT, Int.reduceLE, Int.reduceEq, Int.reduceNeg, Int.reduceToNat, Int.reduceAdd, Int.reduceSub, d4, d5, d6, h128]
          rcases h00 : decide (y.toNat = 0) with _ | _
          · simp -implicitDefEqProofs -dsimp only [go_sem, Nat.reduceEqDiff, Nat.reduceAdd, Nat.reduceMul, Nat.reduceSub, Nat.reduceLT, Nat.reduceLeDiff, Nat.reduceBEq, reduceIte, reduceCtorEq, Int.reduceLT, Int.reduceLE, Int.reduceEq, Int.reduceNeg, Int.reduceToNat, Int.reduceAdd, Int.reduceSub, d4, d5, d6, h128, h00, decide_true, decide_false]
            rw [wrap_succ (by omega)]
            exact h2 _ _ (by rw [hdec, if_pos h128', if_neg (fun h => of_decide_eq_false h00 h.1)])
          · rcases hk0 : decide (0 < k) with _ | _
            · simp -implicitDefEqProofs -dsimp only [go_sem, Nat.reduceEqDiff, Nat.reduceAdd, Nat.reduceMul, Nat.reduceSub, Nat.reduceLT, Nat.reduceLeDiff, Nat.reduceBEq, reduceIte, reduceCtorEq, Int.reduceLT, Int.reduceLE, Int.reduceEq, Int.reduceNeg, Int.reduceToNat, Int.reduceAdd, Int.reduceSub, d4, d5, d6, h128, h00, hk0, decide_true, decide_false]
              rw [wrap_succ (by omega)]
              exact h2 _ _ (by rw [hdec, if_pos h128', if_neg (fun h => of_decide_eq_false hk0 h.2)])
            · simp -implicitDefEqProofs -dsimp only [go_sem, Nat.reduceEqDiff, Nat.reduceAdd, Nat.reduceMul, Nat.reduceSub, Nat.reduceLT, Nat.reduceLeDiff, Nat.reduceBEq, reduceIte, reduceCtorEq, Int.reduceLT, Int.reduceLE, Int.reduceEq, Int.reduceNeg, Int.reduceToNat, Int.reduceAdd, Int.reduceSub, d4, d5, d6, h128, h00, hk0, decide_true, decide_false]
              exact h0 (by rw [hdec, if_pos h128', if_pos ⟨of_decide_eq_true h00, of_decide_eq_true hk0⟩])
    by_cases hok : 9 < k ∨ (k = 9 ∧ 1 < y.toNat)
    · obtain ⟨rfl, h1⟩ : k = 9 ∧ 1 < y.toNat := by omega
      refine AW_loopD (l := octet_number_l0) rfl hR ?_
      unfold octet_number_l0b
      have t1 : decide (1 < y.toNat) = true := decide_eq_true h1
      simp -implicitDefEqProofs -dsimp only [go_sem, Nat.reduceEqDiff, Nat.reduceAdd, Nat.reduceMul, Nat.reduceSub, Nat.reduceLT, Nat.reduceLeDiff, Nat.reduceBEq, reduceIte, reduceCtorEq, Int.reduceLT, Int.reduceLE, Int.reduceEq, Int.reduceNeg, Int.reduceToNat, Int.reduceAdd, Int.reduceSub, bts, Int.ofNat_lt, hlt, Int.natCast_nonneg, Int.toNat_natCast, hat, w7, d1, d2, d3, decide_true, decide_false, t1]
      exact h0 (by simp [dec, h1])
    · exact fin hok

def decR (b : List UInt8) : Nat × Nat := match dec 0 0 b with
  | some r => r
  | none => (0, 0)
theorem pc_number (b : List UInt8) (c : Option Nat) (hl : Len b.length) : PCalls prog f_octet_number [bts b c] (.tup [.i .u64 (decR b).1, .i .i64 (decR b).2]) := by
  refine pcalls_of mixed t_octet_number (by simp) fun T => ?_
  unfold s_octet_number
  cases hd : dec 0 0 b with
  | none =>
    have e : decR b = (0, 0) := by unfold decR; rw [hd]
    rw [e]
    simp -implicitDefEqProofs -dsimp only [go_sem, Nat.reduceEqDiff, Nat.reduceAdd, Nat.reduceMul, Nat.reduceSub, Nat.reduceLT, Nat.reduceLeDiff, Nat.reduceBEq, reduceIte, reduceCtorEq, Int.reduceLT, Int.reduceLE, Int.reduceEq, Int.reduceNeg, Int.reduceToNat, Int.reduceAdd, Int.reduceSub, bts]
    refine lp_number (T := T) (by repeat' (first | exact finX_ext _ _ | assumption | apply blkR_ext | apply thenR_ext | apply AW_ext)) hl b 0 0 rfl (by omega) (by omega) (by decide) (fun _ => ?_) (fun _ a => ?_) (fun n z h => by rw [hd] at h; cases h)
    · simp -implicitDefEqProofs -dsimp only [go_sem, Nat.reduceEqDiff, Nat.reduceAdd, Nat.reduceMul, Nat.reduceSub, Nat.reduceLT, Nat.reduceLeDiff, Nat.reduceBEq, reduceIte, reduceCtorEq, Int.reduceLT, Int.reduceLE, Int.reduceEq, Int.reduceNeg, Int.reduceToNat, Int.reduceAdd, Int.reduceSub]
      exact finL_pure rfl
    · simp -implicitDefEqProofs -dsimp only [go_sem, Nat.reduceEqDiff, Nat.reduceAdd, Nat.reduceMul, Nat.reduceSub, Nat.reduceLT, Nat.reduceLeDiff, Nat.reduceBEq, reduceIte, reduceCtorEq, Int.reduceLT, Int.reduceLE, Int.reduceEq, Int.reduceNeg, Int.reduceToNat, Int.reduceAdd, Int.reduceSub]
      exact finL_pure rfl
  | some r =>
    have e : decR b = r := by unfold decR; rw [hd]
    obtain ⟨n, z⟩ := r
    rw [e]
    simp -implicitDefEqProofs -dsimp only [go_sem, Nat.reduceEqDiff, Nat.reduceAdd, Nat.reduceMul, Nat.reduceSub, Nat.reduceLT, Nat.reduceLeDiff, Nat.reduceBEq, reduceIte, reduceCtorEq, Int.reduceLT, Int.reduceLE, Int.reduceEq, Int.reduceNeg, Int.reduceToNat, Int.reduceAdd, Int.reduceSub, bts]
    refine lp_number (T := T) (by repeat' (first | exact finX_ext _ _ | assumption | apply blkR_ext | apply thenR_ext | apply AW_ext)) hl b 0 0 rfl (by omega) (by omega) (by decide) (fun h => by rw [hd] at h; cases h) (fun h a => by rw [hd] at h; cases h) (fun n' z' h => ?_)
    rw [hd] at h
    injection h with h; injection h with h1 h2
    subst h1; subst h2
    simp -implicitDefEqProofs -dsimp only [go_sem, Nat.reduceEqDiff, Nat.reduceAdd, Nat.reduceMul, Nat.reduceSub, Nat.reduceLT, Nat.reduceLeDiff, Nat.reduceBEq, reduceIte, reduceCtorEq, Int.reduceLT, Int.reduceLE, Int.reduceEq, Int.reduceNeg, Int.reduceToNat, Int.reduceAdd, Int.reduceSub]
    exact finL_pure rfl

theorem rMost_eq {k : Nat} {s : RS} (h : s.2 = false) : rMost k s = if (decR s.1).2 = 0 ∨ k < (decR s.1).1 then (0, (s.1, true)) else ((decR s.1).1, (s.1.drop (decR s.1).2, false)) := by
  unfold rMost decR
  rw [if_neg (by rw [h]; decide)]
  cases hd : dec 0 0 s.1 with
  | none => simp
  | some r =>
    obtain ⟨n, z⟩ := r
    obtain ⟨h1, h2, _⟩ := dec_take hd
    have hz : z ≠ 0 := by
      have := List.length_pos_iff.2 (enc_ne n)
      omega
    simp only [hz, false_or]
    by_cases hk : n ≤ k
    · rw [if_pos hk, if_neg (by omega)]
    · rw [if_neg hk, if_pos (by omega)]
theorem decR_le (b : List UInt8) : (decR b).2 ≤ b.length ∧ (decR b).1 < 18446744073709551616 := by
  unfold decR
  cases hd : dec 0 0 b with
  | none => simp
  | some r =>
    obtain ⟨n, z⟩ := r
    obtain ⟨h1, h2, h3, h4⟩ := dec_take hd
    exact ⟨h2, h4⟩

theorem ac_most {T : Tab} {id : Nat} {s : RS} (k : Nat) (hl : Len s.1.length) : ACalls prog f_octet_Reader_most [.ptr id 0, .i .u64 k] (rT T id s) (fun v T' => v = .i .u64 (rMost k s).1 ∧ T' = rT T id (rMost k s).2) := by
  refine acalls_of mixed t_octet_Reader_most (by simp) ?_
  unfold s_octet_Reader_most
  obtain ⟨b, bad⟩ := s
  have hd := decR_le b
  cases bad with
  | true =>
    rw [rMost_bad rfl]
    simp -implicitDefEqProofs -dsimp only [go_sem, Nat.reduceEqDiff, Nat.reduceAdd, Nat.reduceMul, Nat.reduceSub, Nat.reduceLT, Nat.reduceLeDiff, Nat.reduceBEq, reduceIte, reduceCtorEq, Int.reduceLT, Int.reduceLE, Int.reduceEq, Int.reduceNeg, Int.reduceToNat, Int.reduceAdd, Int.reduceSub, ↓g_call _ _ c_octet_Reader_Bad]
    refine CallK.as ac_Bad (aft_nil ?_)
    simp -implicitDefEqProofs -dsimp only [go_sem, Nat.reduceEqDiff, Nat.reduceAdd, Nat.reduceMul, Nat.reduceSub, Nat.reduceLT, Nat.reduceLeDiff, Nat.reduceBEq, reduceIte, reduceCtorEq, Int.reduceLT, Int.reduceLE, Int.reduceEq, Int.reduceNeg, Int.reduceToNat, Int.reduceAdd, Int.reduceSub]
    exact finL_pure rfl
  | false =>
    rw [rMost_eq rfl]
    simp -implicitDefEqProofs -dsimp only [go_sem, Nat.reduceEqDiff, Nat.reduceAdd, Nat.reduceMul, Nat.reduceSub, Nat.reduceLT, Nat.reduceLeDiff, Nat.reduceBEq, reduceIte, reduceCtorEq, Int.reduceLT, Int.reduceLE, Int.reduceEq, Int.reduceNeg, Int.reduceToNat, Int.reduceAdd, Int.reduceSub, ↓g_call _ _ c_octet_Reader_Bad]
    refine CallK.as ac_Bad (aft_nil ?_)
    simp -implicitDefEqProofs -dsimp only [go_sem, Nat.reduceEqDiff, Nat.reduceAdd, Nat.reduceMul, Nat.reduceSub, Nat.reduceLT, Nat.reduceLeDiff, Nat.reduceBEq, reduceIte, reduceCtorEq, Int.reduceLT, Int.reduceLE, Int.reduceEq, Int.reduceNeg, Int.reduceToNat, Int.reduceAdd, Int.reduceSub, rT_at, ↓g_call _ _ c_octet_number]
    refine CallK.pure (pc_number b none hl) (aft_nil ?_)
    have d1 : decide (((decR b).2 : Int) = 0) = decide ((decR b).2 = 0) := decide_eq_decide.2 (by omega)
    have d2 : decide ((k : Int) < ((decR b).1 : Int)) = decide (k < (decR b).1) := decide_eq_decide.2 (by omega)
    rcases h1 : decide ((decR b).2 = 0) with _ | _
    · rcases h2 : decide (k < (decR b).1) with _ | _
      · simp -implicitDefEqProofs -dsimp only [go_sem, Nat.reduceEqDiff, Nat.reduceAdd, Nat.reduceMul, Nat.reduceSub, Nat.reduceLT, Nat.reduceLeDiff, Nat.reduceBEq, reduceIte, reduceCtorEq, Int.reduceLT, Int.reduceLE, Int.reduceEq, Int.reduceNeg, Int.reduceToNat, Int.reduceAdd, Int.reduceSub, d1, d2, h1, h2, ↓g_call _ _ c_octet_Reader_take]
        refine CallK.as (ac_take (decR b).2 hd.1) (aft_nil ?_)
        simp -implicitDefEqProofs -dsimp only [go_sem, Nat.reduceEqDiff, Nat.reduceAdd, Nat.reduceMul, Nat.reduceSub, Nat.reduceLT, Nat.reduceLeDiff, Nat.reduceBEq, reduceIte, reduceCtorEq, Int.reduceLT, Int.reduceLE, Int.reduceEq, Int.reduceNeg, Int.reduceToNat, Int.reduceAdd, Int.reduceSub]
        rw [if_neg (by have := of_decide_eq_false h1; have := of_decide_eq_false h2; omega)]
        exact finL_pure rfl
      · simp -implicitDefEqProofs -dsimp only [go_sem, Nat.reduceEqDiff, Nat.reduceAdd, Nat.reduceMul, Nat.reduceSub, Nat.reduceLT, Nat.reduceLeDiff, Nat.reduceBEq, reduceIte, reduceCtorEq, Int.reduceLT, Int.reduceLE, Int.reduceEq, Int.reduceNeg, Int.reduceToNat, Int.reduceAdd, Int.reduceSub, d1, d2, h1, h2, ↓g_call _ _ c_octet_Reader_spoil]
        refine CallK.as ac_spoil (aft_nil ?_)
        simp -implicitDefEqProofs -dsimp only [go_sem, Nat.reduceEqDiff, Nat.reduceAdd, Nat.reduceMul, Nat.reduceSub, Nat.reduceLT, Nat.reduceLeDiff, Nat.reduceBEq, reduceIte, reduceCtorEq, Int.reduceLT, Int.reduceLE, Int.reduceEq, Int.reduceNeg, Int.reduceToNat, Int.reduceAdd, Int.reduceSub]
        rw [if_pos (.inr (of_decide_eq_true h2))]
        exact finL_pure rfl
    · simp -implicitDefEqProofs -dsimp only [go_sem, Nat.reduceEqDiff, Nat.reduceAdd, Nat.reduceMul, Nat.reduceSub, Nat.reduceLT, Nat.reduceLeDiff, Nat.reduceBEq, reduceIte, reduceCtorEq, Int.reduceLT, Int.reduceLE, Int.reduceEq, Int.reduceNeg, Int.reduceToNat, Int.reduceAdd, Int.reduceSub, d1, d2, h1, ↓g_call _ _ c_octet_Reader_spoil]
      refine CallK.as ac_spoil (aft_nil ?_)
      simp -implicitDefEqProofs -dsimp only [go_sem, Nat.reduceEqDiff, Nat.reduceAdd, Nat.reduceMul, Nat.reduceSub, Nat.reduceLT, Nat.reduceLeDiff, Nat.reduceBEq, reduceIte, reduceCtorEq, Int.reduceLT, Int.reduceLE, Int.reduceEq, Int.reduceNeg, Int.reduceToNat, Int.reduceAdd, Int.reduceSub]
      rw [if_pos (.inl (of_decide_eq_true h1))]
      exact finL_pure rfl

theorem ac_N {T : Tab} {id : Nat} {s : RS} (hl : Len s.1.length) : ACalls prog f_octet_Reader_N [.ptr id 0] (rT T id s) (fun v T' => v = .i .u64 (rMost 18446744073709551615 s).1 ∧ T' = rT T id (rMost 18446744073709551615 s).2) := by
  refine acalls_of mixed t_octet_Reader_N (by simp) ?_
  unfold s_octet_Reader_N
  simp -implicitDefEqProofs -dsimp only [go_sem, Nat.reduceEqDiff, Nat.reduceAdd, Nat.reduceMul, Nat.reduceSub, Nat.reduceLT, Nat.reduceLeDiff, Nat.reduceBEq, reduceIte, reduceCtorEq, Int.reduceLT, Int.reduceLE, Int.reduceEq, Int.reduceNeg, Int.reduceToNat, Int.reduceAdd, Int.reduceSub, ↓g_call _ _ c_octet_Reader_most]
  refine CallK.as (ac_most 18446744073709551615 hl) (aft_nil ?_)
  simp -implicitDefEqProofs -dsimp only [go_sem, Nat.reduceEqDiff, Nat.reduceAdd, Nat.reduceMul, Nat.reduceSub, Nat.reduceLT, Nat.reduceLeDiff, Nat.reduceBEq, reduceIte, reduceCtorEq, Int.reduceLT, Int.reduceLE, Int.reduceEq, Int.reduceNeg, Int.reduceToNat, Int.reduceAdd, Int.reduceSub]
  exact finL_pure rfl
theorem ac_Int {T : Tab} {id : Nat} {s : RS} (k : Nat) (hk : k < 9223372036854775808) (hl : Len s.1.length) : ACalls prog f_octet_Reader_Int [.ptr id 0, .i .i64 k] (rT T id s) (fun v T' => v = .i .i64 (rMost k s).1 ∧ T' = rT T id (rMost k s).2) := by
  refine acalls_of mixed t_octet_Reader_Int (by simp) ?_
  have d : decide ((k : Int) < 0) = false := decide_eq_false (by omega)
  have hle := rMost_le k s
  have w : IntKind.i64.wrap ((rMost k s).1 : Int) = (rMost k s).1 := wrap_i64 (by unfold I64; omega)
  unfold s_octet_Reader_Int
  simp -implicitDefEqProofs -dsimp only [go_sem, Nat.reduceEqDiff, Nat.reduceAdd, Nat.reduceMul, Nat.reduceSub, Nat.reduceLT, Nat.reduceLeDiff, Nat.reduceBEq, reduceIte, reduceCtorEq, Int.reduceLT, Int.reduceLE, Int.reduceEq, Int.reduceNeg, Int.reduceToNat, Int.reduceAdd, Int.reduceSub, d, wrap_u64n (n := k) (by omega), ↓g_call _ _ c_octet_Reader_most]
  refine CallK.as (ac_most k hl) (aft_nil ?_)
  simp -implicitDefEqProofs -dsimp only [go_sem, Nat.reduceEqDiff, Nat.reduceAdd, Nat.reduceMul, Nat.reduceSub, Nat.reduceLT, Nat.reduceLeDiff, Nat.reduceBEq, reduceIte, reduceCtorEq, Int.reduceLT, Int.reduceLE, Int.reduceEq, Int.reduceNeg, Int.reduceToNat, Int.reduceAdd, Int.reduceSub, w]
  exact finL_pure rfl
theorem bytesAv_cells : ∀ (l : List UInt8), bytesAv (byteCells l) = some l
  | [] => rfl
  | b :: l => by
    have ih := bytesAv_cells l
    simp only [byteCells, List.map_cons, bytesAv, byteAv] at ih ⊢
    rw [ih]
    simp
theorem pc_Clone_byte (xs : List UInt8) (cap : Option Nat) (hn : xs.length ≤ 1000000000) : PCalls prog f_slices_Clone_byte_byte [bts xs cap] (bts xs none) := by
  refine pcalls_of mixed t_slices_Clone_byte_byte (by simp) fun T => ?_
  unfold s_slices_Clone_byte_byte
  have main : ∀ K : AV → Tab → Prop, (∀ v T', Own T 1 v xs.length (byteCells xs) T' → K v T') → appStep 1 1 T (.fz 0 [] (some 0)) (.fz xs.length (byteCells xs) cap) K := fun K hK =>
    (Own.nil T 1).app (m := xs.length) (news := byteCells xs) (by simp [slCells, byteCells_length]) rfl (by omega) (by omega) (by simpa using hK)
  simp -implicitDefEqProofs -dsimp only [go_sem, Nat.reduceEqDiff, Nat.reduceAdd, Nat.reduceMul, Nat.reduceSub, Nat.reduceLT, Nat.reduceLeDiff, Nat.reduceBEq, reduceIte, reduceCtorEq, Int.reduceLT, Int.reduceLE, Int.reduceEq, Int.reduceNeg, Int.reduceToNat, Int.reduceAdd, Int.reduceSub, bts, snl_fz]
  split
  · refine main _ fun v T' h => ?_
    refine aft_nil ?_
    obtain ⟨q1, q2, q3, q4, q5, q6⟩ := h.form
    simp -implicitDefEqProofs -dsimp only [go_sem, Nat.reduceEqDiff, Nat.reduceAdd, Nat.reduceMul, Nat.reduceSub, Nat.reduceLT, Nat.reduceLeDiff, Nat.reduceBEq, reduceIte, reduceCtorEq, Int.reduceLT, Int.reduceLE, Int.reduceEq, Int.reduceNeg, Int.reduceToNat, Int.reduceAdd, Int.reduceSub, q1]
    exact h.fzn
  · rename_i h0
    have e : xs = [] := List.length_eq_zero_iff.1 (by omega)
    subst e
    intro b
    refine br_split (fun h => ?_) (fun h => ?_) <;> simp -implicitDefEqProofs -dsimp only [go_sem, Nat.reduceEqDiff, Nat.reduceAdd, Nat.reduceMul, Nat.reduceSub, Nat.reduceLT, Nat.reduceLeDiff, Nat.reduceBEq, reduceIte, reduceCtorEq, Int.reduceLT, Int.reduceLE, Int.reduceEq, Int.reduceNeg, Int.reduceToNat, Int.reduceAdd, Int.reduceSub]
    · exact (Own.nil T 1).fzn
    · refine main _ fun v T' h => ?_
      refine aft_nil ?_
      obtain ⟨q1, q2, q3, q4, q5, q6⟩ := h.form
      simp -implicitDefEqProofs -dsimp only [go_sem, Nat.reduceEqDiff, Nat.reduceAdd, Nat.reduceMul, Nat.reduceSub, Nat.reduceLT, Nat.reduceLeDiff, Nat.reduceBEq, reduceIte, reduceCtorEq, Int.reduceLT, Int.reduceLE, Int.reduceEq, Int.reduceNeg, Int.reduceToNat, Int.reduceAdd, Int.reduceSub, q1]
      exact h.fzn
theorem ac_New {T : Tab} (b : List UInt8) (cap : Option Nat) (hl : b.length ≤ 1000000000) : ACalls prog f_octet_New [bts b cap] T (fun v T' => ∃ id, v = .ptr id 0 ∧ T id = .unused ∧ T' = rT T id (b, false)) := by
  refine acalls_of mixed t_octet_New (by simp) ?_
  unfold s_octet_New
  simp -implicitDefEqProofs -dsimp only [go_sem, Nat.reduceEqDiff, Nat.reduceAdd, Nat.reduceMul, Nat.reduceSub, Nat.reduceLT, Nat.reduceLeDiff, Nat.reduceBEq, reduceIte, reduceCtorEq, Int.reduceLT, Int.reduceLE, Int.reduceEq, Int.reduceNeg, Int.reduceToNat, Int.reduceAdd, Int.reduceSub, ↓g_call _ _ c_slices_Clone_byte_byte]
  refine CallK.pure (pc_Clone_byte b cap hl) (aft_nil ?_)
  simp -implicitDefEqProofs -dsimp only [go_sem, Nat.reduceEqDiff, Nat.reduceAdd, Nat.reduceMul, Nat.reduceSub, Nat.reduceLT, Nat.reduceLeDiff, Nat.reduceBEq, reduceIte, reduceCtorEq, Int.reduceLT, Int.reduceLE, Int.reduceEq, Int.reduceNeg, Int.reduceToNat, Int.reduceAdd, Int.reduceSub, bts]
  intro id hid
  refine aft_nil ?_
  simp -implicitDefEqProofs -dsimp only [go_sem, Nat.reduceEqDiff, Nat.reduceAdd, Nat.reduceMul, Nat.reduceSub, Nat.reduceLT, Nat.reduceLeDiff, Nat.reduceBEq, reduceIte, reduceCtorEq, Int.reduceLT, Int.reduceLE, Int.reduceEq, Int.reduceNeg, Int.reduceToNat, Int.reduceAdd, Int.reduceSub]
  exact finL_of _ (fun _ => .inr (.inl rfl)) ⟨id, rfl, hid, rfl⟩
/-! A reader in a table. -/
theorem rT_self {T : Tab} {id : Nat} {s : RS} (h : T id = rdRow s) : rT T id s = T := Tab.put_self h
theorem rT_row {T : Tab} {id : Nat} {s : RS} : rT T id s id = rdRow s := Tab.put_same ..
section
variable {T : Tab} {id : Nat} {s : RS}
theorem at_Bad (h : T id = rdRow s) : ACalls prog f_octet_Reader_Bad [.ptr id 0] T (fun v T' => v = .b s.2 ∧ T' = T) := by
  have := ac_Bad (T := T) (id := id) (s := s); rwa [rT_self h] at this
theorem at_Int (h : T id = rdRow s) (k : Nat) (hk : k < 9223372036854775808) (hl : Len s.1.length) : ACalls prog f_octet_Reader_Int [.ptr id 0, .i .i64 k] T (fun v T' => v = .i .i64 (rMost k s).1 ∧ T' = rT T id (rMost k s).2) := by
  have := ac_Int (T := T) (id := id) (s := s) k hk hl; rw [rT_self h] at this; exact this
theorem at_N (h : T id = rdRow s) (hl : Len s.1.length) : ACalls prog f_octet_Reader_N [.ptr id 0] T (fun v T' => v = .i .u64 (rMost 18446744073709551615 s).1 ∧ T' = rT T id (rMost 18446744073709551615 s).2) := by
  have := ac_N (T := T) (id := id) (s := s) hl; rw [rT_self h] at this; exact this
end
theorem Own.rd {B T1 : Tab} {id z n : Nat} {v : AV} {xs : List AV} {s : RS} (h : Own (rT B id s) z v n xs T1) (s' : RS) : Own (rT B id s') z v n xs (rT T1 id s') := by
  have hB : rT B id s id ≠ .unused := by rw [rT_row]; simp [rdRow]
  obtain ⟨T0, h1, h2⟩ := Owns.base_put (s := rdRow s') hB (Owns.one h)
  have e : T0 = rT B id s' := by
    rw [show T0 = (rT B id s).put id (rdRow s') from h1]; exact Tab.put_put ..
  rw [e] at h2
  exact h2
theorem Own.rdAt {B T1 : Tab} {id z n : Nat} {v : AV} {xs : List AV} {s : RS} (h : Own (rT B id s) z v n xs T1) : T1 id = rdRow s := by
  rw [h.at (by rw [rT_row]; simp [rdRow]), rT_row]

theorem Owns.rd {B T1 : Tab} {id : Nat} {l : List Ow} {s : RS} (h : Owns (rT B id s) l T1) (s' : RS) : Owns (rT B id s') l (rT T1 id s') := by
  have hB : rT B id s id ≠ .unused := by rw [rT_row]; simp [rdRow]
  have := Owns.base_put (s := rdRow s') hB h
  rw [show (rT B id s).put id (rdRow s') = rT B id s' from Tab.put_put ..] at this
  exact this
theorem Owns.rdAt {B T1 : Tab} {id : Nat} {l : List Ow} {s : RS} (h : Owns (rT B id s) l T1) : T1 id = rdRow s := by
  rw [Owns.base_get (by rw [rT_row]; simp [rdRow]) h, rT_row]
end Go.Aw
