import Derived.Test.YtmicojcojlgefaaAwD
import Derived.Test.YtmicojcojlgefaaT29Txt
namespace Go.Aw
open Go
open Go.Proofs.Try (prog)
set_option linter.all false
set_option maxHeartbeats 4000000

/-! Keys. -/
def sg (c : Int) : Bool := decide (97 ≤ c) && decide (c ≤ 122) || decide (48 ≤ c) && decide (c ≤ 57) || decide (c = 95)
def sgn (l : List UInt8) : Bool := l.all fun b => sg b.toNat
def keyOk (l : List UInt8) : Bool := !decide (l = []) && (sgn l && decide ((l.length : Int) ≤ 32))
def valOk (l : List UInt8) : Bool := sgn l && decide ((l.length : Int) ≤ 64)

theorem pc_sign (c : Int) : PCalls prog f_keys_sign [.i .u8 c] (.b (sg c)) := by
  refine pcalls_of mixed t_keys_sign (by simp) fun T => ?_
  unfold s_keys_sign
  simp -implicitDefEqProofs -dsimp only [go_sem, seval, decide_true, decide_false]
  (first | (apply br_split <;> intro h_1 <;> simp -implicitDefEqProofs -dsimp only [go_sem, seval, decide_true, decide_false, h_1]) | (have h_1 := trivial)) <;>
    (first | (apply br_split <;> intro h_2 <;> simp -implicitDefEqProofs -dsimp only [go_sem, seval, decide_true, decide_false, h_1, h_2]) | (have h_2 := trivial)) <;>
    (first | (apply br_split <;> intro h_3 <;> simp -implicitDefEqProofs -dsimp only [go_sem, seval, decide_true, decide_false, h_1, h_2, h_3]) | (have h_3 := trivial)) <;>
    (first | (apply br_split <;> intro h_4 <;> simp -implicitDefEqProofs -dsimp only [go_sem, seval, decide_true, decide_false, h_1, h_2, h_3, h_4]) | (have h_4 := trivial)) <;>
    (first | (apply br_split <;> intro h_5 <;> simp -implicitDefEqProofs -dsimp only [go_sem, seval, decide_true, decide_false, h_1, h_2, h_3, h_4, h_5]) | (have h_5 := trivial)) <;>
    (first | (apply br_split <;> intro h_6 <;> simp -implicitDefEqProofs -dsimp only [go_sem, seval, decide_true, decide_false, h_1, h_2, h_3, h_4, h_5, h_6]) | (have h_6 := trivial))
  all_goals
    refine finL_pure ?_
    simp only [sg, *, Bool.not_true, Bool.not_false, Bool.true_and, Bool.false_and, Bool.and_false, Bool.and_true, Bool.or_true, Bool.true_or, Bool.false_or, Bool.or_false]

theorem lp_signs {R : RPost} (hR : ExtR R) {T : Tab} {bs : List UInt8} {n : Int} (hl : Len bs.length) : ∀ (ys : List UInt8) (k : Nat), bs.drop k = ys → k ≤ bs.length →
    (sgn ys = false → R .ret [(4, .b false)] [] T) →
    (sgn ys = true → R (.exit 0) [(0, .s bs), (1, .i .i64 n), (7, .i .i64 bs.length), (8, .i .i64 bs.length), (9, .b false)] [] T) →
    AW prog keys_signs_l0 R [(0, .s bs), (1, .i .i64 n), (7, .i .i64 bs.length), (8, .i .i64 k)] [] T := by
  intro ys
  induction ys with
  | nil =>
    intro k hk hle h1 h2
    have hk' := drop_nil hk hle
    refine AW_loop hR ?_
    unfold keys_signs_l0b
    simp -implicitDefEqProofs -dsimp only [go_sem, seval, hk', Int.lt_irrefl]
    rw [hk'] at h2
    exact h2 rfl
  | cons y ys ih =>
    intro k hk hle h1 h2
    obtain ⟨hlt, hy, hk'⟩ := drop_lt hk
    unfold Len at hl
    refine AW_loopD (l := keys_signs_l0) rfl hR ?_
    unfold keys_signs_l0b
    simp -implicitDefEqProofs -dsimp only [go_sem, seval, Int.ofNat_lt, hlt, Int.natCast_nonneg, Int.toNat_natCast, hy, ↓g_call _ _ c_keys_sign]
    refine CallK.pure (pc_sign _) (aft_nil ?_)
    simp -implicitDefEqProofs -dsimp only [go_sem, seval]
    refine br_split (fun h => ?_) (fun h => ?_)
    · simp -implicitDefEqProofs -dsimp only [go_sem, seval, h]
      have : sg y.toNat = false := by simpa using h
      exact h1 (by simp [sgn, this])
    · simp -implicitDefEqProofs -dsimp only [go_sem, seval, h]
      have : sg y.toNat = true := by simpa using h
      rw [wrap_succ (by omega)]
      exact ih (k + 1) hk' hlt (fun h => h1 (by simpa [sgn, this] using h)) (fun h => h2 (by simpa [sgn, this] using h))

theorem pc_signs (bs : List UInt8) (n : Int) (hl : Len bs.length) : PCalls prog f_keys_signs [.s bs, .i .i64 n] (.b (sgn bs && decide ((bs.length : Int) ≤ n))) := by
  refine pcalls_of mixed t_keys_signs (by simp) fun T => ?_
  unfold s_keys_signs
  simp -implicitDefEqProofs -dsimp only [go_sem, seval]
  refine lp_signs (by repeat' (first | exact finX_ext _ _ | assumption | apply blkR_ext | apply thenR_ext | apply AW_ext)) hl bs 0 rfl (by omega) (fun h => ?_) (fun h => ?_)
  · simp -implicitDefEqProofs -dsimp only [go_sem, seval]
    exact finL_pure (by simp [h])
  · simp -implicitDefEqProofs -dsimp only [go_sem, seval]
    exact finL_pure (by simp [h])

theorem pc_kRight (bs : List UInt8) (hl : Len bs.length) : PCalls prog f_keys_Right [.s bs] (.b (keyOk bs)) := by
  refine pcalls_of mixed t_keys_Right (by simp) fun T => ?_
  unfold s_keys_Right
  simp -implicitDefEqProofs -dsimp only [go_sem, seval]
  refine br_split (fun h => ?_) (fun h => ?_)
  · simp -implicitDefEqProofs -dsimp only [go_sem, seval, h, ↓g_gdc, ↓g_call _ _ c_keys_signs]
    refine CallK.pure (pc_signs bs 32 hl) (aft_nil ?_)
    simp -implicitDefEqProofs -dsimp only [go_sem, seval]
    exact finL_pure (by simp only [keyOk, h, Bool.true_and])
  · simp -implicitDefEqProofs -dsimp only [go_sem, seval, h, ↓g_gdc, rcOk, true_and]
    exact finL_pure (by simp only [keyOk, h, Bool.false_and])

theorem pc_kRightVal (bs : List UInt8) (hl : Len bs.length) : PCalls prog f_keys_RightVal [.s bs] (.b (valOk bs)) := by
  refine pcalls_of mixed t_keys_RightVal (by simp) fun T => ?_
  unfold s_keys_RightVal
  simp -implicitDefEqProofs -dsimp only [go_sem, seval, ↓g_call _ _ c_keys_signs]
  refine CallK.pure (pc_signs bs 64 hl) (aft_nil ?_)
  simp -implicitDefEqProofs -dsimp only [go_sem, seval]
  exact finL_pure rfl

def numF : Nat → List UInt8 → Nat
  | h, [] => h
  | h, y :: ys => numF ((h * 33) % 4294967296 ^^^ y.toNat) ys
def num (l : List UInt8) : Nat := numF 5381 l
theorem num_step {h : Nat} (y : UInt8) : (h * 33) % 4294967296 ^^^ y.toNat < 4294967296 := by
  have h1 : (h * 33) % 4294967296 < 2 ^ 32 := Nat.mod_lt _ (by decide)
  have h2 : y.toNat < 2 ^ 32 := by have := y.toNat_lt; omega
  exact Nat.xor_lt_two_pow h1 h2
theorem numF_lt : ∀ (l : List UInt8) (h : Nat), h < 4294967296 → numF h l < 4294967296
  | [], h, hh => hh
  | y :: ys, h, hh => numF_lt ys _ (num_step y)
theorem num_lt (l : List UInt8) : num l < 4294967296 := numF_lt l _ (by decide)

theorem xor32 {a b : Nat} (ha : a < 4294967296) (hb : b < 4294967296) : (BitVec.ofInt 32 (a : Int) ^^^ BitVec.ofInt 32 (b : Int)).toNat = a ^^^ b := by
  rw [BitVec.toNat_xor, BitVec.ofInt_natCast, BitVec.ofInt_natCast, BitVec.toNat_ofNat, BitVec.toNat_ofNat, Nat.mod_eq_of_lt ha, Nat.mod_eq_of_lt hb]
theorem wrap_u32 (n : Int) : IntKind.u32.wrap n = n % 4294967296 := by
  simp [IntKind.wrap, IntKind.signed, IntKind.bits]
theorem num32 (h : Nat) (y : UInt8) : IntKind.u32.wrap ((BitVec.ofInt IntKind.u32.bits (IntKind.u32.wrap ((h : Int) * 33)) ^^^ BitVec.ofInt IntKind.u32.bits (IntKind.u32.wrap (y.toNat : Int))).toNat : Nat) = (((h * 33) % 4294967296 ^^^ y.toNat : Nat) : Int) := by
  have hy : y.toNat < 256 := y.toNat_lt
  have e1 : IntKind.u32.wrap ((h : Int) * 33) = (((h * 33) % 4294967296 : Nat) : Int) := by rw [wrap_u32]; omega
  have e2 : IntKind.u32.wrap (y.toNat : Int) = (y.toNat : Int) := by rw [wrap_u32]; omega
  rw [e1, e2, show IntKind.u32.bits = 32 from rfl, xor32 (Nat.mod_lt _ (by decide)) (by omega), wrap_u32]
  have := num_step (h := h) y
  omega
theorem lp_kNumber {R : RPost} (hR : ExtR R) {T : Tab} {bs : List UInt8} (hl : Len bs.length) : ∀ (ys : List UInt8) (k h : Nat), bs.drop k = ys → k ≤ bs.length →
    R (.exit 0) [(0, .s bs), (3, .i .u32 (numF h ys)), (6, .i .i64 bs.length), (7, .i .i64 bs.length), (8, .b false)] [] T →
    AW prog keys_Number_l0 R [(0, .s bs), (3, .i .u32 h), (6, .i .i64 bs.length), (7, .i .i64 k)] [] T := by
  intro ys
  induction ys with
  | nil =>
    intro k h hk hle h2
    have hk' := drop_nil hk hle
    refine AW_loop hR ?_
    unfold keys_Number_l0b
    simp -implicitDefEqProofs -dsimp only [go_sem, seval, hk', Int.lt_irrefl]
    rw [hk'] at h2
    exact h2
  | cons y ys ih =>
    intro k h hk hle h2
    obtain ⟨hlt, hy, hk'⟩ := drop_lt hk
    unfold Len at hl
    refine AW_loopD (l := keys_Number_l0) rfl hR ?_
    unfold keys_Number_l0b
    simp -implicitDefEqProofs -dsimp only [go_sem, seval, Int.ofNat_lt, hlt, Int.natCast_nonneg, Int.toNat_natCast, hy, num32]
    rw [wrap_succ (by omega)]
    exact ih (k + 1) _ hk' hlt h2

theorem pc_kNumber (bs : List UInt8) (hl : Len bs.length) : PCalls prog f_keys_Number [.s bs] (.i .u32 (num bs)) := by
  refine pcalls_of mixed t_keys_Number (by simp) fun T => ?_
  unfold s_keys_Number
  simp -implicitDefEqProofs -dsimp only [go_sem, seval]
  refine lp_kNumber (h := 5381) (by repeat' (first | exact finX_ext _ _ | assumption | apply blkR_ext | apply thenR_ext | apply AW_ext)) hl bs 0 rfl (by omega) ?_
  simp -implicitDefEqProofs -dsimp only [go_sem, seval]
  exact finL_pure rfl
end Go.Aw

