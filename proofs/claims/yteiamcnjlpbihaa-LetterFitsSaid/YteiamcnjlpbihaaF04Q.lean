import Derived.Test.YteiamcnjlpbihaaF04P
namespace Go.Aw
open Go
set_option linter.all false

def it : Nat → W → W
  | 0, x => x
  | k + 1, x => it k (bit1 x)
theorem it_add (j : Nat) : ∀ (k : Nat) (x : W), it (k + j) x = it j (it k x)
  | 0, x => by rw [Nat.zero_add]; rfl
  | k + 1, x => by rw [show k + 1 + j = (k + j) + 1 by omega]; exact it_add j k (bit1 x)
theorem it_xor : ∀ (k : Nat) (x y : W), it k (x ^^^ y) = it k x ^^^ it k y
  | 0, _, _ => rfl
  | k + 1, x, y => by simp only [it, bit1_xor, it_xor k]
theorem it_zero : ∀ k : Nat, it k 0#32 = 0#32
  | 0 => rfl
  | k + 1 => by simp only [it, bit1_zero, it_zero k]
theorem it_ne : ∀ {k : Nat} {x : W}, x ≠ 0#32 → it k x ≠ 0#32
  | 0, _, h => h
  | k + 1, x, h => it_ne (k := k) fun e => h (bit1_inj0 e)
theorem bits8_it (x : W) : bits8 x = it 8 x := rfl
theorem bit1_shl {y : W} (h : y.getLsbD 31 = false) : bit1 (y <<< 1) = y := by
  rw [bit1_eq]
  have h0 : (y <<< 1).getLsbD 0 = false := by simp [BitVec.getLsbD_shiftLeft]
  rw [h0]
  simp only [Bool.false_eq_true, if_false, BitVec.xor_zero]
  apply BitVec.eq_of_getLsbD_eq
  intro i hi
  rw [BitVec.getLsbD_ushiftRight, BitVec.getLsbD_shiftLeft]
  by_cases e : i = 31
  · subst e; rw [h]; simp
  · simp only [show 1 + i < 32 by omega, decide_true, Bool.true_and]
    simp
theorem it_shl : ∀ (k : Nat) (y : W), (∀ i, 32 ≤ i + k → y.getLsbD i = false) → it k (y <<< k) = y
  | 0, y, _ => by simp [it]
  | k + 1, y, h => by
    simp only [it]
    rw [BitVec.shiftLeft_add, bit1_shl]
    · exact it_shl k y fun i hi => h i (by omega)
    · rw [BitVec.getLsbD_shiftLeft]
      by_cases hk : 31 < k
      · simp [hk]
      · have := h (31 - k) (by omega)
        simp [this]

def lo (c : W) : W := c &&& 255#32
theorem lo_split (c : W) : c = lo c ^^^ ((c >>> 8) <<< 8) := by
  apply BitVec.eq_of_getLsbD_eq
  intro i hi
  have h255 : (255#32 : W).getLsbD i = decide (i < 8) := by
    have : ∀ j : Fin 32, (255#32 : W).getLsbD j.val = decide (j.val < 8) := by decide
    exact this ⟨i, hi⟩
  simp only [lo, BitVec.getLsbD_xor, BitVec.getLsbD_and, BitVec.getLsbD_shiftLeft, BitVec.getLsbD_ushiftRight, h255]
  by_cases h8 : i < 8
  · simp [h8]
  · simp only [h8, decide_false, Bool.and_false, Bool.false_xor, hi, decide_true, Bool.not_false, Bool.true_and]
    rw [show 8 + (i - 8) = i by omega]
theorem byteN_lo (c : W) (k : Nat) : BitVec.ofNat 32 (byteN c k).toNat = lo (c >>> (8 * k)) := by
  apply BitVec.eq_of_toNat_eq
  have e : (255#32 : W).toNat = 2 ^ 8 - 1 := by decide
  rw [lo, BitVec.toNat_and, e, Nat.and_two_pow_sub_one_eq_mod, BitVec.toNat_ushiftRight, Nat.shiftRight_eq_div_pow, Nat.pow_mul, byteN]
  simp
  omega
theorem byte_step (s c : W) (b : UInt8) (h : BitVec.ofNat 32 b.toNat = lo c) : byte1 s b ^^^ (c >>> 8) = it 8 (s ^^^ c) := by
  have e : it 8 ((c >>> 8) <<< 8) = c >>> 8 := it_shl 8 _ fun i hi => by
    rw [BitVec.getLsbD_ushiftRight]; exact BitVec.getLsbD_of_ge _ _ (by omega)
  rw [byte1, h, bits8_it]
  conv => rhs; rw [lo_split c, ← BitVec.xor_assoc, it_xor, e]
theorem more_four (s c : W) : more s (four c) = it 32 (s ^^^ c) := by
  have h1 := byte_step s c _ (byteN_lo c 0)
  have h2 := byte_step (byte1 s (byteN c 0)) (c >>> 8) _ (byteN_lo c 1)
  have h3 := byte_step (byte1 (byte1 s (byteN c 0)) (byteN c 1)) (c >>> 8 >>> 8) (byteN c 2) (by rw [byteN_lo, ← BitVec.shiftRight_add])
  have h4 := byte_step (byte1 (byte1 (byte1 s (byteN c 0)) (byteN c 1)) (byteN c 2)) (c >>> 8 >>> 8 >>> 8) (byteN c 3) (by rw [byteN_lo, ← BitVec.shiftRight_add, ← BitVec.shiftRight_add])
  rw [h1] at h2
  rw [h2] at h3
  rw [h3] at h4
  have e : c >>> 8 >>> 8 >>> 8 >>> 8 = 0#32 := by
    apply BitVec.eq_of_getLsbD_eq
    intro i hi
    simp only [BitVec.getLsbD_ushiftRight]
    rw [BitVec.getLsbD_of_ge _ _ (by omega)]; simp
  rw [e, BitVec.xor_zero] at h4
  show more s (four c) = it (8 + (8 + (8 + 8))) (s ^^^ c)
  rw [it_add, it_add, it_add]
  exact h4

theorem more_app (x : W) (l m : List UInt8) : more x (l ++ m) = more (more x l) m := by simp [more]
theorem xor_not (x : W) : x ^^^ ~~~x = BitVec.allOnes 32 := by
  apply BitVec.eq_of_getLsbD_eq
  intro i hi
  simp only [BitVec.getLsbD_xor, BitVec.getLsbD_not, BitVec.getLsbD_allOnes, hi, decide_true, Bool.true_and]
  cases x.getLsbD i <;> rfl
/-- What a whole text leaves. -/
def magic : W := it 32 (BitVec.allOnes 32)
theorem more_seal (l : List UInt8) : more 4294967295#32 (sealL l) = magic := by
  rw [sealL, more_app, more_four, crcOf, xor_not]
  rfl
theorem more_add : ∀ (l : List UInt8) (x d : W), more (x ^^^ d) l = more x l ^^^ it (8 * l.length) d
  | [], _, _ => rfl
  | a :: l, x, d => by
    show more (byte1 (x ^^^ d) a) l = more (byte1 x a) l ^^^ it (8 * (l.length + 1)) d
    have e : byte1 (x ^^^ d) a = byte1 x a ^^^ it 8 d := by
      rw [byte1, byte1, bits8_it, bits8_it, ← it_xor]
      congr 1
      ac_rfl
    rw [e, more_add l, show 8 * (l.length + 1) = 8 + 8 * l.length by omega, it_add]
theorem xor_cancel (a b d : W) : (a ^^^ d) ^^^ (b ^^^ d) = a ^^^ b := by
  rw [show (a ^^^ d) ^^^ (b ^^^ d) = (a ^^^ b) ^^^ (d ^^^ d) by ac_rfl, BitVec.xor_self, BitVec.xor_zero]
theorem more_lin {l m : List UInt8} (x y : W) (h : l.length = m.length) : more x l ^^^ more x m = more y l ^^^ more y m := by
  have e : y = x ^^^ (x ^^^ y) := by rw [← BitVec.xor_assoc, BitVec.xor_self, BitVec.zero_xor]
  rw [e, more_add, more_add, h, xor_cancel]

/-! Some bits turned. -/
def flipB (a : UInt8) (k : Nat) : UInt8 := UInt8.ofBitVec (a.toBitVec ^^^ (1#8 <<< k))
def flip (l : List UInt8) (p : Nat) : List UInt8 := match l[p / 8]? with
  | some a => l.set (p / 8) (flipB a (p % 8))
  | none => l
theorem flip_len (l : List UInt8) (p : Nat) : (flip l p).length = l.length := by unfold flip; split <;> simp
theorem ofNat_byte (a : UInt8) : BitVec.ofNat 32 a.toNat = a.toBitVec.setWidth 32 := BitVec.eq_of_toNat_eq (by simp [BitVec.toNat_setWidth])
theorem byte_flip (a : UInt8) (k : Nat) (hk : k < 8) : BitVec.ofNat 32 (flipB a k).toNat = BitVec.ofNat 32 a.toNat ^^^ (1#32 <<< k) := by
  have e : ∀ k : Fin 8, (1#8 <<< k.val).setWidth 32 = (1#32 <<< k.val) := by decide
  rw [ofNat_byte, ofNat_byte, ← e ⟨k, hk⟩, ← BitVec.setWidth_xor]; rfl
theorem it_one (k : Nat) (hk : k < 32) : it k (1#32 <<< k) = 1#32 := it_shl k _ fun i hi => by
  rw [BitVec.getLsbD_one]; simp; omega
theorem flip_cons (a : UInt8) (l : List UInt8) (p : Nat) : flip (a :: l) (p + 8) = a :: flip l p := by
  have e1 : (p + 8) / 8 = p / 8 + 1 := by omega
  have e2 : (p + 8) % 8 = p % 8 := by omega
  unfold flip
  rw [e1, e2, List.getElem?_cons_succ]
  split <;> rfl
theorem more_flip : ∀ (l : List UInt8) (p : Nat) (x : W), p < 8 * l.length → more x (flip l p) = more x l ^^^ it (8 * l.length - p) 1#32
  | [], p, x, h => by simp at h
  | a :: l, p, x, h => by
    by_cases hp : p < 8
    · have e1 : p / 8 = 0 := by omega
      have e2 : p % 8 = p := by omega
      have e3 : flip (a :: l) p = flipB a p :: l := by unfold flip; rw [e1, e2]; rfl
      rw [e3]
      show more (byte1 x (flipB a p)) l = more (byte1 x a) l ^^^ _
      have e4 : byte1 x (flipB a p) = byte1 x a ^^^ it (8 - p) 1#32 := by
        rw [byte1, byte_flip a p hp, byte1, bits8_it, bits8_it, ← BitVec.xor_assoc, it_xor]
        congr 1
        rw [show (8 : Nat) = p + (8 - p) by omega, it_add, it_one p (by omega)]
        congr 1; omega
      rw [e4, more_add, ← it_add, List.length_cons]
      congr 2; omega
    · obtain ⟨q, rfl⟩ : ∃ q, p = q + 8 := ⟨p - 8, by omega⟩
      rw [flip_cons]
      show more (byte1 x a) (flip l q) = more (byte1 x a) l ^^^ _
      rw [more_flip l q _ (by simp only [List.length_cons] at h; omega), List.length_cons]
      congr 2; omega

def turnTo (l : List UInt8) (p : Nat) (m : W) : Nat → List UInt8
  | 0 => l
  | j + 1 => if m.getLsbD j = true then flip (turnTo l p m j) (p + j) else turnTo l p m j
def low (m : W) : Nat → W
  | 0 => 0#32
  | j + 1 => if m.getLsbD j = true then low m j ^^^ (1#32 <<< j) else low m j
theorem turnTo_len (l : List UInt8) (p : Nat) (m : W) : ∀ j, (turnTo l p m j).length = l.length
  | 0 => rfl
  | j + 1 => by
    simp only [turnTo]; split
    · rw [flip_len, turnTo_len l p m j]
    · exact turnTo_len l p m j
theorem low_get (m : W) : ∀ (j i : Nat), j ≤ 32 → (low m j).getLsbD i = (decide (i < j) && m.getLsbD i)
  | 0, i, _ => by simp [low]
  | j + 1, i, h => by
    have ih := low_get m j i (by omega)
    simp only [low]
    split
    · rename_i hm
      rw [BitVec.getLsbD_xor, ih, BitVec.getLsbD_shiftLeft, BitVec.getLsbD_one]
      by_cases e : i = j
      · subst e; simp [hm]; omega
      · by_cases h2 : i < j
        · simp [h2, show i < j + 1 by omega]
        · simp [h2, show ¬ i < j + 1 by omega]; intro _ _; omega
    · rename_i hm
      rw [ih]
      by_cases e : i = j
      · subst e; simp at hm; simp [hm]
      · by_cases h2 : i < j
        · simp [h2, show i < j + 1 by omega]
        · simp [h2, show ¬ i < j + 1 by omega]
theorem low_all (m : W) : low m 32 = m := by
  apply BitVec.eq_of_getLsbD_eq
  intro i hi
  rw [low_get m 32 i (by omega)]; simp [hi]
theorem more_turn (l : List UInt8) (p : Nat) (m : W) (x : W) (h : p + 31 < 8 * l.length) : ∀ j, j ≤ 32 → more x (turnTo l p m j) = more x l ^^^ it (8 * l.length - p) (low m j)
  | 0, _ => by simp [turnTo, low, it_zero]
  | j + 1, hj => by
    have ih := more_turn l p m x h j (by omega)
    simp only [turnTo, low]
    split
    · rw [more_flip _ _ _ (by rw [turnTo_len]; omega), turnTo_len, ih, it_xor, BitVec.xor_assoc]
      congr 2
      rw [show 8 * l.length - p = j + (8 * l.length - (p + j)) by omega, it_add, it_one j (by omega)]
    · exact ih
/-- A text that is whole, some bits of which within 32 next to one another are turned, is not whole: not even behind bytes of the same length that are not looked at. -/
theorem burst {a b : List UInt8} {m : W} {p : Nat} (hm : m ≠ 0#32) (h : p + 31 < 8 * (a.length + b.length)) {c : List UInt8} (ht : turnTo (a ++ sealL c) p m 32 = a ++ b) (hl : b.length = (sealL c).length) : ∀ d, b ≠ sealL d := by
  intro d e
  have hx := more_turn (a ++ sealL c) p m 4294967295#32 (by rw [List.length_append, ← hl]; exact h) 32 (by omega)
  rw [ht, low_all, more_app, more_app] at hx
  have hlin := more_lin (l := b) (m := sealL c) (more 4294967295#32 a) 4294967295#32 hl
  rw [e, more_seal, more_seal, BitVec.xor_self] at hlin
  rw [e, BitVec.xor_eq_zero_iff.1 hlin] at hx
  have : it (8 * (a ++ sealL c).length - p) m = 0#32 := by
    have h2 := congrArg (fun v : W => more (more 4294967295#32 a) (sealL c) ^^^ v) hx
    simp only [BitVec.xor_self] at h2
    rw [← BitVec.xor_assoc, BitVec.xor_self, BitVec.zero_xor] at h2
    exact h2.symm
  exact it_ne hm this
end Go.Aw
