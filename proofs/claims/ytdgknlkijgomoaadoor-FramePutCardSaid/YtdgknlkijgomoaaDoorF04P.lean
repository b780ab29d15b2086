import GoSem.Claim
namespace Go.Aw
open Go
set_option linter.all false

/-! The sum's plain law: a shift register over bits. -/
abbrev W := BitVec 32
def poly : W := 3988292384#32
def bit1 (x : W) : W := (x >>> 1) ^^^ (poly &&& -(x &&& 1#32))
def bits8 (x : W) : W := bit1 (bit1 (bit1 (bit1 (bit1 (bit1 (bit1 (bit1 x)))))))
def byte1 (x : W) (b : UInt8) : W := bits8 (x ^^^ BitVec.ofNat 32 b.toNat)
def more (x : W) (l : List UInt8) : W := l.foldl byte1 x
def crcOf (l : List UInt8) : W := ~~~ more 4294967295#32 l
def byteN (x : W) (k : Nat) : UInt8 := UInt8.ofNat ((x.toNat / 256 ^ k) % 256)
def four (x : W) : List UInt8 := [byteN x 0, byteN x 1, byteN x 2, byteN x 3]
def sealL (l : List UInt8) : List UInt8 := l ++ four (crcOf l)

theorem neg_and1 (x : W) : -(x &&& 1#32) = if x.getLsbD 0 then BitVec.allOnes 32 else 0#32 := by
  have h : x &&& 1#32 = if x.getLsbD 0 then 1#32 else 0#32 := by
    apply BitVec.eq_of_getLsbD_eq
    intro i hi
    rw [BitVec.getLsbD_and]
    by_cases h0 : i = 0
    · subst h0
      cases hx : x.getLsbD 0 <;> simp
    · have : (1#32 : W).getLsbD i = false := by
        rw [BitVec.getLsbD_one]; simp [h0]
      rw [this, Bool.and_false]
      cases hx : x.getLsbD 0
      · simp
      · simp only [if_true]; rw [this]
  rw [h]
  cases x.getLsbD 0
  · simp
  · simp only [if_true]; decide
theorem bit1_eq (x : W) : bit1 x = (x >>> 1) ^^^ (if x.getLsbD 0 then poly else 0#32) := by
  rw [bit1, neg_and1]
  cases x.getLsbD 0
  · simp
  · simp only [if_true]; rw [BitVec.and_allOnes]
theorem bit1_xor (x y : W) : bit1 (x ^^^ y) = bit1 x ^^^ bit1 y := by
  simp only [bit1_eq, BitVec.getLsbD_xor, BitVec.ushiftRight_xor_distrib]
  cases x.getLsbD 0 <;> cases y.getLsbD 0 <;> simp only [Bool.false_xor, Bool.xor_false, Bool.xor_true, Bool.not_true, Bool.not_false, Bool.false_eq_true, if_true, if_false, BitVec.xor_zero]
  · ac_rfl
  · ac_rfl
  · rw [show x >>> 1 ^^^ poly ^^^ (y >>> 1 ^^^ poly) = (x >>> 1 ^^^ y >>> 1) ^^^ (poly ^^^ poly) by ac_rfl, BitVec.xor_self, BitVec.xor_zero]
theorem bit1_zero : bit1 0#32 = 0#32 := by decide
theorem bit1_inj0 {x : W} (h : bit1 x = 0#32) : x = 0#32 := by
  rw [bit1_eq] at h
  cases hx : x.getLsbD 0
  · rw [hx] at h
    simp only [Bool.false_eq_true, if_false, BitVec.xor_zero] at h
    apply BitVec.eq_of_getLsbD_eq
    intro i hi
    by_cases h0 : i = 0
    · subst h0; rw [hx]; simp
    · have := congrArg (fun v : W => v.getLsbD (i - 1)) h
      simp only [BitVec.getLsbD_ushiftRight] at this
      rw [show 1 + (i - 1) = i by omega] at this
      rw [this]; simp
  · rw [hx] at h
    have := congrArg (fun v : W => v.getLsbD 31) h
    simp only [if_true, BitVec.getLsbD_xor, BitVec.getLsbD_ushiftRight] at this
    rw [BitVec.getLsbD_of_ge x 32 (by omega)] at this
    exact absurd this (by decide)
theorem bit1_inj {x y : W} (h : bit1 x = bit1 y) : x = y := by
  have : bit1 (x ^^^ y) = 0#32 := by rw [bit1_xor, h, BitVec.xor_self]
  have := bit1_inj0 this
  exact BitVec.xor_eq_zero_iff.1 this
end Go.Aw
