import GoSem.Claim
namespace Go.Aw
open Go
set_option linter.all false
abbrev W := BitVec 32
def ql4 : W := 3988292384#32
def qb1 (x : W) : W := (x >>> 1) ^^^ (ql4 &&& -(x &&& 1#32))
def qsb (x : W) : W := qb1 (qb1 (qb1 (qb1 (qb1 (qb1 (qb1 (qb1 x)))))))
def q1n (x : W) (b : UInt8) : W := qsb (x ^^^ BitVec.ofNat 32 b.toNat)
def more (x : W) (l : List UInt8) : W := l.foldl q1n x
def qj8 (l : List UInt8) : W := ~~~ more 4294967295#32 l
def q1x (x : W) (k : Nat) : UInt8 := UInt8.ofNat ((x.toNat / 256 ^ k) % 256)
def qo5 (x : W) : List UInt8 := [q1x x 0, q1x x 1, q1x x 2, q1x x 3]
def q0x (l : List UInt8) : List UInt8 := l ++ qo5 (qj8 l)
theorem qlv (x : W) : -(x &&& 1#32) = if x.getLsbD 0 then BitVec.allOnes 32 else 0#32 := by
 have h : x &&& 1#32 = if x.getLsbD 0 then 1#32 else 0#32 := by
  apply BitVec.eq_of_getLsbD_eq
  intro i hi
  rw [BitVec.getLsbD_and]
  by_cases h0 : i = 0
  ·subst h0
   cases hx : x.getLsbD 0 <;> simp
  ·have : (1#32 : W).getLsbD i = false := by
    rw [BitVec.getLsbD_one]; simp [h0]
   rw [this, Bool.and_false]
   cases hx : x.getLsbD 0
   ·simp
   ·simp only [if_true]; rw [this]
 rw [h]
 cases x.getLsbD 0
 ·simp
 ·simp only [if_true]; decide
theorem qeb (x : W) : qb1 x = (x >>> 1) ^^^ (if x.getLsbD 0 then ql4 else 0#32) := by
 rw [qb1, qlv]
 cases x.getLsbD 0
 ·simp
 ·simp only [if_true]; rw [BitVec.and_allOnes]
theorem qlw (x y : W) : qb1 (x ^^^ y) = qb1 x ^^^ qb1 y := by
 simp only [qeb, BitVec.getLsbD_xor, BitVec.ushiftRight_xor_distrib]
 cases x.getLsbD 0 <;> cases y.getLsbD 0 <;> simp only [Bool.false_xor, Bool.xor_false, Bool.xor_true, Bool.not_true, Bool.not_false, Bool.false_eq_true, if_true, if_false, BitVec.xor_zero]
 ·ac_rfl
 ·ac_rfl
 ·rw [show x >>> 1 ^^^ ql4 ^^^ (y >>> 1 ^^^ ql4) = (x >>> 1 ^^^ y >>> 1) ^^^ (ql4 ^^^ ql4) by ac_rfl, BitVec.xor_self, BitVec.xor_zero]
theorem qj9 : qb1 0#32 = 0#32 := by decide
theorem qja {x : W} (h : qb1 x = 0#32) : x = 0#32 := by
 rw [qeb] at h
 cases hx : x.getLsbD 0
 ·rw [hx] at h
  simp only [Bool.false_eq_true, if_false, BitVec.xor_zero] at h
  apply BitVec.eq_of_getLsbD_eq
  intro i hi
  by_cases h0 : i = 0
  ·subst h0; rw [hx]; simp
  ·have := congrArg (fun v : W => v.getLsbD (i - 1)) h
   simp only [BitVec.getLsbD_ushiftRight] at this
   rw [show 1 + (i - 1) = i by omega] at this
   rw [this]; simp
 ·rw [hx] at h
  have := congrArg (fun v : W => v.getLsbD 31) h
  simp only [if_true, BitVec.getLsbD_xor, BitVec.getLsbD_ushiftRight] at this
  rw [BitVec.getLsbD_of_ge x 32 (by omega)] at this
  exact absurd this (by decide)
end Go.Aw
