import GoSem.Claim
namespace Go.Aw
open Go
set_option linter.all false
abbrev W := BitVec 32
def qj6 : W := 3988292384#32
def qa0 (x : W) : W := (x >>> 1) ^^^ (qj6 &&& -(x &&& 1#32))
def qqf (x : W) : W := qa0 (qa0 (qa0 (qa0 (qa0 (qa0 (qa0 (qa0 x)))))))
def q19 (x : W) (b : UInt8) : W := qqf (x ^^^ BitVec.ofNat 32 b.toNat)
def more (x : W) (l : List UInt8) : W := l.foldl q19 x
def qhr (l : List UInt8) : W := ~~~ more 4294967295#32 l
def q1k (x : W) (k : Nat) : UInt8 := UInt8.ofNat ((x.toNat / 256 ^ k) % 256)
def qma (x : W) : List UInt8 := [q1k x 0, q1k x 1, q1k x 2, q1k x 3]
def q0k (l : List UInt8) : List UInt8 := l ++ qma (qhr l)
theorem qjz (x : W) : -(x &&& 1#32) = if x.getLsbD 0 then BitVec.allOnes 32 else 0#32 := by
 have h : x &&& 1#32 = if x.getLsbD 0 then 1#32 else 0#32 := by
  apply BitVec.eq_of_getLsbD_eq
  intro i hi
  rw [BitVec.getLsbD_and]
  by_cases h0 : i = 0
  ·subst h0
   cases hx : x.getLsbD 0 <;> simp
  ·have : (1#32 : W).getLsbD i = false := by
    rw [BitVec.getLsbD_one]; simp [h0]
   rw [this, Bool.and_false]
   cases hx : x.getLsbD 0
   ·simp
   ·simp only [if_true]; rw [this]
 rw [h]
 cases x.getLsbD 0
 ·simp
 ·simp only [if_true]; decide
theorem qcy (x : W) : qa0 x = (x >>> 1) ^^^ (if x.getLsbD 0 then qj6 else 0#32) := by
 rw [qa0, qjz]
 cases x.getLsbD 0
 ·simp
 ·simp only [if_true]; rw [BitVec.and_allOnes]
theorem qk0 (x y : W) : qa0 (x ^^^ y) = qa0 x ^^^ qa0 y := by
 simp only [qcy, BitVec.getLsbD_xor, BitVec.ushiftRight_xor_distrib]
 cases x.getLsbD 0 <;> cases y.getLsbD 0 <;> simp only [Bool.false_xor, Bool.xor_false, Bool.xor_true, Bool.not_true, Bool.not_false, Bool.false_eq_true, if_true, if_false, BitVec.xor_zero]
 ·ac_rfl
 ·ac_rfl
 ·rw [show x >>> 1 ^^^ qj6 ^^^ (y >>> 1 ^^^ qj6) = (x >>> 1 ^^^ y >>> 1) ^^^ (qj6 ^^^ qj6) by ac_rfl, BitVec.xor_self, BitVec.xor_zero]
theorem qhs : qa0 0#32 = 0#32 := by decide
theorem qht {x : W} (h : qa0 x = 0#32) : x = 0#32 := by
 rw [qcy] at h
 cases hx : x.getLsbD 0
 ·rw [hx] at h
  simp only [Bool.false_eq_true, if_false, BitVec.xor_zero] at h
  apply BitVec.eq_of_getLsbD_eq
  intro i hi
  by_cases h0 : i = 0
  ·subst h0; rw [hx]; simp
  ·have := congrArg (fun v : W => v.getLsbD (i - 1)) h
   simp only [BitVec.getLsbD_ushiftRight] at this
   rw [show 1 + (i - 1) = i by omega] at this
   rw [this]; simp
 ·rw [hx] at h
  have := congrArg (fun v : W => v.getLsbD 31) h
  simp only [if_true, BitVec.getLsbD_xor, BitVec.getLsbD_ushiftRight] at this
  rw [BitVec.getLsbD_of_ge x 32 (by omega)] at this
  exact absurd this (by decide)
end Go.Aw
