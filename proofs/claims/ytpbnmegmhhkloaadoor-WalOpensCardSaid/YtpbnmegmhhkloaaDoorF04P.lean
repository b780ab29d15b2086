import GoSem.Claim
namespace Go.Aw
open Go
set_option linter.all false
abbrev W := BitVec 32
def qix : W := 3988292384#32
def q9v (x : W) : W := (x >>> 1) ^^^ (qix &&& -(x &&& 1#32))
def qq0 (x : W) : W := q9v (q9v (q9v (q9v (q9v (q9v (q9v (q9v x)))))))
def q18 (x : W) (b : UInt8) : W := qq0 (x ^^^ BitVec.ofNat 32 b.toNat)
def more (x : W) (l : List UInt8) : W := l.foldl q18 x
def qhi (l : List UInt8) : W := ~~~ more 4294967295#32 l
def q1i (x : W) (k : Nat) : UInt8 := UInt8.ofNat ((x.toNat / 256 ^ k) % 256)
def qm3 (x : W) : List UInt8 := [q1i x 0, q1i x 1, q1i x 2, q1i x 3]
def q0i (l : List UInt8) : List UInt8 := l ++ qm3 (qhi l)
theorem qjq (x : W) : -(x &&& 1#32) = if x.getLsbD 0 then BitVec.allOnes 32 else 0#32 := by
 have h : x &&& 1#32 = if x.getLsbD 0 then 1#32 else 0#32 := by
  apply BitVec.eq_of_getLsbD_eq
  intro i hi
  rw [BitVec.getLsbD_and]
  by_cases h0 : i = 0
  ·subst h0
   cases hx : x.getLsbD 0 <;> simp
  ·have : (1#32 : W).getLsbD i = false := by
    rw [BitVec.getLsbD_one]; simp [h0]
   rw [this, Bool.and_false]
   cases hx : x.getLsbD 0
   ·simp
   ·simp only [if_true]; rw [this]
 rw [h]
 cases x.getLsbD 0
 ·simp
 ·simp only [if_true]; decide
theorem qcx (x : W) : q9v x = (x >>> 1) ^^^ (if x.getLsbD 0 then qix else 0#32) := by
 rw [q9v, qjq]
 cases x.getLsbD 0
 ·simp
 ·simp only [if_true]; rw [BitVec.and_allOnes]
theorem qjr (x y : W) : q9v (x ^^^ y) = q9v x ^^^ q9v y := by
 simp only [qcx, BitVec.getLsbD_xor, BitVec.ushiftRight_xor_distrib]
 cases x.getLsbD 0 <;> cases y.getLsbD 0 <;> simp only [Bool.false_xor, Bool.xor_false, Bool.xor_true, Bool.not_true, Bool.not_false, Bool.false_eq_true, if_true, if_false, BitVec.xor_zero]
 ·ac_rfl
 ·ac_rfl
 ·rw [show x >>> 1 ^^^ qix ^^^ (y >>> 1 ^^^ qix) = (x >>> 1 ^^^ y >>> 1) ^^^ (qix ^^^ qix) by ac_rfl, BitVec.xor_self, BitVec.xor_zero]
theorem qhj : q9v 0#32 = 0#32 := by decide
theorem qhk {x : W} (h : q9v x = 0#32) : x = 0#32 := by
 rw [qcx] at h
 cases hx : x.getLsbD 0
 ·rw [hx] at h
  simp only [Bool.false_eq_true, if_false, BitVec.xor_zero] at h
  apply BitVec.eq_of_getLsbD_eq
  intro i hi
  by_cases h0 : i = 0
  ·subst h0; rw [hx]; simp
  ·have := congrArg (fun v : W => v.getLsbD (i - 1)) h
   simp only [BitVec.getLsbD_ushiftRight] at this
   rw [show 1 + (i - 1) = i by omega] at this
   rw [this]; simp
 ·rw [hx] at h
  have := congrArg (fun v : W => v.getLsbD 31) h
  simp only [if_true, BitVec.getLsbD_xor, BitVec.getLsbD_ushiftRight] at this
  rw [BitVec.getLsbD_of_ge x 32 (by omega)] at this
  exact absurd this (by decide)
end Go.Aw
