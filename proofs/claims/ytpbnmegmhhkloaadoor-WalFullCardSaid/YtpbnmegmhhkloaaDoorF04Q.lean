import Derived.Test.YtpbnmegmhhkloaaDoorF04P
namespace Go.Aw
open Go
set_option linter.all false
def it : Nat -> W -> W
 | 0, x => x
 | k + 1, x => it k (qa0 x)
theorem q71 (j : Nat) : ∀ (k : Nat) (x : W), it (k + j) x = it j (it k x)
 | 0, x => by rw [Nat.zero_add]; rfl
 | k + 1, x => by rw [show k + 1 + j = (k + j) + 1 by omega]; exact q71 j k (qa0 x)
theorem qby : ∀ (k : Nat) (x y : W), it k (x ^^^ y) = it k x ^^^ it k y
 | 0, _, _ => rfl
 | k + 1, x, y => by simp only [it, qk0, qby k]
theorem qhu : ∀ k : Nat, it k 0#32 = 0#32
 | 0 => rfl
 | k + 1 => by simp only [it, qhs, qhu k]
theorem qqg : ∀ {k : Nat} {x : W}, x ≠ 0#32 -> it k x ≠ 0#32
 | 0, _, h => h
 | k + 1, x, h => qqg (k := k) fun e => h (qht e)
theorem q5q (x : W) : qqf x = it 8 x := rfl
theorem qk1 {y : W} (h : y.getLsbD 31 = false) : qa0 (y <<< 1) = y := by
 rw [qcy]
 have h0 : (y <<< 1).getLsbD 0 = false := by simp [BitVec.getLsbD_shiftLeft]
 rw [h0]
 simp only [Bool.false_eq_true, if_false, BitVec.xor_zero]
 apply BitVec.eq_of_getLsbD_eq
 intro i hi
 rw [BitVec.getLsbD_ushiftRight, BitVec.getLsbD_shiftLeft]
 by_cases e : i = 31
 ·subst e; rw [h]; simp
 ·simp only [show 1 + i < 32 by omega, decide_true, Bool.true_and]
  simp
theorem qhv : ∀ (k : Nat) (y : W), (∀ i, 32 <= i + k -> y.getLsbD i = false) -> it k (y <<< k) = y
 | 0, y, _ => by simp [it]
 | k + 1, y, h => by
  simp only [it]
  rw [BitVec.shiftLeft_add, qk1]
  ·exact qhv k y fun i hi => h i (by omega)
  ·rw [BitVec.getLsbD_shiftLeft]
   by_cases hk : 31 < k
   ·simp [hk]
   ·have := h (31 - k) (by omega)
    simp [this]
def lo (c : W) : W := c &&& 255#32
theorem qk2 (c : W) : c = lo c ^^^ ((c >>> 8) <<< 8) := by
 apply BitVec.eq_of_getLsbD_eq
 intro i hi
 have h255 : (255#32 : W).getLsbD i = decide (i < 8) := by
  have : ∀ j : Fin 32, (255#32 : W).getLsbD j.val = decide (j.val < 8) := by decide
  exact this ⟨i, hi⟩
 simp only [lo, BitVec.getLsbD_xor, BitVec.getLsbD_and, BitVec.getLsbD_shiftLeft, BitVec.getLsbD_ushiftRight, h255]
 by_cases h8 : i < 8
 ·simp [h8]
 ·simp only [h8, decide_false, Bool.and_false, Bool.false_xor, hi, decide_true, Bool.not_false, Bool.true_and]
  rw [show 8 + (i - 8) = i by omega]
theorem q7q (c : W) (k : Nat) : BitVec.ofNat 32 (q1k c k).toNat = lo (c >>> (8 * k)) := by
 apply BitVec.eq_of_toNat_eq
 have e : (255#32 : W).toNat = 2 ^ 8 - 1 := by decide
 rw [lo, BitVec.toNat_and, e, Nat.and_two_pow_sub_one_eq_mod, BitVec.toNat_ushiftRight, Nat.shiftRight_eq_div_pow, Nat.pow_mul, q1k]
 simp
 omega
theorem q5r (s c : W) (b : UInt8) (h : BitVec.ofNat 32 b.toNat = lo c) : q19 s b ^^^ (c >>> 8) = it 8 (s ^^^ c) := by
 have e : it 8 ((c >>> 8) <<< 8) = c >>> 8 := qhv 8 _ fun i hi => by
  rw [BitVec.getLsbD_ushiftRight]; exact BitVec.getLsbD_of_ge _ _ (by omega)
 rw [q19, h, q5q]
 conv => rhs; rw [qk2 c, <- BitVec.xor_assoc, qby, e]
theorem qhw (s c : W) : more s (qma c) = it 32 (s ^^^ c) := by
 have h1 := q5r s c _ (q7q c 0)
 have h2 := q5r (q19 s (q1k c 0)) (c >>> 8) _ (q7q c 1)
 have h3 := q5r (q19 (q19 s (q1k c 0)) (q1k c 1)) (c >>> 8 >>> 8) (q1k c 2) (by rw [q7q, <- BitVec.shiftRight_add])
 have h4 := q5r (q19 (q19 (q19 s (q1k c 0)) (q1k c 1)) (q1k c 2)) (c >>> 8 >>> 8 >>> 8) (q1k c 3) (by rw [q7q, <- BitVec.shiftRight_add, <- BitVec.shiftRight_add])
 rw [h1] at h2
 rw [h2] at h3
 rw [h3] at h4
 have e : c >>> 8 >>> 8 >>> 8 >>> 8 = 0#32 := by
  apply BitVec.eq_of_getLsbD_eq
  intro i hi
  simp only [BitVec.getLsbD_ushiftRight]
  rw [BitVec.getLsbD_of_ge _ _ (by omega)]; simp
 rw [e, BitVec.xor_zero] at h4
 show more s (qma c) = it (8 + (8 + (8 + 8))) (s ^^^ c)
 rw [q71, q71, q71]
 exact h4
theorem qav (x : W) (l m : List UInt8) : more x (l ++ m) = more (more x l) m := by simp [more]
theorem qmb (x : W) : x ^^^ ~~~x = BitVec.allOnes 32 := by
 apply BitVec.eq_of_getLsbD_eq
 intro i hi
 simp only [BitVec.getLsbD_xor, BitVec.getLsbD_not, BitVec.getLsbD_allOnes, hi, decide_true, Bool.true_and]
 cases x.getLsbD i <;> rfl
def qt9 : W := it 32 (BitVec.allOnes 32)
theorem qbz (l : List UInt8) : more 4294967295#32 (q0k l) = qt9 := by
 rw [q0k, qav, qhw, qhr, qmb]
 rfl
theorem q7r : ∀ (l : List UInt8) (x d : W), more (x ^^^ d) l = more x l ^^^ it (8 * l.length) d
 | [], _, _ => rfl
 | a :: l, x, d => by
  show more (q19 (x ^^^ d) a) l = more (q19 x a) l ^^^ it (8 * (l.length + 1)) d
  have e : q19 (x ^^^ d) a = q19 x a ^^^ it 8 d := by
   rw [q19, q19, q5q, q5q, <- qby]
   congr 1
   ac_rfl
  rw [e, q7r l, show 8 * (l.length + 1) = 8 + 8 * l.length by omega, q71]
theorem qf3 (a b d : W) : (a ^^^ d) ^^^ (b ^^^ d) = a ^^^ b := by
 rw [show (a ^^^ d) ^^^ (b ^^^ d) = (a ^^^ b) ^^^ (d ^^^ d) by ac_rfl, BitVec.xor_self, BitVec.xor_zero]
theorem qk3 {l m : List UInt8} (x y : W) (h : l.length = m.length) : more x l ^^^ more x m = more y l ^^^ more y m := by
 have e : y = x ^^^ (x ^^^ y) := by rw [<- BitVec.xor_assoc, BitVec.xor_self, BitVec.zero_xor]
 rw [e, q7r, q7r, h, qf3]
def qhx (a : UInt8) (k : Nat) : UInt8 := UInt8.ofBitVec (a.toBitVec ^^^ (1#8 <<< k))
def qj7 (l : List UInt8) (p : Nat) : List UInt8 := match l[p / 8]? with
 | some a => l.set (p / 8) (qhx a (p % 8))
 | none => l
theorem qk4 (l : List UInt8) (p : Nat) : (qj7 l p).length = l.length := by unfold qj7; split <;> simp
theorem qa1 (a : UInt8) : BitVec.ofNat 32 a.toNat = a.toBitVec.setWidth 32 := BitVec.eq_of_toNat_eq (by simp [BitVec.toNat_setWidth])
theorem qhy (a : UInt8) (k : Nat) (hk : k < 8) : BitVec.ofNat 32 (qhx a k).toNat = BitVec.ofNat 32 a.toNat ^^^ (1#32 <<< k) := by
 have e : ∀ k : Fin 8, (1#8 <<< k.val).setWidth 32 = (1#32 <<< k.val) := by decide
 rw [qa1, qa1, <- e ⟨k, hk⟩, <- BitVec.setWidth_xor]; rfl
theorem ql9 (k : Nat) (hk : k < 32) : it k (1#32 <<< k) = 1#32 := qhv k _ fun i hi => by
 rw [BitVec.getLsbD_one]; simp; omega
theorem qhz (a : UInt8) (l : List UInt8) (p : Nat) : qj7 (a :: l) (p + 8) = a :: qj7 l p := by
 have e1 : (p + 8) / 8 = p / 8 + 1 := by omega
 have e2 : (p + 8) % 8 = p % 8 := by omega
 unfold qj7
 rw [e1, e2, List.getElem?_cons_succ]
 split <;> rfl
theorem qc0 : ∀ (l : List UInt8) (p : Nat) (x : W), p < 8 * l.length -> more x (qj7 l p) = more x l ^^^ it (8 * l.length - p) 1#32
 | [], p, x, h => by simp at h
 | a :: l, p, x, h => by
  by_cases hp : p < 8
  ·have e1 : p / 8 = 0 := by omega
   have e2 : p % 8 = p := by omega
   have e3 : qj7 (a :: l) p = qhx a p :: l := by unfold qj7; rw [e1, e2]; rfl
   rw [e3]
   show more (q19 x (qhx a p)) l = more (q19 x a) l ^^^ _
   have e4 : q19 x (qhx a p) = q19 x a ^^^ it (8 - p) 1#32 := by
    rw [q19, qhy a p hp, q19, q5q, q5q, <- BitVec.xor_assoc, qby]
    congr 1
    rw [show (8 : Nat) = p + (8 - p) by omega, q71, ql9 p (by omega)]
    congr 1; omega
   rw [e4, q7r, <- q71, List.length_cons]
   congr 2; omega
  ·obtain ⟨q, rfl⟩ : ∃ q, p = q + 8 := ⟨p - 8, by omega⟩
   rw [qhz]
   show more (q19 x a) (qj7 l q) = more (q19 x a) l ^^^ _
   rw [qc0 l q _ (by simp only [List.length_cons] at h; omega), List.length_cons]
   congr 2; omega
def q3a (l : List UInt8) (p : Nat) (m : W) : Nat -> List UInt8
 | 0 => l
 | j + 1 => if m.getLsbD j = true then qj7 (q3a l p m j) (p + j) else q3a l p m j
def low (m : W) : Nat -> W
 | 0 => 0#32
 | j + 1 => if m.getLsbD j = true then low m j ^^^ (1#32 <<< j) else low m j
theorem q21 (l : List UInt8) (p : Nat) (m : W) : ∀ j, (q3a l p m j).length = l.length
 | 0 => rfl
 | j + 1 => by
  simp only [q3a]; split
  ·rw [qk4, q21 l p m j]
  ·exact q21 l p m j
theorem qi0 (m : W) : ∀ (j i : Nat), j <= 32 -> (low m j).getLsbD i = (decide (i < j) && m.getLsbD i)
 | 0, i, _ => by simp [low]
 | j + 1, i, h => by
  have ih := qi0 m j i (by omega)
  simp only [low]
  split
  ·rename_i hm
   rw [BitVec.getLsbD_xor, ih, BitVec.getLsbD_shiftLeft, BitVec.getLsbD_one]
   by_cases e : i = j
   ·subst e; simp [hm]; omega
   ·by_cases h2 : i < j
    ·simp [h2, show i < j + 1 by omega]
    ·simp [h2, show ¬ i < j + 1 by omega]; intro _ _; omega
  ·rename_i hm
   rw [ih]
   by_cases e : i = j
   ·subst e; simp at hm; simp [hm]
   ·by_cases h2 : i < j
    ·simp [h2, show i < j + 1 by omega]
    ·simp [h2, show ¬ i < j + 1 by omega]
theorem qmc (m : W) : low m 32 = m := by
 apply BitVec.eq_of_getLsbD_eq
 intro i hi
 rw [qi0 m 32 i (by omega)]; simp [hi]
theorem qc1 (l : List UInt8) (p : Nat) (m : W) (x : W) (h : p + 31 < 8 * l.length) : ∀ j, j <= 32 -> more x (q3a l p m j) = more x l ^^^ it (8 * l.length - p) (low m j)
 | 0, _ => by simp [q3a, low, qhu]
 | j + 1, hj => by
  have ih := qc1 l p m x h j (by omega)
  simp only [q3a, low]
  split
  ·rw [qc0 _ _ _ (by rw [q21]; omega), q21, ih, qby, BitVec.xor_assoc]
   congr 2
   rw [show 8 * l.length - p = j + (8 * l.length - (p + j)) by omega, q71, ql9 j (by omega)]
  ·exact ih
theorem qta {a b : List UInt8} {m : W} {p : Nat} (hm : m ≠ 0#32) (h : p + 31 < 8 * (a.length + b.length)) {c : List UInt8} (ht : q3a (a ++ q0k c) p m 32 = a ++ b) (hl : b.length = (q0k c).length) : ∀ d, b ≠ q0k d := by
 intro d e
 have hx := qc1 (a ++ q0k c) p m 4294967295#32 (by rw [List.length_append, <- hl]; exact h) 32 (by omega)
 rw [ht, qmc, qav, qav] at hx
 have hlin := qk3 (l := b) (m := q0k c) (more 4294967295#32 a) 4294967295#32 hl
 rw [e, qbz, qbz, BitVec.xor_self] at hlin
 rw [e, BitVec.xor_eq_zero_iff.1 hlin] at hx
 have : it (8 * (a ++ q0k c).length - p) m = 0#32 := by
  have h2 := congrArg (fun v : W => more (more 4294967295#32 a) (q0k c) ^^^ v) hx
  simp only [BitVec.xor_self] at h2
  rw [<- BitVec.xor_assoc, BitVec.xor_self, BitVec.zero_xor] at h2
  exact h2.symm
 exact qqg hm this
end Go.Aw
