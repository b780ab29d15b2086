import Derived.Test.YtpbnmegmhhkloaaDoorF04P
namespace Go.Aw
open Go
set_option linter.all false
def it : Nat -> W -> W
 | 0, x => x
 | k + 1, x => it k (qb1 x)
theorem q80 (j : Nat) : ∀ (k : Nat) (x : W), it (k + j) x = it j (it k x)
 | 0, x => by rw [Nat.zero_add]; rfl
 | k + 1, x => by rw [show k + 1 + j = (k + j) + 1 by omega]; exact q80 j k (qb1 x)
theorem qd7 : ∀ (k : Nat) (x y : W), it k (x ^^^ y) = it k x ^^^ it k y
 | 0, _, _ => rfl
 | k + 1, x, y => by simp only [it, qlw, qd7 k]
theorem qjb : ∀ k : Nat, it k 0#32 = 0#32
 | 0 => rfl
 | k + 1 => by simp only [it, qj9, qjb k]
theorem qsc : ∀ {k : Nat} {x : W}, x ≠ 0#32 -> it k x ≠ 0#32
 | 0, _, h => h
 | k + 1, x, h => qsc (k := k) fun e => h (qja e)
theorem q6j (x : W) : qsb x = it 8 x := rfl
theorem qlx {y : W} (h : y.getLsbD 31 = false) : qb1 (y <<< 1) = y := by
 rw [qeb]
 have h0 : (y <<< 1).getLsbD 0 = false := by simp [BitVec.getLsbD_shiftLeft]
 rw [h0]
 simp only [Bool.false_eq_true, if_false, BitVec.xor_zero]
 apply BitVec.eq_of_getLsbD_eq
 intro i hi
 rw [BitVec.getLsbD_ushiftRight, BitVec.getLsbD_shiftLeft]
 by_cases e : i = 31
 ·subst e; rw [h]; simp
 ·simp only [show 1 + i < 32 by omega, decide_true, Bool.true_and]
  simp
theorem qjc : ∀ (k : Nat) (y : W), (∀ i, 32 <= i + k -> y.getLsbD i = false) -> it k (y <<< k) = y
 | 0, y, _ => by simp [it]
 | k + 1, y, h => by
  simp only [it]
  rw [BitVec.shiftLeft_add, qlx]
  ·exact qjc k y fun i hi => h i (by omega)
  ·rw [BitVec.getLsbD_shiftLeft]
   by_cases hk : 31 < k
   ·simp [hk]
   ·have := h (31 - k) (by omega)
    simp [this]
def lo (c : W) : W := c &&& 255#32
theorem qly (c : W) : c = lo c ^^^ ((c >>> 8) <<< 8) := by
 apply BitVec.eq_of_getLsbD_eq
 intro i hi
 have h255 : (255#32 : W).getLsbD i = decide (i < 8) := by
  have : ∀ j : Fin 32, (255#32 : W).getLsbD j.val = decide (j.val < 8) := by decide
  exact this ⟨i, hi⟩
 simp only [lo, BitVec.getLsbD_xor, BitVec.getLsbD_and, BitVec.getLsbD_shiftLeft, BitVec.getLsbD_ushiftRight, h255]
 by_cases h8 : i < 8
 ·simp [h8]
 ·simp only [h8, decide_false, Bool.and_false, Bool.false_xor, hi, decide_true, Bool.not_false, Bool.true_and]
  rw [show 8 + (i - 8) = i by omega]
theorem q8o (c : W) (k : Nat) : BitVec.ofNat 32 (q1x c k).toNat = lo (c >>> (8 * k)) := by
 apply BitVec.eq_of_toNat_eq
 have e : (255#32 : W).toNat = 2 ^ 8 - 1 := by decide
 rw [lo, BitVec.toNat_and, e, Nat.and_two_pow_sub_one_eq_mod, BitVec.toNat_ushiftRight, Nat.shiftRight_eq_div_pow, Nat.pow_mul, q1x]
 simp
 omega
theorem q6k (s c : W) (b : UInt8) (h : BitVec.ofNat 32 b.toNat = lo c) : q1n s b ^^^ (c >>> 8) = it 8 (s ^^^ c) := by
 have e : it 8 ((c >>> 8) <<< 8) = c >>> 8 := qjc 8 _ fun i hi => by
  rw [BitVec.getLsbD_ushiftRight]; exact BitVec.getLsbD_of_ge _ _ (by omega)
 rw [q1n, h, q6j]
 conv => rhs; rw [qly c, <- BitVec.xor_assoc, qd7, e]
theorem qjd (s c : W) : more s (qo5 c) = it 32 (s ^^^ c) := by
 have h1 := q6k s c _ (q8o c 0)
 have h2 := q6k (q1n s (q1x c 0)) (c >>> 8) _ (q8o c 1)
 have h3 := q6k (q1n (q1n s (q1x c 0)) (q1x c 1)) (c >>> 8 >>> 8) (q1x c 2) (by rw [q8o, <- BitVec.shiftRight_add])
 have h4 := q6k (q1n (q1n (q1n s (q1x c 0)) (q1x c 1)) (q1x c 2)) (c >>> 8 >>> 8 >>> 8) (q1x c 3) (by rw [q8o, <- BitVec.shiftRight_add, <- BitVec.shiftRight_add])
 rw [h1] at h2
 rw [h2] at h3
 rw [h3] at h4
 have e : c >>> 8 >>> 8 >>> 8 >>> 8 = 0#32 := by
  apply BitVec.eq_of_getLsbD_eq
  intro i hi
  simp only [BitVec.getLsbD_ushiftRight]
  rw [BitVec.getLsbD_of_ge _ _ (by omega)]; simp
 rw [e, BitVec.xor_zero] at h4
 show more s (qo5 c) = it (8 + (8 + (8 + 8))) (s ^^^ c)
 rw [q80, q80, q80]
 exact h4
theorem qc1 (x : W) (l m : List UInt8) : more x (l ++ m) = more (more x l) m := by simp [more]
theorem qo6 (x : W) : x ^^^ ~~~x = BitVec.allOnes 32 := by
 apply BitVec.eq_of_getLsbD_eq
 intro i hi
 simp only [BitVec.getLsbD_xor, BitVec.getLsbD_not, BitVec.getLsbD_allOnes, hi, decide_true, Bool.true_and]
 cases x.getLsbD i <;> rfl
def qv5 : W := it 32 (BitVec.allOnes 32)
theorem qd8 (l : List UInt8) : more 4294967295#32 (q0x l) = qv5 := by
 rw [q0x, qc1, qjd, qj8, qo6]
 rfl
theorem q8p : ∀ (l : List UInt8) (x d : W), more (x ^^^ d) l = more x l ^^^ it (8 * l.length) d
 | [], _, _ => rfl
 | a :: l, x, d => by
  show more (q1n (x ^^^ d) a) l = more (q1n x a) l ^^^ it (8 * (l.length + 1)) d
  have e : q1n (x ^^^ d) a = q1n x a ^^^ it 8 d := by
   rw [q1n, q1n, q6j, q6j, <- qd7]
   congr 1
   ac_rfl
  rw [e, q8p l, show 8 * (l.length + 1) = 8 + 8 * l.length by omega, q80]
theorem qgn (a b d : W) : (a ^^^ d) ^^^ (b ^^^ d) = a ^^^ b := by
 rw [show (a ^^^ d) ^^^ (b ^^^ d) = (a ^^^ b) ^^^ (d ^^^ d) by ac_rfl, BitVec.xor_self, BitVec.xor_zero]
theorem qlz {l m : List UInt8} (x y : W) (h : l.length = m.length) : more x l ^^^ more x m = more y l ^^^ more y m := by
 have e : y = x ^^^ (x ^^^ y) := by rw [<- BitVec.xor_assoc, BitVec.xor_self, BitVec.zero_xor]
 rw [e, q8p, q8p, h, qgn]
def qje (a : UInt8) (k : Nat) : UInt8 := UInt8.ofBitVec (a.toBitVec ^^^ (1#8 <<< k))
def ql5 (l : List UInt8) (p : Nat) : List UInt8 := match l[p / 8]? with
 | some a => l.set (p / 8) (qje a (p % 8))
 | none => l
theorem qm0 (l : List UInt8) (p : Nat) : (ql5 l p).length = l.length := by unfold ql5; split <;> simp
theorem qb2 (a : UInt8) : BitVec.ofNat 32 a.toNat = a.toBitVec.setWidth 32 := BitVec.eq_of_toNat_eq (by simp [BitVec.toNat_setWidth])
theorem qjf (a : UInt8) (k : Nat) (hk : k < 8) : BitVec.ofNat 32 (qje a k).toNat = BitVec.ofNat 32 a.toNat ^^^ (1#32 <<< k) := by
 have e : ∀ k : Fin 8, (1#8 <<< k.val).setWidth 32 = (1#32 <<< k.val) := by decide
 rw [qb2, qb2, <- e ⟨k, hk⟩, <- BitVec.setWidth_xor]; rfl
theorem qn5 (k : Nat) (hk : k < 32) : it k (1#32 <<< k) = 1#32 := qjc k _ fun i hi => by
 rw [BitVec.getLsbD_one]; simp; omega
theorem qjg (a : UInt8) (l : List UInt8) (p : Nat) : ql5 (a :: l) (p + 8) = a :: ql5 l p := by
 have e1 : (p + 8) / 8 = p / 8 + 1 := by omega
 have e2 : (p + 8) % 8 = p % 8 := by omega
 unfold ql5
 rw [e1, e2, List.getElem?_cons_succ]
 split <;> rfl
theorem qd9 : ∀ (l : List UInt8) (p : Nat) (x : W), p < 8 * l.length -> more x (ql5 l p) = more x l ^^^ it (8 * l.length - p) 1#32
 | [], p, x, h => by simp at h
 | a :: l, p, x, h => by
  by_cases hp : p < 8
  ·have e1 : p / 8 = 0 := by omega
   have e2 : p % 8 = p := by omega
   have e3 : ql5 (a :: l) p = qje a p :: l := by unfold ql5; rw [e1, e2]; rfl
   rw [e3]
   show more (q1n x (qje a p)) l = more (q1n x a) l ^^^ _
   have e4 : q1n x (qje a p) = q1n x a ^^^ it (8 - p) 1#32 := by
    rw [q1n, qjf a p hp, q1n, q6j, q6j, <- BitVec.xor_assoc, qd7]
    congr 1
    rw [show (8 : Nat) = p + (8 - p) by omega, q80, qn5 p (by omega)]
    congr 1; omega
   rw [e4, q8p, <- q80, List.length_cons]
   congr 2; omega
  ·obtain ⟨q, rfl⟩ : ∃ q, p = q + 8 := ⟨p - 8, by omega⟩
   rw [qjg]
   show more (q1n x a) (ql5 l q) = more (q1n x a) l ^^^ _
   rw [qd9 l q _ (by simp only [List.length_cons] at h; omega), List.length_cons]
   congr 2; omega
def q41 (l : List UInt8) (p : Nat) (m : W) : Nat -> List UInt8
 | 0 => l
 | j + 1 => if m.getLsbD j = true then ql5 (q41 l p m j) (p + j) else q41 l p m j
def low (m : W) : Nat -> W
 | 0 => 0#32
 | j + 1 => if m.getLsbD j = true then low m j ^^^ (1#32 <<< j) else low m j
theorem q2i (l : List UInt8) (p : Nat) (m : W) : ∀ j, (q41 l p m j).length = l.length
 | 0 => rfl
 | j + 1 => by
  simp only [q41]; split
  ·rw [qm0, q2i l p m j]
  ·exact q2i l p m j
theorem qjh (m : W) : ∀ (j i : Nat), j <= 32 -> (low m j).getLsbD i = (decide (i < j) && m.getLsbD i)
 | 0, i, _ => by simp [low]
 | j + 1, i, h => by
  have ih := qjh m j i (by omega)
  simp only [low]
  split
  ·rename_i hm
   rw [BitVec.getLsbD_xor, ih, BitVec.getLsbD_shiftLeft, BitVec.getLsbD_one]
   by_cases e : i = j
   ·subst e; simp [hm]; omega
   ·by_cases h2 : i < j
    ·simp [h2, show i < j + 1 by omega]
    ·simp [h2, show ¬ i < j + 1 by omega]; intro _ _; omega
  ·rename_i hm
   rw [ih]
   by_cases e : i = j
   ·subst e; simp at hm; simp [hm]
   ·by_cases h2 : i < j
    ·simp [h2, show i < j + 1 by omega]
    ·simp [h2, show ¬ i < j + 1 by omega]
theorem qo7 (m : W) : low m 32 = m := by
 apply BitVec.eq_of_getLsbD_eq
 intro i hi
 rw [qjh m 32 i (by omega)]; simp [hi]
theorem qda (l : List UInt8) (p : Nat) (m : W) (x : W) (h : p + 31 < 8 * l.length) : ∀ j, j <= 32 -> more x (q41 l p m j) = more x l ^^^ it (8 * l.length - p) (low m j)
 | 0, _ => by simp [q41, low, qjb]
 | j + 1, hj => by
  have ih := qda l p m x h j (by omega)
  simp only [q41, low]
  split
  ·rw [qd9 _ _ _ (by rw [q2i]; omega), q2i, ih, qd7, BitVec.xor_assoc]
   congr 2
   rw [show 8 * l.length - p = j + (8 * l.length - (p + j)) by omega, q80, qn5 j (by omega)]
  ·exact ih
theorem qv6 {a b : List UInt8} {m : W} {p : Nat} (hm : m ≠ 0#32) (h : p + 31 < 8 * (a.length + b.length)) {c : List UInt8} (ht : q41 (a ++ q0x c) p m 32 = a ++ b) (hl : b.length = (q0x c).length) : ∀ d, b ≠ q0x d := by
 intro d e
 have hx := qda (a ++ q0x c) p m 4294967295#32 (by rw [List.length_append, <- hl]; exact h) 32 (by omega)
 rw [ht, qo7, qc1, qc1] at hx
 have hlin := qlz (l := b) (m := q0x c) (more 4294967295#32 a) 4294967295#32 hl
 rw [e, qd8, qd8, BitVec.xor_self] at hlin
 rw [e, BitVec.xor_eq_zero_iff.1 hlin] at hx
 have : it (8 * (a ++ q0x c).length - p) m = 0#32 := by
  have h2 := congrArg (fun v : W => more (more 4294967295#32 a) (q0x c) ^^^ v) hx
  simp only [BitVec.xor_self] at h2
  rw [<- BitVec.xor_assoc, BitVec.xor_self, BitVec.zero_xor] at h2
  exact h2.symm
 exact qsc hm this
end Go.Aw
