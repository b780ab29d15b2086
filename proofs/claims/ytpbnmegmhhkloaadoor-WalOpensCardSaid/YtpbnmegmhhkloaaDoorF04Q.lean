import Derived.Test.YtpbnmegmhhkloaaDoorF04P
namespace Go.Aw
open Go
set_option linter.all false
def it : Nat -> W -> W
 | 0, x => x
 | k + 1, x => it k (q9v x)
theorem q6v (j : Nat) : ∀ (k : Nat) (x : W), it (k + j) x = it j (it k x)
 | 0, x => by rw [Nat.zero_add]; rfl
 | k + 1, x => by rw [show k + 1 + j = (k + j) + 1 by omega]; exact q6v j k (q9v x)
theorem qbw : ∀ (k : Nat) (x y : W), it k (x ^^^ y) = it k x ^^^ it k y
 | 0, _, _ => rfl
 | k + 1, x, y => by simp only [it, qjr, qbw k]
theorem qhl : ∀ k : Nat, it k 0#32 = 0#32
 | 0 => rfl
 | k + 1 => by simp only [it, qhj, qhl k]
theorem qq1 : ∀ {k : Nat} {x : W}, x ≠ 0#32 -> it k x ≠ 0#32
 | 0, _, h => h
 | k + 1, x, h => qq1 (k := k) fun e => h (qhk e)
theorem q5j (x : W) : qq0 x = it 8 x := rfl
theorem qjs {y : W} (h : y.getLsbD 31 = false) : q9v (y <<< 1) = y := by
 rw [qcx]
 have h0 : (y <<< 1).getLsbD 0 = false := by simp [BitVec.getLsbD_shiftLeft]
 rw [h0]
 simp only [Bool.false_eq_true, if_false, BitVec.xor_zero]
 apply BitVec.eq_of_getLsbD_eq
 intro i hi
 rw [BitVec.getLsbD_ushiftRight, BitVec.getLsbD_shiftLeft]
 by_cases e : i = 31
 ·subst e; rw [h]; simp
 ·simp only [show 1 + i < 32 by omega, decide_true, Bool.true_and]
  simp
theorem qhm : ∀ (k : Nat) (y : W), (∀ i, 32 <= i + k -> y.getLsbD i = false) -> it k (y <<< k) = y
 | 0, y, _ => by simp [it]
 | k + 1, y, h => by
  simp only [it]
  rw [BitVec.shiftLeft_add, qjs]
  ·exact qhm k y fun i hi => h i (by omega)
  ·rw [BitVec.getLsbD_shiftLeft]
   by_cases hk : 31 < k
   ·simp [hk]
   ·have := h (31 - k) (by omega)
    simp [this]
def lo (c : W) : W := c &&& 255#32
theorem qjt (c : W) : c = lo c ^^^ ((c >>> 8) <<< 8) := by
 apply BitVec.eq_of_getLsbD_eq
 intro i hi
 have h255 : (255#32 : W).getLsbD i = decide (i < 8) := by
  have : ∀ j : Fin 32, (255#32 : W).getLsbD j.val = decide (j.val < 8) := by decide
  exact this ⟨i, hi⟩
 simp only [lo, BitVec.getLsbD_xor, BitVec.getLsbD_and, BitVec.getLsbD_shiftLeft, BitVec.getLsbD_ushiftRight, h255]
 by_cases h8 : i < 8
 ·simp [h8]
 ·simp only [h8, decide_false, Bool.and_false, Bool.false_xor, hi, decide_true, Bool.not_false, Bool.true_and]
  rw [show 8 + (i - 8) = i by omega]
theorem q7i (c : W) (k : Nat) : BitVec.ofNat 32 (q1i c k).toNat = lo (c >>> (8 * k)) := by
 apply BitVec.eq_of_toNat_eq
 have e : (255#32 : W).toNat = 2 ^ 8 - 1 := by decide
 rw [lo, BitVec.toNat_and, e, Nat.and_two_pow_sub_one_eq_mod, BitVec.toNat_ushiftRight, Nat.shiftRight_eq_div_pow, Nat.pow_mul, q1i]
 simp
 omega
theorem q5k (s c : W) (b : UInt8) (h : BitVec.ofNat 32 b.toNat = lo c) : q18 s b ^^^ (c >>> 8) = it 8 (s ^^^ c) := by
 have e : it 8 ((c >>> 8) <<< 8) = c >>> 8 := qhm 8 _ fun i hi => by
  rw [BitVec.getLsbD_ushiftRight]; exact BitVec.getLsbD_of_ge _ _ (by omega)
 rw [q18, h, q5j]
 conv => rhs; rw [qjt c, <- BitVec.xor_assoc, qbw, e]
theorem qhn (s c : W) : more s (qm3 c) = it 32 (s ^^^ c) := by
 have h1 := q5k s c _ (q7i c 0)
 have h2 := q5k (q18 s (q1i c 0)) (c >>> 8) _ (q7i c 1)
 have h3 := q5k (q18 (q18 s (q1i c 0)) (q1i c 1)) (c >>> 8 >>> 8) (q1i c 2) (by rw [q7i, <- BitVec.shiftRight_add])
 have h4 := q5k (q18 (q18 (q18 s (q1i c 0)) (q1i c 1)) (q1i c 2)) (c >>> 8 >>> 8 >>> 8) (q1i c 3) (by rw [q7i, <- BitVec.shiftRight_add, <- BitVec.shiftRight_add])
 rw [h1] at h2
 rw [h2] at h3
 rw [h3] at h4
 have e : c >>> 8 >>> 8 >>> 8 >>> 8 = 0#32 := by
  apply BitVec.eq_of_getLsbD_eq
  intro i hi
  simp only [BitVec.getLsbD_ushiftRight]
  rw [BitVec.getLsbD_of_ge _ _ (by omega)]; simp
 rw [e, BitVec.xor_zero] at h4
 show more s (qm3 c) = it (8 + (8 + (8 + 8))) (s ^^^ c)
 rw [q6v, q6v, q6v]
 exact h4
theorem qas (x : W) (l m : List UInt8) : more x (l ++ m) = more (more x l) m := by simp [more]
theorem qm4 (x : W) : x ^^^ ~~~x = BitVec.allOnes 32 := by
 apply BitVec.eq_of_getLsbD_eq
 intro i hi
 simp only [BitVec.getLsbD_xor, BitVec.getLsbD_not, BitVec.getLsbD_allOnes, hi, decide_true, Bool.true_and]
 cases x.getLsbD i <;> rfl
def qsr : W := it 32 (BitVec.allOnes 32)
theorem qbx (l : List UInt8) : more 4294967295#32 (q0i l) = qsr := by
 rw [q0i, qas, qhn, qhi, qm4]
 rfl
theorem q7j : ∀ (l : List UInt8) (x d : W), more (x ^^^ d) l = more x l ^^^ it (8 * l.length) d
 | [], _, _ => rfl
 | a :: l, x, d => by
  show more (q18 (x ^^^ d) a) l = more (q18 x a) l ^^^ it (8 * (l.length + 1)) d
  have e : q18 (x ^^^ d) a = q18 x a ^^^ it 8 d := by
   rw [q18, q18, q5j, q5j, <- qbw]
   congr 1
   ac_rfl
  rw [e, q7j l, show 8 * (l.length + 1) = 8 + 8 * l.length by omega, q6v]
theorem qf2 (a b d : W) : (a ^^^ d) ^^^ (b ^^^ d) = a ^^^ b := by
 rw [show (a ^^^ d) ^^^ (b ^^^ d) = (a ^^^ b) ^^^ (d ^^^ d) by ac_rfl, BitVec.xor_self, BitVec.xor_zero]
theorem qju {l m : List UInt8} (x y : W) (h : l.length = m.length) : more x l ^^^ more x m = more y l ^^^ more y m := by
 have e : y = x ^^^ (x ^^^ y) := by rw [<- BitVec.xor_assoc, BitVec.xor_self, BitVec.zero_xor]
 rw [e, q7j, q7j, h, qf2]
def qho (a : UInt8) (k : Nat) : UInt8 := UInt8.ofBitVec (a.toBitVec ^^^ (1#8 <<< k))
def qiy (l : List UInt8) (p : Nat) : List UInt8 := match l[p / 8]? with
 | some a => l.set (p / 8) (qho a (p % 8))
 | none => l
theorem qjv (l : List UInt8) (p : Nat) : (qiy l p).length = l.length := by unfold qiy; split <;> simp
theorem q9w (a : UInt8) : BitVec.ofNat 32 a.toNat = a.toBitVec.setWidth 32 := BitVec.eq_of_toNat_eq (by simp [BitVec.toNat_setWidth])
theorem qhp (a : UInt8) (k : Nat) (hk : k < 8) : BitVec.ofNat 32 (qho a k).toNat = BitVec.ofNat 32 a.toNat ^^^ (1#32 <<< k) := by
 have e : ∀ k : Fin 8, (1#8 <<< k.val).setWidth 32 = (1#32 <<< k.val) := by decide
 rw [q9w, q9w, <- e ⟨k, hk⟩, <- BitVec.setWidth_xor]; rfl
theorem qkz (k : Nat) (hk : k < 32) : it k (1#32 <<< k) = 1#32 := qhm k _ fun i hi => by
 rw [BitVec.getLsbD_one]; simp; omega
theorem qhq (a : UInt8) (l : List UInt8) (p : Nat) : qiy (a :: l) (p + 8) = a :: qiy l p := by
 have e1 : (p + 8) / 8 = p / 8 + 1 := by omega
 have e2 : (p + 8) % 8 = p % 8 := by omega
 unfold qiy
 rw [e1, e2, List.getElem?_cons_succ]
 split <;> rfl
theorem qby : ∀ (l : List UInt8) (p : Nat) (x : W), p < 8 * l.length -> more x (qiy l p) = more x l ^^^ it (8 * l.length - p) 1#32
 | [], p, x, h => by simp at h
 | a :: l, p, x, h => by
  by_cases hp : p < 8
  ·have e1 : p / 8 = 0 := by omega
   have e2 : p % 8 = p := by omega
   have e3 : qiy (a :: l) p = qho a p :: l := by unfold qiy; rw [e1, e2]; rfl
   rw [e3]
   show more (q18 x (qho a p)) l = more (q18 x a) l ^^^ _
   have e4 : q18 x (qho a p) = q18 x a ^^^ it (8 - p) 1#32 := by
    rw [q18, qhp a p hp, q18, q5j, q5j, <- BitVec.xor_assoc, qbw]
    congr 1
    rw [show (8 : Nat) = p + (8 - p) by omega, q6v, qkz p (by omega)]
    congr 1; omega
   rw [e4, q7j, <- q6v, List.length_cons]
   congr 2; omega
  ·obtain ⟨q, rfl⟩ : ∃ q, p = q + 8 := ⟨p - 8, by omega⟩
   rw [qhq]
   show more (q18 x a) (qiy l q) = more (q18 x a) l ^^^ _
   rw [qby l q _ (by simp only [List.length_cons] at h; omega), List.length_cons]
   congr 2; omega
def q39 (l : List UInt8) (p : Nat) (m : W) : Nat -> List UInt8
 | 0 => l
 | j + 1 => if m.getLsbD j = true then qiy (q39 l p m j) (p + j) else q39 l p m j
def low (m : W) : Nat -> W
 | 0 => 0#32
 | j + 1 => if m.getLsbD j = true then low m j ^^^ (1#32 <<< j) else low m j
theorem q20 (l : List UInt8) (p : Nat) (m : W) : ∀ j, (q39 l p m j).length = l.length
 | 0 => rfl
 | j + 1 => by
  simp only [q39]; split
  ·rw [qjv, q20 l p m j]
  ·exact q20 l p m j
theorem qhr (m : W) : ∀ (j i : Nat), j <= 32 -> (low m j).getLsbD i = (decide (i < j) && m.getLsbD i)
 | 0, i, _ => by simp [low]
 | j + 1, i, h => by
  have ih := qhr m j i (by omega)
  simp only [low]
  split
  ·rename_i hm
   rw [BitVec.getLsbD_xor, ih, BitVec.getLsbD_shiftLeft, BitVec.getLsbD_one]
   by_cases e : i = j
   ·subst e; simp [hm]; omega
   ·by_cases h2 : i < j
    ·simp [h2, show i < j + 1 by omega]
    ·simp [h2, show ¬ i < j + 1 by omega]; intro _ _; omega
  ·rename_i hm
   rw [ih]
   by_cases e : i = j
   ·subst e; simp at hm; simp [hm]
   ·by_cases h2 : i < j
    ·simp [h2, show i < j + 1 by omega]
    ·simp [h2, show ¬ i < j + 1 by omega]
theorem qm5 (m : W) : low m 32 = m := by
 apply BitVec.eq_of_getLsbD_eq
 intro i hi
 rw [qhr m 32 i (by omega)]; simp [hi]
theorem qbz (l : List UInt8) (p : Nat) (m : W) (x : W) (h : p + 31 < 8 * l.length) : ∀ j, j <= 32 -> more x (q39 l p m j) = more x l ^^^ it (8 * l.length - p) (low m j)
 | 0, _ => by simp [q39, low, qhl]
 | j + 1, hj => by
  have ih := qbz l p m x h j (by omega)
  simp only [q39, low]
  split
  ·rw [qby _ _ _ (by rw [q20]; omega), q20, ih, qbw, BitVec.xor_assoc]
   congr 2
   rw [show 8 * l.length - p = j + (8 * l.length - (p + j)) by omega, q6v, qkz j (by omega)]
  ·exact ih
theorem qss {a b : List UInt8} {m : W} {p : Nat} (hm : m ≠ 0#32) (h : p + 31 < 8 * (a.length + b.length)) {c : List UInt8} (ht : q39 (a ++ q0i c) p m 32 = a ++ b) (hl : b.length = (q0i c).length) : ∀ d, b ≠ q0i d := by
 intro d e
 have hx := qbz (a ++ q0i c) p m 4294967295#32 (by rw [List.length_append, <- hl]; exact h) 32 (by omega)
 rw [ht, qm5, qas, qas] at hx
 have hlin := qju (l := b) (m := q0i c) (more 4294967295#32 a) 4294967295#32 hl
 rw [e, qbx, qbx, BitVec.xor_self] at hlin
 rw [e, BitVec.xor_eq_zero_iff.1 hlin] at hx
 have : it (8 * (a ++ q0i c).length - p) m = 0#32 := by
  have h2 := congrArg (fun v : W => more (more 4294967295#32 a) (q0i c) ^^^ v) hx
  simp only [BitVec.xor_self] at h2
  rw [<- BitVec.xor_assoc, BitVec.xor_self, BitVec.zero_xor] at h2
  exact h2.symm
 exact qq1 hm this
end Go.Aw
