import Derived.Test.YtchdmofoaokpjaaGreatDoorM30N17E12B
import Derived.Test.YtchdmofoaokpjaaGreatDoorM30N17E12R
import Derived.Test.YtchdmofoaokpjaaGreatDoorT30Txt
import Derived.Test.YtchdmofoaokpjaaGreatDoorAwD
import GoSem.Claim
namespace Go.Aw
open Go
set_option linter.all false
abbrev W := BitVec 32
def z0u : W := 3988292384#32
def qnj (x : W) : W := (x >>> 1) ^^^ (z0u &&& -(x &&& 1#32))
def zad (x : W) : W := qnj (qnj (qnj (qnj (qnj (qnj (qnj (qnj x)))))))
def q94 (x : W) (b : UInt8) : W := zad (x ^^^ BitVec.ofNat 32 b.toNat)
def more (x : W) (l : List UInt8) : W := l.foldl q94 x
def qzj (l : List UInt8) : W := ~~~ more 4294967295#32 l
def q98 (x : W) (k : Nat) : UInt8 := UInt8.ofNat ((x.toNat / 256 ^ k) % 256)
def z3y (x : W) : List UInt8 := [q98 x 0, q98 x 1, q98 x 2, q98 x 3]
def q6a (l : List UInt8) : List UInt8 := l ++ z3y (qzj l)
theorem z2o (x : W) : -(x &&& 1#32) = if x.getLsbD 0 then BitVec.allOnes 32 else 0#32 := by
 have h : x &&& 1#32 = if x.getLsbD 0 then 1#32 else 0#32 := by
  apply BitVec.eq_of_getLsbD_eq
  intro i hi
  rw [BitVec.getLsbD_and]
  by_cases h0 : i = 0
  ·subst h0
   cases hx : x.getLsbD 0 <;> simp
  ·have : (1#32 : W).getLsbD i = false := by
    rw [BitVec.getLsbD_one]; simp [h0]
   rw [this, Bool.and_false]
   cases hx : x.getLsbD 0
   ·simp
   ·simp only [if_true]; rw [this]
 rw [h]
 cases x.getLsbD 0
 ·simp
 ·simp only [if_true]; decide
theorem qt2 (x : W) : qnj x = (x >>> 1) ^^^ (if x.getLsbD 0 then z0u else 0#32) := by
 rw [qnj, z2o]
 cases x.getLsbD 0
 ·simp
 ·simp only [if_true]; rw [BitVec.and_allOnes]
theorem z2p (x y : W) : qnj (x ^^^ y) = qnj x ^^^ qnj y := by
 simp only [qt2, BitVec.getLsbD_xor, BitVec.ushiftRight_xor_distrib]
 cases x.getLsbD 0 <;> cases y.getLsbD 0 <;> simp only [Bool.false_xor, Bool.xor_false, Bool.xor_true, Bool.not_true, Bool.not_false, Bool.false_eq_true, if_true, if_false, BitVec.xor_zero]
 ·ac_rfl
 ·ac_rfl
 ·rw [show x >>> 1 ^^^ z0u ^^^ (y >>> 1 ^^^ z0u) = (x >>> 1 ^^^ y >>> 1) ^^^ (z0u ^^^ z0u) by ac_rfl, BitVec.xor_self, BitVec.xor_zero]
theorem qzk : qnj 0#32 = 0#32 := by decide
theorem qzl {x : W} (h : qnj x = 0#32) : x = 0#32 := by
 rw [qt2] at h
 cases hx : x.getLsbD 0
 ·rw [hx] at h
  simp only [Bool.false_eq_true, if_false, BitVec.xor_zero] at h
  apply BitVec.eq_of_getLsbD_eq
  intro i hi
  by_cases h0 : i = 0
  ·subst h0; rw [hx]; simp
  ·have := congrArg (fun v : W => v.getLsbD (i - 1)) h
   simp only [BitVec.getLsbD_ushiftRight] at this
   rw [show 1 + (i - 1) = i by omega] at this
   rw [this]; simp
 ·rw [hx] at h
  have := congrArg (fun v : W => v.getLsbD 31) h
  simp only [if_true, BitVec.getLsbD_xor, BitVec.getLsbD_ushiftRight] at this
  rw [BitVec.getLsbD_of_ge x 32 (by omega)] at this
  exact absurd this (by decide)
end Go.Aw
namespace Go.Aw
open Go
set_option linter.all false
def it : Nat -> W -> W
 | 0, x => x
 | k + 1, x => it k (qnj x)
theorem qis (j : Nat) : ∀ (k : Nat) (x : W), it (k + j) x = it j (it k x)
 | 0, x => by rw [Nat.zero_add]; rfl
 | k + 1, x => by rw [show k + 1 + j = (k + j) + 1 by omega]; exact qis j k (qnj x)
theorem qr2 : ∀ (k : Nat) (x y : W), it k (x ^^^ y) = it k x ^^^ it k y
 | 0, _, _ => rfl
 | k + 1, x, y => by simp only [it, z2p, qr2 k]
theorem qzm : ∀ k : Nat, it k 0#32 = 0#32
 | 0 => rfl
 | k + 1 => by simp only [it, qzk, qzm k]
theorem zae : ∀ {k : Nat} {x : W}, x ≠ 0#32 -> it k x ≠ 0#32
 | 0, _, h => h
 | k + 1, x, h => zae (k := k) fun e => h (qzl e)
theorem qgx (x : W) : zad x = it 8 x := rfl
theorem z2q {y : W} (h : y.getLsbD 31 = false) : qnj (y <<< 1) = y := by
 rw [qt2]
 have h0 : (y <<< 1).getLsbD 0 = false := by simp [BitVec.getLsbD_shiftLeft]
 rw [h0]
 simp only [Bool.false_eq_true, if_false, BitVec.xor_zero]
 apply BitVec.eq_of_getLsbD_eq
 intro i hi
 rw [BitVec.getLsbD_ushiftRight, BitVec.getLsbD_shiftLeft]
 by_cases e : i = 31
 ·subst e; rw [h]; simp
 ·simp only [show 1 + i < 32 by omega, decide_true, Bool.true_and]
  simp
theorem qzn : ∀ (k : Nat) (y : W), (∀ i, 32 <= i + k -> y.getLsbD i = false) -> it k (y <<< k) = y
 | 0, y, _ => by simp [it]
 | k + 1, y, h => by
  simp only [it]
  rw [BitVec.shiftLeft_add, z2q]
  ·exact qzn k y fun i hi => h i (by omega)
  ·rw [BitVec.getLsbD_shiftLeft]
   by_cases hk : 31 < k
   ·simp [hk]
   ·have := h (31 - k) (by omega)
    simp [this]
def lo (c : W) : W := c &&& 255#32
theorem z2r (c : W) : c = lo c ^^^ ((c >>> 8) <<< 8) := by
 apply BitVec.eq_of_getLsbD_eq
 intro i hi
 have h255 : (255#32 : W).getLsbD i = decide (i < 8) := by
  have : ∀ j : Fin 32, (255#32 : W).getLsbD j.val = decide (j.val < 8) := by decide
  exact this ⟨i, hi⟩
 simp only [lo, BitVec.getLsbD_xor, BitVec.getLsbD_and, BitVec.getLsbD_shiftLeft, BitVec.getLsbD_ushiftRight, h255]
 by_cases h8 : i < 8
 ·simp [h8]
 ·simp only [h8, decide_false, Bool.and_false, Bool.false_xor, hi, decide_true, Bool.not_false, Bool.true_and]
  rw [show 8 + (i - 8) = i by omega]
theorem qjm (c : W) (k : Nat) : BitVec.ofNat 32 (q98 c k).toNat = lo (c >>> (8 * k)) := by
 apply BitVec.eq_of_toNat_eq
 have e : (255#32 : W).toNat = 2 ^ 8 - 1 := by decide
 rw [lo, BitVec.toNat_and, e, Nat.and_two_pow_sub_one_eq_mod, BitVec.toNat_ushiftRight, Nat.shiftRight_eq_div_pow, Nat.pow_mul, q98]
 simp
 omega
theorem qgy (s c : W) (b : UInt8) (h : BitVec.ofNat 32 b.toNat = lo c) : q94 s b ^^^ (c >>> 8) = it 8 (s ^^^ c) := by
 have e : it 8 ((c >>> 8) <<< 8) = c >>> 8 := qzn 8 _ fun i hi => by
  rw [BitVec.getLsbD_ushiftRight]; exact BitVec.getLsbD_of_ge _ _ (by omega)
 rw [q94, h, qgx]
 conv => rhs; rw [z2r c, <- BitVec.xor_assoc, qr2, e]
theorem qzo (s c : W) : more s (z3y c) = it 32 (s ^^^ c) := by
 have h1 := qgy s c _ (qjm c 0)
 have h2 := qgy (q94 s (q98 c 0)) (c >>> 8) _ (qjm c 1)
 have h3 := qgy (q94 (q94 s (q98 c 0)) (q98 c 1)) (c >>> 8 >>> 8) (q98 c 2) (by rw [qjm, <- BitVec.shiftRight_add])
 have h4 := qgy (q94 (q94 (q94 s (q98 c 0)) (q98 c 1)) (q98 c 2)) (c >>> 8 >>> 8 >>> 8) (q98 c 3) (by rw [qjm, <- BitVec.shiftRight_add, <- BitVec.shiftRight_add])
 rw [h1] at h2
 rw [h2] at h3
 rw [h3] at h4
 have e : c >>> 8 >>> 8 >>> 8 >>> 8 = 0#32 := by
  apply BitVec.eq_of_getLsbD_eq
  intro i hi
  simp only [BitVec.getLsbD_ushiftRight]
  rw [BitVec.getLsbD_of_ge _ _ (by omega)]; simp
 rw [e, BitVec.xor_zero] at h4
 show more s (z3y c) = it (8 + (8 + (8 + 8))) (s ^^^ c)
 rw [qis, qis, qis]
 exact h4
theorem qoy (x : W) (l m : List UInt8) : more x (l ++ m) = more (more x l) m := by simp [more]
theorem z62 (x : W) : x ^^^ ~~~x = BitVec.allOnes 32 := by
 apply BitVec.eq_of_getLsbD_eq
 intro i hi
 simp only [BitVec.getLsbD_xor, BitVec.getLsbD_not, BitVec.getLsbD_allOnes, hi, decide_true, Bool.true_and]
 cases x.getLsbD i <;> rfl
def ze1 : W := it 32 (BitVec.allOnes 32)
theorem qr3 (l : List UInt8) : more 4294967295#32 (q6a l) = ze1 := by
 rw [q6a, qoy, qzo, qzj, z62]
 rfl
theorem qjn : ∀ (l : List UInt8) (x d : W), more (x ^^^ d) l = more x l ^^^ it (8 * l.length) d
 | [], _, _ => rfl
 | a :: l, x, d => by
  show more (q94 (x ^^^ d) a) l = more (q94 x a) l ^^^ it (8 * (l.length + 1)) d
  have e : q94 (x ^^^ d) a = q94 x a ^^^ it 8 d := by
   rw [q94, q94, qgx, qgx, <- qr2]
   congr 1
   ac_rfl
  rw [e, qjn l, show 8 * (l.length + 1) = 8 + 8 * l.length by omega, qis]
theorem qwg (a b d : W) : (a ^^^ d) ^^^ (b ^^^ d) = a ^^^ b := by
 rw [show (a ^^^ d) ^^^ (b ^^^ d) = (a ^^^ b) ^^^ (d ^^^ d) by ac_rfl, BitVec.xor_self, BitVec.xor_zero]
theorem z2s {l m : List UInt8} (x y : W) (h : l.length = m.length) : more x l ^^^ more x m = more y l ^^^ more y m := by
 have e : y = x ^^^ (x ^^^ y) := by rw [<- BitVec.xor_assoc, BitVec.xor_self, BitVec.zero_xor]
 rw [e, qjn, qjn, h, qwg]
def qt3 (a : UInt8) (k : Nat) : UInt8 := UInt8.ofBitVec (a.toBitVec ^^^ (1#8 <<< k))
def qwq (l : List UInt8) (p : Nat) : List UInt8 := match l[p / 8]? with
 | some a => l.set (p / 8) (qt3 a (p % 8))
 | none => l
theorem z2t (l : List UInt8) (p : Nat) : (qwq l p).length = l.length := by unfold qwq; split <;> simp
theorem qnk (a : UInt8) : BitVec.ofNat 32 a.toNat = a.toBitVec.setWidth 32 := BitVec.eq_of_toNat_eq (by simp [BitVec.toNat_setWidth])
theorem qzp (a : UInt8) (k : Nat) (hk : k < 8) : BitVec.ofNat 32 (qt3 a k).toNat = BitVec.ofNat 32 a.toNat ^^^ (1#32 <<< k) := by
 have e : ∀ k : Fin 8, (1#8 <<< k.val).setWidth 32 = (1#32 <<< k.val) := by decide
 rw [qnk, qnk, <- e ⟨k, hk⟩, <- BitVec.setWidth_xor]; rfl
theorem z3z (k : Nat) (hk : k < 32) : it k (1#32 <<< k) = 1#32 := qzn k _ fun i hi => by
 rw [BitVec.getLsbD_one]; simp; omega
theorem qzq (a : UInt8) (l : List UInt8) (p : Nat) : qwq (a :: l) (p + 8) = a :: qwq l p := by
 have e1 : (p + 8) / 8 = p / 8 + 1 := by omega
 have e2 : (p + 8) % 8 = p % 8 := by omega
 unfold qwq
 rw [e1, e2, List.getElem?_cons_succ]
 split <;> rfl
theorem qr4 : ∀ (l : List UInt8) (p : Nat) (x : W), p < 8 * l.length -> more x (qwq l p) = more x l ^^^ it (8 * l.length - p) 1#32
 | [], p, x, h => by simp at h
 | a :: l, p, x, h => by
  by_cases hp : p < 8
  ·have e1 : p / 8 = 0 := by omega
   have e2 : p % 8 = p := by omega
   have e3 : qwq (a :: l) p = qt3 a p :: l := by unfold qwq; rw [e1, e2]; rfl
   rw [e3]
   show more (q94 x (qt3 a p)) l = more (q94 x a) l ^^^ _
   have e4 : q94 x (qt3 a p) = q94 x a ^^^ it (8 - p) 1#32 := by
    rw [q94, qzp a p hp, q94, qgx, qgx, <- BitVec.xor_assoc, qr2]
    congr 1
    rw [show (8 : Nat) = p + (8 - p) by omega, qis, z3z p (by omega)]
    congr 1; omega
   rw [e4, qjn, <- qis, List.length_cons]
   congr 2; omega
  ·obtain ⟨q, rfl⟩ : ∃ q, p = q + 8 := ⟨p - 8, by omega⟩
   rw [qzq]
   show more (q94 x a) (qwq l q) = more (q94 x a) l ^^^ _
   rw [qr4 l q _ (by simp only [List.length_cons] at h; omega), List.length_cons]
   congr 2; omega
def q0m (l : List UInt8) (p : Nat) (m : W) : Nat -> List UInt8
 | 0 => l
 | j + 1 => if m.getLsbD j = true then qwq (q0m l p m j) (p + j) else q0m l p m j
def low (m : W) : Nat -> W
 | 0 => 0#32
 | j + 1 => if m.getLsbD j = true then low m j ^^^ (1#32 <<< j) else low m j
theorem q1z (l : List UInt8) (p : Nat) (m : W) : ∀ j, (q0m l p m j).length = l.length
 | 0 => rfl
 | j + 1 => by
  simp only [q0m]; split
  ·rw [z2t, q1z l p m j]
  ·exact q1z l p m j
theorem qzr (m : W) : ∀ (j i : Nat), j <= 32 -> (low m j).getLsbD i = (decide (i < j) && m.getLsbD i)
 | 0, i, _ => by simp [low]
 | j + 1, i, h => by
  have ih := qzr m j i (by omega)
  simp only [low]
  split
  ·rename_i hm
   rw [BitVec.getLsbD_xor, ih, BitVec.getLsbD_shiftLeft, BitVec.getLsbD_one]
   by_cases e : i = j
   ·subst e; simp [hm]; omega
   ·by_cases h2 : i < j
    ·simp [h2, show i < j + 1 by omega]
    ·simp [h2, show ¬ i < j + 1 by omega]; intro _ _; omega
  ·rename_i hm
   rw [ih]
   by_cases e : i = j
   ·subst e; simp at hm; simp [hm]
   ·by_cases h2 : i < j
    ·simp [h2, show i < j + 1 by omega]
    ·simp [h2, show ¬ i < j + 1 by omega]
theorem z63 (m : W) : low m 32 = m := by
 apply BitVec.eq_of_getLsbD_eq
 intro i hi
 rw [qzr m 32 i (by omega)]; simp [hi]
theorem qr5 (l : List UInt8) (p : Nat) (m : W) (x : W) (h : p + 31 < 8 * l.length) : ∀ j, j <= 32 -> more x (q0m l p m j) = more x l ^^^ it (8 * l.length - p) (low m j)
 | 0, _ => by simp [q0m, low, qzm]
 | j + 1, hj => by
  have ih := qr5 l p m x h j (by omega)
  simp only [q0m, low]
  split
  ·rw [qr4 _ _ _ (by rw [q1z]; omega), q1z, ih, qr2, BitVec.xor_assoc]
   congr 2
   rw [show 8 * l.length - p = j + (8 * l.length - (p + j)) by omega, qis, z3z j (by omega)]
  ·exact ih
theorem ze2 {a b : List UInt8} {m : W} {p : Nat} (hm : m ≠ 0#32) (h : p + 31 < 8 * (a.length + b.length)) {c : List UInt8} (ht : q0m (a ++ q6a c) p m 32 = a ++ b) (hl : b.length = (q6a c).length) : ∀ d, b ≠ q6a d := by
 intro d e
 have hx := qr5 (a ++ q6a c) p m 4294967295#32 (by rw [List.length_append, <- hl]; exact h) 32 (by omega)
 rw [ht, z63, qoy, qoy] at hx
 have hlin := z2s (l := b) (m := q6a c) (more 4294967295#32 a) 4294967295#32 hl
 rw [e, qr3, qr3, BitVec.xor_self] at hlin
 rw [e, BitVec.xor_eq_zero_iff.1 hlin] at hx
 have : it (8 * (a ++ q6a c).length - p) m = 0#32 := by
  have h2 := congrArg (fun v : W => more (more 4294967295#32 a) (q6a c) ^^^ v) hx
  simp only [BitVec.xor_self] at h2
  rw [<- BitVec.xor_assoc, BitVec.xor_self, BitVec.zero_xor] at h2
  exact h2.symm
 exact zae hm this
end Go.Aw
namespace Go.Aw
open Go
open Go.Proofs.Tryz (prog)
set_option linter.all false
set_option maxHeartbeats 4000000
theorem q77 {T : Tab} (l : List UInt8) (k : Option Nat) : Z4 T 1 (.fz l.length (K8 l) k) = some (K8 l) := by simp [Z4, Y2]
theorem qgz {T T' : Tab} {v : AV} {l : List UInt8} {n : Nat} (h : Own T 1 v n (K8 l) T') (hn : l.length = n) : qn5 v (fun v T' => v = bts l none /\ T' = T) T' := by
 subst hn
 refine q33 (Owns.one h) fun S hS => ?_
 obtain ⟨c, e⟩ := hS _ (List.mem_cons_self ..)
 simp only at e
 have : qm5 T' S v = qc6 T' S v := by
  rcases h.2 with ⟨rfl, _⟩ | ⟨id, rfl, _⟩ <;> rfl
 rw [this, e]
 exact .fz
theorem z2u (l : List UInt8) (k : Option Nat) (hn : l.length <= 1000000000) : PCalls prog Q4 [bts l k] (bts l none) := by
 refine K6 U1 q1f (by simp) fun T => ?_
 unfold q0f bts
 have main : ∀ K : AV -> Tab -> Prop, (∀ v T', Own T 1 v l.length (K8 l) T' -> K v T') -> q1k 1 1 T (.fz 0 [] (some 0)) (.fz l.length (K8 l) k) K := fun K hK =>
  (Own.nil T 1).app (m := l.length) (news := K8 l) (q77 l k) rfl (by omega) (by omega) (by simpa using hK)
 simp -implicitDefEqProofs -dsimp only [go_sem, seval, qxx]
 split
 ·refine main _ fun v T' h => ?_
  refine J1 ?_
  obtain ⟨q1, q2, q3, q4, q5, q6⟩ := h.form
  simp -implicitDefEqProofs -dsimp only [go_sem, seval, q1]
  exact qgz h rfl
 ·rename_i h0
  have e : l = [] := List.length_eq_zero_iff.1 (by omega)
  subst e
  intro b
  refine K0 (fun h => ?_) (fun h => ?_) <;> simp -implicitDefEqProofs -dsimp only [go_sem, seval]
  ·exact qgz (l := []) (Own.nil T 1) rfl
  ·refine main _ fun v T' h => ?_
   refine J1 ?_
   obtain ⟨q1, q2, q3, q4, q5, q6⟩ := h.form
   simp -implicitDefEqProofs -dsimp only [go_sem, seval, q1]
   exact qgz h rfl
theorem z64 (n : Nat) (hn : n <= 1000000000) (T : Tab) : ACalls prog q1s [.fz 0 [] (some 0), .i .i64 n] T (fun v T' => Own T 1 v 0 [] T') := by
 refine U7 U1 qb8 (by simp) ?_
 unfold q71
 have h0 : decide ((n : Int) < 0) = false := decide_eq_false (by omega)
 have h1 : IntKind.i64.wrap (n : Int) = n := q0c (by unfold I64; omega)
 have h2 : IntKind.i64.wrap ((n : Int) - 0) = n := by rw [Int.sub_zero]; exact h1
 have h3 : IntKind.i64.wrap 0 = 0 := rfl
 simp -implicitDefEqProofs -dsimp only [go_sem, seval, h0, h1, h2, h3, Int.sub_zero, show ((0 : Nat) : Int) = 0 from rfl]
 refine K0 (fun h => ?_) (fun h => ?_)
 ·have hp := of_decide_eq_true h
  simp -implicitDefEqProofs -dsimp only [go_sem, seval, h, Int.sub_zero, show ((0 : Nat) : Int) = 0 from rfl, Nat.le_refl, true_or, true_and, Nat.sub_self]
  refine z4s hp (by omega) (by omega) fun id hid => ?_
  refine J1 ?_
  simp -implicitDefEqProofs -dsimp only [go_sem, seval, Tab.put_same, Int.toNat_natCast, Nat.zero_le, true_or, or_true, true_and, show ((0 : Nat) : Int) = 0 from rfl, Int.toNat_zero]
  refine Y3 (T.put id (.row 1 [])) (fun j => ?_) ⟨rfl, .inr ⟨id, rfl, hid, rfl⟩⟩
  simp only [Tab.put]
  split
  ·exact .inr (.inr ⟨1, _, 0, rfl, by simp⟩)
  ·exact .inr (.inl rfl)
 ·simp -implicitDefEqProofs -dsimp only [go_sem, seval, h]
  exact Y3 T (fun _ => .inr (.inl rfl)) (.nil T 1)
theorem qr6 (l m : List UInt8) (k1 k2 : Option Nat) (hl : l.length <= 400000000) (hm : m.length <= 400000000) : PCalls prog q16 [.fz 2 [bts l k1, bts m k2] (some 2)] (bts (l ++ m) none) := by
 refine K6 U1 q9t (by simp) fun T => ?_
 unfold q5p
 have w1 : IntKind.i64.wrap (0 + (l.length : Int)) = l.length := by rw [Int.zero_add]; exact q0c (by unfold I64; omega)
 have w2 : IntKind.i64.wrap ((l.length : Int) + m.length) = ((l.length + m.length : Nat) : Int) := by rw [q0c (by unfold I64; omega)]; simp
 have d1 : decide ((l.length : Int) < 0) = false := decide_eq_false (by omega)
 have d2 : decide (((l.length + m.length : Nat) : Int) < 0) = false := decide_eq_false (by omega)
 have w3 : IntKind.i64.wrap 1 = 1 := rfl
 have w4 : IntKind.i64.wrap 2 = 2 := rfl
 simp -implicitDefEqProofs -dsimp only [go_sem, seval, show ((2 : Nat) : Int) = 2 from rfl]
 refine Q1 (l := q0w) rfl (by repeat' (first | exact O6 _ _ | assumption | apply O5 | apply N4 | apply V8)) ?_
 unfold q0o
 simp -implicitDefEqProofs -dsimp only [go_sem, seval, bts, w1, d1, w3, Int.natCast_nonneg, show ((2 : Nat) : Int) = 2 from rfl, decide_true, decide_false]
 refine Q1 (l := q0w) rfl (by repeat' (first | exact O6 _ _ | assumption | apply O5 | apply N4 | apply V8)) ?_
 unfold q0o
 simp -implicitDefEqProofs -dsimp only [go_sem, seval, bts, w2, d2, w4, Int.natCast_nonneg, show ((2 : Nat) : Int) = 2 from rfl, decide_true, decide_false]
 refine Q1 (l := q0w) rfl (by repeat' (first | exact O6 _ _ | assumption | apply O5 | apply N4 | apply V8)) ?_
 unfold q0o
 simp -implicitDefEqProofs -dsimp only [go_sem, seval, bts, show ((2 : Nat) : Int) = 2 from rfl, decide_true, decide_false, ↓J0 _ _ qb9]
 refine CallK.of (z64 (l.length + m.length) (by omega) T) (fun v T1 h => ?_)
 refine J1 ?_
 obtain ⟨q1, q2, q3, q4, q5, q6⟩ := h.form
 simp -implicitDefEqProofs -dsimp only [go_sem, seval, q1, q2, q3, q4, q5, q6, show ((2 : Nat) : Int) = 2 from rfl]
 refine Q1 (l := q0x) rfl (by repeat' (first | exact O6 _ _ | assumption | apply O5 | apply N4 | apply V8)) ?_
 unfold q0p
 simp -implicitDefEqProofs -dsimp only [go_sem, seval, q1, q2, q3, q4, q5, q6, w3, w4, decide_true, decide_false, show ((2 : Nat) : Int) = 2 from rfl, show (1 : Int).toNat = 1 from rfl]
 refine (Owns.one h).app (b := 1) (m := l.length) (news := K8 l) (q77 l k1) rfl (by simp only; omega) (by simp only; omega) fun v' T2 h2 => ?_
 refine J1 ?_
 obtain ⟨q1, q2, q3, q4, q5, q6⟩ := h2.form (List.mem_cons_self ..)
 simp only at q1 q2 q3 q4 q5 q6
 simp -implicitDefEqProofs -dsimp only [go_sem, seval, q1, q2, q3, q4, q5, q6, w3, w4, decide_true, decide_false, show ((2 : Nat) : Int) = 2 from rfl, show (1 : Int).toNat = 1 from rfl]
 refine Q1 (l := q0x) rfl (by repeat' (first | exact O6 _ _ | assumption | apply O5 | apply N4 | apply V8)) ?_
 unfold q0p
 simp -implicitDefEqProofs -dsimp only [go_sem, seval, q1, q2, q3, q4, q5, q6, w3, w4, decide_true, decide_false, show ((2 : Nat) : Int) = 2 from rfl, show (1 : Int).toNat = 1 from rfl]
 refine h2.app (b := 1) (m := m.length) (news := K8 m) (q77 m k2) rfl (by simp only; omega) (by simp only; omega) fun v' T3 h3 => ?_
 refine J1 ?_
 obtain ⟨q1, q2, q3, q4, q5, q6⟩ := h3.form (List.mem_cons_self ..)
 simp only at q1 q2 q3 q4 q5 q6
 simp -implicitDefEqProofs -dsimp only [go_sem, seval, q1, q2, q3, q4, q5, q6, w3, w4, decide_true, decide_false, show ((2 : Nat) : Int) = 2 from rfl, show (1 : Int).toNat = 1 from rfl]
 refine Q1 (l := q0x) rfl (by repeat' (first | exact O6 _ _ | assumption | apply O5 | apply N4 | apply V8)) ?_
 unfold q0p
 simp -implicitDefEqProofs -dsimp only [go_sem, seval, q1, q2, q3, q4, q5, q6, w3, w4, decide_true, decide_false, show ((2 : Nat) : Int) = 2 from rfl, show (1 : Int).toNat = 1 from rfl]
 obtain ⟨T0, rfl, ho⟩ := h3
 simp only [List.nil_append, q0v] at ho
 exact qgz ho (by simp)
end Go.Aw
