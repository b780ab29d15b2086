import Derived.Test.YtmicojcojlgefaaAwD
import Derived.Test.YtmicojcojlgefaaT29Txt
namespace Go.Aw
open Go
open Go.Proofs.Try (prog)
set_option linter.all false
set_option maxHeartbeats 4000000
def sg (c : Int) : Bool := decide (97 <= c) && decide (c <= 122) || decide (48 <= c) && decide (c <= 57) || decide (c = 95)
def sgn (l : List UInt8) : Bool := l.all fun b => sg b.toNat
def q9g (l : List UInt8) : Bool := !decide (l = []) && (sgn l && decide ((l.length : Int) <= 32))
def qm9 (l : List UInt8) : Bool := sgn l && decide ((l.length : Int) <= 64)
theorem qtj (c : Int) : PCalls prog q8u [.i .u8 c] (.b (sg c)) := by
 refine K4 U6 qm7 (by simp) fun T => ?_
 unfold qh7
 simp -implicitDefEqProofs -dsimp only [go_sem, seval, decide_true, decide_false]
 (first | (apply J7 <;> intro h_1 <;> simp -implicitDefEqProofs -dsimp only [go_sem, seval, decide_true, decide_false, h_1]) | (have h_1 := trivial)) <;>
  (first | (apply J7 <;> intro h_2 <;> simp -implicitDefEqProofs -dsimp only [go_sem, seval, decide_true, decide_false, h_1, h_2]) | (have h_2 := trivial)) <;>
  (first | (apply J7 <;> intro h_3 <;> simp -implicitDefEqProofs -dsimp only [go_sem, seval, decide_true, decide_false, h_1, h_2, h_3]) | (have h_3 := trivial)) <;>
  (first | (apply J7 <;> intro h_4 <;> simp -implicitDefEqProofs -dsimp only [go_sem, seval, decide_true, decide_false, h_1, h_2, h_3, h_4]) | (have h_4 := trivial)) <;>
  (first | (apply J7 <;> intro h_5 <;> simp -implicitDefEqProofs -dsimp only [go_sem, seval, decide_true, decide_false, h_1, h_2, h_3, h_4, h_5]) | (have h_5 := trivial)) <;>
  (first | (apply J7 <;> intro h_6 <;> simp -implicitDefEqProofs -dsimp only [go_sem, seval, decide_true, decide_false, h_1, h_2, h_3, h_4, h_5, h_6]) | (have h_6 := trivial))
 all_goals
  refine K2 ?_
  simp only [sg, *, Bool.not_true, Bool.not_false, Bool.true_and, Bool.false_and, Bool.and_false, Bool.and_true, Bool.or_true, Bool.true_or, Bool.false_or, Bool.or_false]
theorem qrt {R : I2} (hR : ExtR R) {T : Tab} {bs : List UInt8} {n : Int} (hl : Len bs.length) : ∀ (ys : List UInt8) (k : Nat), bs.drop k = ys -> k <= bs.length ->
  (sgn ys = false -> R .ret [(4, .b false)] [] T) ->
  (sgn ys = true -> R (.exit 0) [(0, .s bs), (1, .i .i64 n), (7, .i .i64 bs.length), (8, .i .i64 bs.length), (9, .b false)] [] T) ->
  AW prog q90 R [(0, .s bs), (1, .i .i64 n), (7, .i .i64 bs.length), (8, .i .i64 k)] [] T := by
 intro ys
 induction ys with
 | nil =>
  intro k hk hle h1 h2
  have hk' := V0 hk hle
  refine V7 hR ?_
  unfold q82
  simp -implicitDefEqProofs -dsimp only [go_sem, seval, hk', Int.lt_irrefl]
  rw [hk'] at h2
  exact h2 rfl
 | cons y ys ih =>
  intro k hk hle h1 h2
  obtain ⟨hlt, hy, hk'⟩ := V8 hk
  unfold Len at hl
  refine Q4 (l := q90) rfl hR ?_
  unfold q82
  simp -implicitDefEqProofs -dsimp only [go_sem, seval, Int.ofNat_lt, hlt, Int.natCast_nonneg, Int.toNat_natCast, hy, ↓J0 _ _ qm8]
  refine cpn (qtj _) ?_
  simp -implicitDefEqProofs -dsimp only [go_sem, seval]
  refine J7 (fun h => ?_) (fun h => ?_)
  ·simp -implicitDefEqProofs -dsimp only [go_sem, seval, h]
   have : sg y.toNat = false := by simpa using h
   exact h1 (by simp [sgn, this])
  ·simp -implicitDefEqProofs -dsimp only [go_sem, seval, h]
   have : sg y.toNat = true := by simpa using h
   rw [O7 (by omega)]
   exact ih (k + 1) hk' hlt (fun h => h1 (by simpa [sgn, this] using h)) (fun h => h2 (by simpa [sgn, this] using h))
theorem qn8 (bs : List UInt8) (n : Int) (hl : Len bs.length) : PCalls prog q66 [.s bs, .i .i64 n] (.b (sgn bs && decide ((bs.length : Int) <= n))) := by
 refine K4 U6 qkm (by simp) fun T => ?_
 unfold qf5
 simp -implicitDefEqProofs -dsimp only [go_sem, seval]
 refine qrt (by repeat' (first | exact O9 _ _ | assumption | apply O8 | apply N9 | apply Z5)) hl bs 0 rfl (by omega) (fun h => ?_) (fun h => ?_)
 ·simp -implicitDefEqProofs -dsimp only [go_sem, seval]
  exact K2 (by simp [h])
 ·simp -implicitDefEqProofs -dsimp only [go_sem, seval]
  exact K2 (by simp [h])
theorem qe6 (bs : List UInt8) (hl : Len bs.length) : PCalls prog q53 [.s bs] (.b (q9g bs)) := by
 refine K4 U6 qkk (by simp) fun T => ?_
 unfold qf4
 simp -implicitDefEqProofs -dsimp only [go_sem, seval]
 refine J7 (fun h => ?_) (fun h => ?_)
 ·simp -implicitDefEqProofs -dsimp only [go_sem, seval, h, ↓O0, ↓J0 _ _ qf6]
  refine cpn (qn8 bs 32 hl) ?_
  simp -implicitDefEqProofs -dsimp only [go_sem, seval]
  exact K2 (by simp only [q9g, h, Bool.true_and])
 ·simp -implicitDefEqProofs -dsimp only [go_sem, seval, h, ↓O0, Y4, true_and]
  exact K2 (by simp only [q9g, h, Bool.false_and])
theorem qkv (bs : List UInt8) (hl : Len bs.length) : PCalls prog q5e [.s bs] (.b (qm9 bs)) := by
 refine K4 U6 qh9 (by simp) fun T => ?_
 unfold qaq
 simp -implicitDefEqProofs -dsimp only [go_sem, seval, ↓J0 _ _ qf6]
 refine cpn (qn8 bs 64 hl) ?_
 simp -implicitDefEqProofs -dsimp only [go_sem, seval]
 exact K2 rfl
def qya : Nat -> List UInt8 -> Nat
 | h, [] => h
 | h, y :: ys => qya ((h * 33) % 4294967296 ^^^ y.toNat) ys
def num (l : List UInt8) : Nat := qya 5381 l
theorem qn9 {h : Nat} (y : UInt8) : (h * 33) % 4294967296 ^^^ y.toNat < 4294967296 := by
 have h1 : (h * 33) % 4294967296 < 2 ^ 32 := Nat.mod_lt _ (by decide)
 have h2 : y.toNat < 2 ^ 32 := by have := y.toNat_lt; omega
 exact Nat.xor_lt_two_pow h1 h2
theorem qq2 : ∀ (l : List UInt8) (h : Nat), h < 4294967296 -> qya h l < 4294967296
 | [], h, hh => hh
 | y :: ys, h, hh => qq2 ys _ (qn9 y)
theorem qxj (l : List UInt8) : num l < 4294967296 := qq2 l _ (by decide)
theorem z0c {a b : Nat} (ha : a < 4294967296) (hb : b < 4294967296) : (BitVec.ofInt 32 (a : Int) ^^^ BitVec.ofInt 32 (b : Int)).toNat = a ^^^ b := by
 rw [BitVec.toNat_xor, BitVec.ofInt_natCast, BitVec.ofInt_natCast, BitVec.toNat_ofNat, BitVec.toNat_ofNat, Nat.mod_eq_of_lt ha, Nat.mod_eq_of_lt hb]
theorem qe7 (n : Int) : IntKind.u32.wrap n = n % 4294967296 := by
 simp [IntKind.wrap, IntKind.signed, IntKind.bits]
theorem z0d (h : Nat) (y : UInt8) : IntKind.u32.wrap ((BitVec.ofInt IntKind.u32.bits (IntKind.u32.wrap ((h : Int) * 33)) ^^^ BitVec.ofInt IntKind.u32.bits (IntKind.u32.wrap (y.toNat : Int))).toNat : Nat) = (((h * 33) % 4294967296 ^^^ y.toNat : Nat) : Int) := by
 have hy : y.toNat < 256 := y.toNat_lt
 have e1 : IntKind.u32.wrap ((h : Int) * 33) = (((h * 33) % 4294967296 : Nat) : Int) := by rw [qe7]; omega
 have e2 : IntKind.u32.wrap (y.toNat : Int) = (y.toNat : Int) := by rw [qe7]; omega
 rw [e1, e2, show IntKind.u32.bits = 32 from rfl, z0c (Nat.mod_lt _ (by decide)) (by omega), qe7]
 have := qn9 (h := h) y
 omega
theorem qo4 {R : I2} (hR : ExtR R) {T : Tab} {bs : List UInt8} (hl : Len bs.length) : ∀ (ys : List UInt8) (k h : Nat), bs.drop k = ys -> k <= bs.length ->
  R (.exit 0) [(0, .s bs), (3, .i .u32 (qya h ys)), (6, .i .i64 bs.length), (7, .i .i64 bs.length), (8, .b false)] [] T ->
  AW prog q87 R [(0, .s bs), (3, .i .u32 h), (6, .i .i64 bs.length), (7, .i .i64 k)] [] T := by
 intro ys
 induction ys with
 | nil =>
  intro k h hk hle h2
  have hk' := V0 hk hle
  refine V7 hR ?_
  unfold q7d
  simp -implicitDefEqProofs -dsimp only [go_sem, seval, hk', Int.lt_irrefl]
  rw [hk'] at h2
  exact h2
 | cons y ys ih =>
  intro k h hk hle h2
  obtain ⟨hlt, hy, hk'⟩ := V8 hk
  unfold Len at hl
  refine Q4 (l := q87) rfl hR ?_
  unfold q7d
  simp -implicitDefEqProofs -dsimp only [go_sem, seval, Int.ofNat_lt, hlt, Int.natCast_nonneg, Int.toNat_natCast, hy, z0d]
  rw [O7 (by omega)]
  exact ih (k + 1) _ hk' hlt h2
theorem qo5 (bs : List UInt8) (hl : Len bs.length) : PCalls prog q6z [.s bs] (.i .u32 (num bs)) := by
 refine K4 U6 qjk (by simp) fun T => ?_
 unfold qe4
 simp -implicitDefEqProofs -dsimp only [go_sem, seval]
 refine qo4 (h := 5381) (by repeat' (first | exact O9 _ _ | assumption | apply O8 | apply N9 | apply Z5)) hl bs 0 rfl (by omega) ?_
 simp -implicitDefEqProofs -dsimp only [go_sem, seval]
 exact K2 rfl
end Go.Aw
