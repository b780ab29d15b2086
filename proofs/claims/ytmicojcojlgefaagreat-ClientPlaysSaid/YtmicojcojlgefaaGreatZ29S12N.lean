import Derived.Test.YtmicojcojlgefaaGreatZ29R28K
import Derived.Test.YtmicojcojlgefaaGreatAwD
import Derived.Test.YtmicojcojlgefaaGreatT29zTxt
namespace Go.Aw
open Go
open Go.Proofs.Tryz (prog)
set_option linter.all false
set_option maxHeartbeats 4000000
end Go.Aw
namespace Go.Aw
open Go
open Go.Proofs.Tryz (prog)
set_option linter.all false
set_option maxHeartbeats 4000000
end Go.Aw
namespace Go.Aw
open Go
open Go.Proofs.Tryz (prog)
set_option linter.all false
set_option maxHeartbeats 4000000
def sg (c : Int) : Bool := decide (97 <= c) && decide (c <= 122) || decide (48 <= c) && decide (c <= 57) || decide (c = 95)
def sgn (l : List UInt8) : Bool := l.all fun b => sg b.toNat
def qdh (l : List UInt8) : Bool := !decide (l = []) && (sgn l && decide ((l.length : Int) <= 32))
def qvz (l : List UInt8) : Bool := sgn l && decide ((l.length : Int) <= 64)
theorem z60 (c : Int) : PCalls prog qfs [.i .u8 c] (.b (sg c)) := by
 refine K5 Q7 qvu (by simp) fun T => ?_
 unfold qq8
 simp -implicitDefEqProofs -dsimp only [go_sem, seval, decide_true, decide_false]
 (first | (apply J2 <;> intro h_1 <;> simp -implicitDefEqProofs -dsimp only [go_sem, seval, decide_true, decide_false, h_1]) | (have h_1 := trivial)) <;>
  (first | (apply J2 <;> intro h_2 <;> simp -implicitDefEqProofs -dsimp only [go_sem, seval, decide_true, decide_false, h_1, h_2]) | (have h_2 := trivial)) <;>
  (first | (apply J2 <;> intro h_3 <;> simp -implicitDefEqProofs -dsimp only [go_sem, seval, decide_true, decide_false, h_1, h_2, h_3]) | (have h_3 := trivial)) <;>
  (first | (apply J2 <;> intro h_4 <;> simp -implicitDefEqProofs -dsimp only [go_sem, seval, decide_true, decide_false, h_1, h_2, h_3, h_4]) | (have h_4 := trivial)) <;>
  (first | (apply J2 <;> intro h_5 <;> simp -implicitDefEqProofs -dsimp only [go_sem, seval, decide_true, decide_false, h_1, h_2, h_3, h_4, h_5]) | (have h_5 := trivial)) <;>
  (first | (apply J2 <;> intro h_6 <;> simp -implicitDefEqProofs -dsimp only [go_sem, seval, decide_true, decide_false, h_1, h_2, h_3, h_4, h_5, h_6]) | (have h_6 := trivial))
 all_goals
  refine K1 ?_
  simp only [sg, *, Bool.not_true, Bool.not_false, Bool.true_and, Bool.false_and, Bool.and_false, Bool.and_true, Bool.or_true, Bool.true_or, Bool.false_or, Bool.or_false]
theorem z3b {R : Y5} (hR : ExtR R) {T : Tab} {bs : List UInt8} {n : Int} (hl : Len bs.length) : ∀ (ys : List UInt8) (k : Nat), bs.drop k = ys -> k <= bs.length ->
  (sgn ys = false -> R .ret [(4, .b false)] [] T) ->
  (sgn ys = true -> R (.exit 0) [(0, .s bs), (1, .i .i64 n), (7, .i .i64 bs.length), (8, .i .i64 bs.length), (9, .b false)] [] T) ->
  AW prog qfz R [(0, .s bs), (1, .i .i64 n), (7, .i .i64 bs.length), (8, .i .i64 k)] [] T := by
 intro ys
 induction ys with
 | nil =>
  intro k hk hle h1 h2
  have hk' := O9 hk hle
  refine Q2 hR ?_
  unfold qes
  simp -implicitDefEqProofs -dsimp only [go_sem, seval, hk', Int.lt_irrefl]
  rw [hk'] at h2
  exact h2 rfl
 | cons y ys ih =>
  intro k hk hle h1 h2
  obtain ⟨hlt, hy, hk'⟩ := Q5 hk
  unfold Len at hl
  refine O2 (l := qfz) rfl hR ?_
  unfold qes
  simp -implicitDefEqProofs -dsimp only [go_sem, seval, Int.ofNat_lt, hlt, Int.natCast_nonneg, Int.toNat_natCast, hy, ↓J0 _ _ qvv]
  refine cpn (z60 _) ?_
  simp -implicitDefEqProofs -dsimp only [go_sem, seval]
  refine J2 (fun h => ?_) (fun h => ?_)
  ·simp -implicitDefEqProofs -dsimp only [go_sem, seval, h]
   have : sg y.toNat = false := by simpa using h
   exact h1 (by simp [sgn, this])
  ·simp -implicitDefEqProofs -dsimp only [go_sem, seval, h]
   have : sg y.toNat = true := by simpa using h
   rw [K9 (by omega)]
   exact ih (k + 1) hk' hlt (fun h => h1 (by simpa [sgn, this] using h)) (fun h => h2 (by simpa [sgn, this] using h))
theorem qx0 (bs : List UInt8) (n : Int) (hl : Len bs.length) : PCalls prog qap [.s bs, .i .i64 n] (.b (sgn bs && decide ((bs.length : Int) <= n))) := by
 refine K5 Q7 qtz (by simp) fun T => ?_
 unfold qo6
 simp -implicitDefEqProofs -dsimp only [go_sem, seval]
 refine z3b (by repeat' (first | exact N5 _ _ | assumption | apply N4 | apply K7 | apply U1)) hl bs 0 rfl (by omega) (fun h => ?_) (fun h => ?_)
 ·simp -implicitDefEqProofs -dsimp only [go_sem, seval]
  exact K1 (by simp [h])
 ·simp -implicitDefEqProofs -dsimp only [go_sem, seval]
  exact K1 (by simp [h])
theorem qn1 (bs : List UInt8) (hl : Len bs.length) : PCalls prog q9m [.s bs] (.b (qdh bs)) := by
 refine K5 Q7 qtv (by simp) fun T => ?_
 unfold qo4
 simp -implicitDefEqProofs -dsimp only [go_sem, seval]
 refine J2 (fun h => ?_) (fun h => ?_)
 ·simp -implicitDefEqProofs -dsimp only [go_sem, seval, h, ↓N1, ↓J0 _ _ qo7]
  refine cpn (qx0 bs 32 hl) ?_
  simp -implicitDefEqProofs -dsimp only [go_sem, seval]
  exact K1 (by simp only [qdh, h, Bool.true_and])
 ·simp -implicitDefEqProofs -dsimp only [go_sem, seval, h, ↓N1, U6, true_and]
  exact K1 (by simp only [qdh, h, Bool.false_and])
theorem qud (bs : List UInt8) (hl : Len bs.length) : PCalls prog qa0 [.s bs] (.b (qvz bs)) := by
 refine K5 Q7 qqa (by simp) fun T => ?_
 unfold qi1
 simp -implicitDefEqProofs -dsimp only [go_sem, seval, ↓J0 _ _ qo7]
 refine cpn (qx0 bs 64 hl) ?_
 simp -implicitDefEqProofs -dsimp only [go_sem, seval]
 exact K1 rfl
def za1 : Nat -> List UInt8 -> Nat
 | h, [] => h
 | h, y :: ys => za1 ((h * 33) % 4294967296 ^^^ y.toNat) ys
def num (l : List UInt8) : Nat := za1 5381 l
theorem qp5 {h : Nat} (y : UInt8) : (h * 33) % 4294967296 ^^^ y.toNat < 4294967296 := by
 have h1 : (h * 33) % 4294967296 < 2 ^ 32 := Nat.mod_lt _ (by decide)
 have h2 : y.toNat < 2 ^ 32 := by have := y.toNat_lt; omega
 exact Nat.xor_lt_two_pow h1 h2
theorem z0k : ∀ (l : List UInt8) (h : Nat), h < 4294967296 -> za1 h l < 4294967296
 | [], h, hh => hh
 | y :: ys, h, hh => z0k ys _ (qp5 y)
theorem za2 (l : List UInt8) : num l < 4294967296 := z0k l _ (by decide)
theorem zcv {a b : Nat} (ha : a < 4294967296) (hb : b < 4294967296) : (BitVec.ofInt 32 (a : Int) ^^^ BitVec.ofInt 32 (b : Int)).toNat = a ^^^ b := by
 rw [BitVec.toNat_xor, BitVec.ofInt_natCast, BitVec.ofInt_natCast, BitVec.toNat_ofNat, BitVec.toNat_ofNat, Nat.mod_eq_of_lt ha, Nat.mod_eq_of_lt hb]
theorem zcw {a b : Nat} (ha : a < 18446744073709551616) (hb : b < 18446744073709551616) : (BitVec.ofInt 64 (a : Int) ^^^ BitVec.ofInt 64 (b : Int)).toNat = a ^^^ b := by
 rw [BitVec.toNat_xor, BitVec.ofInt_natCast, BitVec.ofInt_natCast, BitVec.toNat_ofNat, BitVec.toNat_ofNat, Nat.mod_eq_of_lt ha, Nat.mod_eq_of_lt hb]
theorem qn2 (n : Int) : IntKind.u32.wrap n = n % 4294967296 := by
 simp [IntKind.wrap, IntKind.signed, IntKind.bits]
theorem zcx (h : Nat) (y : UInt8) : IntKind.u32.wrap ((BitVec.ofInt IntKind.u32.bits (IntKind.u32.wrap ((h : Int) * 33)) ^^^ BitVec.ofInt IntKind.u32.bits (IntKind.u32.wrap (y.toNat : Int))).toNat : Nat) = (((h * 33) % 4294967296 ^^^ y.toNat : Nat) : Int) := by
 have hy : y.toNat < 256 := y.toNat_lt
 have e1 : IntKind.u32.wrap ((h : Int) * 33) = (((h * 33) % 4294967296 : Nat) : Int) := by rw [qn2]; omega
 have e2 : IntKind.u32.wrap (y.toNat : Int) = (y.toNat : Int) := by rw [qn2]; omega
 rw [e1, e2, show IntKind.u32.bits = 32 from rfl, zcv (Nat.mod_lt _ (by decide)) (by omega), qn2]
 have := qp5 (h := h) y
 omega
theorem zcy {h : Nat} (hh : h < 4294967296) (y : UInt8) : IntKind.i64.wrap ((BitVec.ofInt IntKind.i64.bits (Int.tmod (IntKind.i64.wrap ((h : Int) * 33)) 4294967296) ^^^ BitVec.ofInt IntKind.i64.bits (IntKind.i64.wrap (y.toNat : Int))).toNat : Nat) = (((h * 33) % 4294967296 ^^^ y.toNat : Nat) : Int) := by
 have hy : y.toNat < 256 := y.toNat_lt
 have e1 : IntKind.i64.wrap ((h : Int) * 33) = ((h * 33 : Nat) : Int) := by rw [q02 (by unfold I64; omega)]; omega
 have e2 : IntKind.i64.wrap (y.toNat : Int) = (y.toNat : Int) := q02 (by unfold I64; omega)
 have e3 : Int.tmod ((h * 33 : Nat) : Int) 4294967296 = (((h * 33) % 4294967296 : Nat) : Int) := by
  rw [Int.tmod_eq_emod_of_nonneg (by omega)]; omega
 rw [e1, e2, e3, show IntKind.i64.bits = 64 from rfl, zcw (by have := Nat.mod_lt (h * 33) (show 0 < 4294967296 by decide); omega) (by omega), q02]
 have := qp5 (h := h) y
 unfold I64; omega
theorem qy3 {R : Y5} (hR : ExtR R) {T : Tab} {bs : List UInt8} (hl : Len bs.length) : ∀ (ys : List UInt8) (k h : Nat), bs.drop k = ys -> k <= bs.length ->
  R (.exit 0) [(0, .s bs), (3, .i .u32 (za1 h ys)), (6, .i .i64 bs.length), (7, .i .i64 bs.length), (8, .b false)] [] T ->
  AW prog qew R [(0, .s bs), (3, .i .u32 h), (6, .i .i64 bs.length), (7, .i .i64 k)] [] T := by
 intro ys
 induction ys with
 | nil =>
  intro k h hk hle h2
  have hk' := O9 hk hle
  refine Q2 hR ?_
  unfold qdb
  simp -implicitDefEqProofs -dsimp only [go_sem, seval, hk', Int.lt_irrefl]
  rw [hk'] at h2
  exact h2
 | cons y ys ih =>
  intro k h hk hle h2
  obtain ⟨hlt, hy, hk'⟩ := Q5 hk
  unfold Len at hl
  refine O2 (l := qew) rfl hR ?_
  unfold qdb
  simp -implicitDefEqProofs -dsimp only [go_sem, seval, Int.ofNat_lt, hlt, Int.natCast_nonneg, Int.toNat_natCast, hy, zcx]
  rw [K9 (by omega)]
  exact ih (k + 1) _ hk' hlt h2
theorem qy4 (bs : List UInt8) (hl : Len bs.length) : PCalls prog qc8 [.s bs] (.i .u32 (num bs)) := by
 refine K5 Q7 qsr (by simp) fun T => ?_
 unfold qmu
 simp -implicitDefEqProofs -dsimp only [go_sem, seval]
 refine qy3 (h := 5381) (by repeat' (first | exact N5 _ _ | assumption | apply N4 | apply K7 | apply U1)) hl bs 0 rfl (by omega) ?_
 simp -implicitDefEqProofs -dsimp only [go_sem, seval]
 exact K1 rfl
end Go.Aw
