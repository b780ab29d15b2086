import Derived.Test.YtchdmofoaokpjaaGreatDoorAwD
import Derived.Test.YtchdmofoaokpjaaGreatDoorT30Txt
namespace Go.Aw
open Go
open Go.Proofs.Tryz (prog)
set_option linter.all false
set_option maxHeartbeats 4000000
def sg (c : Int) : Bool := decide (97 <= c) && decide (c <= 122) || decide (48 <= c) && decide (c <= 57) || decide (c = 95)
def sgn (l : List UInt8) : Bool := l.all fun b => sg b.toNat
def qoo (l : List UInt8) : Bool := !decide (l = []) && (sgn l && decide ((l.length : Int) <= 32))
def qyj (l : List UInt8) : Bool := sgn l && decide ((l.length : Int) <= 64)
theorem z54 (c : Int) : PCalls prog qb1 [.i .u8 c] (.b (sg c)) := by
 refine K6 U1 qsl (by simp) fun T => ?_
 unfold ql6
 simp -implicitDefEqProofs -dsimp only [go_sem, seval, decide_true, decide_false]
 (first | (apply K0 <;> intro h_1 <;> simp -implicitDefEqProofs -dsimp only [go_sem, seval, decide_true, decide_false, h_1]) | (have h_1 := trivial)) <;>
  (first | (apply K0 <;> intro h_2 <;> simp -implicitDefEqProofs -dsimp only [go_sem, seval, decide_true, decide_false, h_1, h_2]) | (have h_2 := trivial)) <;>
  (first | (apply K0 <;> intro h_3 <;> simp -implicitDefEqProofs -dsimp only [go_sem, seval, decide_true, decide_false, h_1, h_2, h_3]) | (have h_3 := trivial)) <;>
  (first | (apply K0 <;> intro h_4 <;> simp -implicitDefEqProofs -dsimp only [go_sem, seval, decide_true, decide_false, h_1, h_2, h_3, h_4]) | (have h_4 := trivial)) <;>
  (first | (apply K0 <;> intro h_5 <;> simp -implicitDefEqProofs -dsimp only [go_sem, seval, decide_true, decide_false, h_1, h_2, h_3, h_4, h_5]) | (have h_5 := trivial)) <;>
  (first | (apply K0 <;> intro h_6 <;> simp -implicitDefEqProofs -dsimp only [go_sem, seval, decide_true, decide_false, h_1, h_2, h_3, h_4, h_5, h_6]) | (have h_6 := trivial))
 all_goals
  refine J9 ?_
  simp only [sg, *, Bool.not_true, Bool.not_false, Bool.true_and, Bool.false_and, Bool.and_false, Bool.and_true, Bool.or_true, Bool.true_or, Bool.false_or, Bool.or_false]
theorem z1r {R : G9} (hR : ExtR R) {T : Tab} {bs : List UInt8} {n : Int} (hl : Len bs.length) : ∀ (ys : List UInt8) (k : Nat), bs.drop k = ys -> k <= bs.length ->
  (sgn ys = false -> R .ret [(4, .b false)] [] T) ->
  (sgn ys = true -> R (.exit 0) [(0, .s bs), (1, .i .i64 n), (7, .i .i64 bs.length), (8, .i .i64 bs.length), (9, .b false)] [] T) ->
  AW prog qbl R [(0, .s bs), (1, .i .i64 n), (7, .i .i64 bs.length), (8, .i .i64 k)] [] T := by
 intro ys
 induction ys with
 | nil =>
  intro k hk hle h1 h2
  have hk' := V6 hk hle
  refine V1 hR ?_
  unfold q9y
  simp -implicitDefEqProofs -dsimp only [go_sem, seval, hk', Int.lt_irrefl]
  rw [hk'] at h2
  exact h2 rfl
 | cons y ys ih =>
  intro k hk hle h1 h2
  obtain ⟨hlt, hy, hk'⟩ := Y6 hk
  unfold Len at hl
  refine Q1 (l := qbl) rfl hR ?_
  unfold q9y
  simp -implicitDefEqProofs -dsimp only [go_sem, seval, Int.ofNat_lt, hlt, Int.natCast_nonneg, Int.toNat_natCast, hy, ↓J0 _ _ qsm]
  refine cpn (z54 _) ?_
  simp -implicitDefEqProofs -dsimp only [go_sem, seval]
  refine K0 (fun h => ?_) (fun h => ?_)
  ·simp -implicitDefEqProofs -dsimp only [go_sem, seval, h]
   have : sg y.toNat = false := by simpa using h
   exact h1 (by simp [sgn, this])
  ·simp -implicitDefEqProofs -dsimp only [go_sem, seval, h]
   have : sg y.toNat = true := by simpa using h
   rw [O8 (by omega)]
   exact ih (k + 1) hk' hlt (fun h => h1 (by simpa [sgn, this] using h)) (fun h => h2 (by simpa [sgn, this] using h))
theorem quh (bs : List UInt8) (n : Int) (hl : Len bs.length) : PCalls prog q7m [.s bs, .i .i64 n] (.b (sgn bs && decide ((bs.length : Int) <= n))) := by
 refine K6 U1 qqg (by simp) fun T => ?_
 unfold qik
 simp -implicitDefEqProofs -dsimp only [go_sem, seval]
 refine z1r (by repeat' (first | exact O6 _ _ | assumption | apply O5 | apply N4 | apply V8)) hl bs 0 rfl (by omega) (fun h => ?_) (fun h => ?_)
 ·simp -implicitDefEqProofs -dsimp only [go_sem, seval]
  exact J9 (by simp [h])
 ·simp -implicitDefEqProofs -dsimp only [go_sem, seval]
  exact J9 (by simp [h])
theorem qqh (bs : List UInt8) (hl : Len bs.length) : PCalls prog q9e [.s bs] (.b (qoo bs)) := by
 refine K6 U1 qqe (by simp) fun T => ?_
 unfold qii
 simp -implicitDefEqProofs -dsimp only [go_sem, seval]
 refine K0 (fun h => ?_) (fun h => ?_)
 ·simp -implicitDefEqProofs -dsimp only [go_sem, seval, h, ↓Q2, ↓J0 _ _ qil]
  refine cpn (quh bs 32 hl) ?_
  simp -implicitDefEqProofs -dsimp only [go_sem, seval]
  exact J9 (by simp only [qoo, h, Bool.true_and])
 ·simp -implicitDefEqProofs -dsimp only [go_sem, seval, h, ↓Q2, I2, true_and]
  exact J9 (by simp only [qoo, h, Bool.false_and])
theorem qqi (bs : List UInt8) (hl : Len bs.length) : PCalls prog q6v [.s bs] (.b (qyj bs)) := by
 refine K6 U1 ql4 (by simp) fun T => ?_
 unfold qd3
 simp -implicitDefEqProofs -dsimp only [go_sem, seval, ↓J0 _ _ qil]
 refine cpn (quh bs 64 hl) ?_
 simp -implicitDefEqProofs -dsimp only [go_sem, seval]
 exact J9 rfl
def zem : Nat -> List UInt8 -> Nat
 | h, [] => h
 | h, y :: ys => zem ((h * 33) % 4294967296 ^^^ y.toNat) ys
def num (l : List UInt8) : Nat := zem 5381 l
end Go.Aw
