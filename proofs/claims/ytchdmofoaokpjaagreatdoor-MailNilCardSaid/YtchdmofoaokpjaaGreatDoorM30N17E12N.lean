import Derived.Test.YtchdmofoaokpjaaGreatDoorAwD
import Derived.Test.YtchdmofoaokpjaaGreatDoorT30Txt
namespace Go.Aw
open Go
open Go.Proofs.Tryz (prog)
set_option linter.all false
set_option maxHeartbeats 4000000
def sg (c : Int) : Bool := decide (97 <= c) && decide (c <= 122) || decide (48 <= c) && decide (c <= 57) || decide (c = 95)
def sgn (l : List UInt8) : Bool := l.all fun b => sg b.toNat
def qok (l : List UInt8) : Bool := !decide (l = []) && (sgn l && decide ((l.length : Int) <= 32))
def qyb (l : List UInt8) : Bool := sgn l && decide ((l.length : Int) <= 64)
theorem z4l (c : Int) : PCalls prog qaq [.i .u8 c] (.b (sg c)) := by
 refine K5 Q9 qsi (by simp) fun T => ?_
 unfold ql1
 simp -implicitDefEqProofs -dsimp only [go_sem, seval, decide_true, decide_false]
 (first | (apply K0 <;> intro h_1 <;> simp -implicitDefEqProofs -dsimp only [go_sem, seval, decide_true, decide_false, h_1]) | (have h_1 := trivial)) <;>
  (first | (apply K0 <;> intro h_2 <;> simp -implicitDefEqProofs -dsimp only [go_sem, seval, decide_true, decide_false, h_1, h_2]) | (have h_2 := trivial)) <;>
  (first | (apply K0 <;> intro h_3 <;> simp -implicitDefEqProofs -dsimp only [go_sem, seval, decide_true, decide_false, h_1, h_2, h_3]) | (have h_3 := trivial)) <;>
  (first | (apply K0 <;> intro h_4 <;> simp -implicitDefEqProofs -dsimp only [go_sem, seval, decide_true, decide_false, h_1, h_2, h_3, h_4]) | (have h_4 := trivial)) <;>
  (first | (apply K0 <;> intro h_5 <;> simp -implicitDefEqProofs -dsimp only [go_sem, seval, decide_true, decide_false, h_1, h_2, h_3, h_4, h_5]) | (have h_5 := trivial)) <;>
  (first | (apply K0 <;> intro h_6 <;> simp -implicitDefEqProofs -dsimp only [go_sem, seval, decide_true, decide_false, h_1, h_2, h_3, h_4, h_5, h_6]) | (have h_6 := trivial))
 all_goals
  refine J9 ?_
  simp only [sg, *, Bool.not_true, Bool.not_false, Bool.true_and, Bool.false_and, Bool.and_false, Bool.and_true, Bool.or_true, Bool.true_or, Bool.false_or, Bool.or_false]
theorem z1d {R : I2} (hR : ExtR R) {T : Tab} {bs : List UInt8} {n : Int} (hl : Len bs.length) : ∀ (ys : List UInt8) (k : Nat), bs.drop k = ys -> k <= bs.length ->
  (sgn ys = false -> R .ret [(4, .b false)] [] T) ->
  (sgn ys = true -> R (.exit 0) [(0, .s bs), (1, .i .i64 n), (7, .i .i64 bs.length), (8, .i .i64 bs.length), (9, .b false)] [] T) ->
  AW prog qba R [(0, .s bs), (1, .i .i64 n), (7, .i .i64 bs.length), (8, .i .i64 k)] [] T := by
 intro ys
 induction ys with
 | nil =>
  intro k hk hle h1 h2
  have hk' := Y0 hk hle
  refine V1 hR ?_
  unfold q9p
  simp -implicitDefEqProofs -dsimp only [go_sem, seval, hk', Int.lt_irrefl]
  rw [hk'] at h2
  exact h2 rfl
 | cons y ys ih =>
  intro k hk hle h1 h2
  obtain ⟨hlt, hy, hk'⟩ := Y9 hk
  unfold Len at hl
  refine Q3 (l := qba) rfl hR ?_
  unfold q9p
  simp -implicitDefEqProofs -dsimp only [go_sem, seval, Int.ofNat_lt, hlt, Int.natCast_nonneg, Int.toNat_natCast, hy, ↓J0 _ _ qsj]
  refine cpn (z4l _) ?_
  simp -implicitDefEqProofs -dsimp only [go_sem, seval]
  refine K0 (fun h => ?_) (fun h => ?_)
  ·simp -implicitDefEqProofs -dsimp only [go_sem, seval, h]
   have : sg y.toNat = false := by simpa using h
   exact h1 (by simp [sgn, this])
  ·simp -implicitDefEqProofs -dsimp only [go_sem, seval, h]
   have : sg y.toNat = true := by simpa using h
   rw [Q0 (by omega)]
   exact ih (k + 1) hk' hlt (fun h => h1 (by simpa [sgn, this] using h)) (fun h => h2 (by simpa [sgn, this] using h))
theorem que (bs : List UInt8) (n : Int) (hl : Len bs.length) : PCalls prog q7e [.s bs, .i .i64 n] (.b (sgn bs && decide ((bs.length : Int) <= n))) := by
 refine K5 Q9 qqd (by simp) fun T => ?_
 unfold qil
 simp -implicitDefEqProofs -dsimp only [go_sem, seval]
 refine z1d (by repeat' (first | exact O7 _ _ | assumption | apply O6 | apply N6 | apply Y1)) hl bs 0 rfl (by omega) (fun h => ?_) (fun h => ?_)
 ·simp -implicitDefEqProofs -dsimp only [go_sem, seval]
  exact J9 (by simp [h])
 ·simp -implicitDefEqProofs -dsimp only [go_sem, seval]
  exact J9 (by simp [h])
theorem qqe (bs : List UInt8) (hl : Len bs.length) : PCalls prog q97 [.s bs] (.b (qok bs)) := by
 refine K5 Q9 qqb (by simp) fun T => ?_
 unfold qij
 simp -implicitDefEqProofs -dsimp only [go_sem, seval]
 refine K0 (fun h => ?_) (fun h => ?_)
 ·simp -implicitDefEqProofs -dsimp only [go_sem, seval, h, ↓Q4, ↓J0 _ _ qim]
  refine cpn (que bs 32 hl) ?_
  simp -implicitDefEqProofs -dsimp only [go_sem, seval]
  exact J9 (by simp only [qok, h, Bool.true_and])
 ·simp -implicitDefEqProofs -dsimp only [go_sem, seval, h, ↓Q4, I4, true_and]
  exact J9 (by simp only [qok, h, Bool.false_and])
theorem qqf (bs : List UInt8) (hl : Len bs.length) : PCalls prog q6j [.s bs] (.b (qyb bs)) := by
 refine K5 Q9 qkz (by simp) fun T => ?_
 unfold qcu
 simp -implicitDefEqProofs -dsimp only [go_sem, seval, ↓J0 _ _ qim]
 refine cpn (que bs 64 hl) ?_
 simp -implicitDefEqProofs -dsimp only [go_sem, seval]
 exact J9 rfl
def ze2 : Nat -> List UInt8 -> Nat
 | h, [] => h
 | h, y :: ys => ze2 ((h * 33) % 4294967296 ^^^ y.toNat) ys
def num (l : List UInt8) : Nat := ze2 5381 l
end Go.Aw
