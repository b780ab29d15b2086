import Derived.Test.YteiamcnjlpbihaaGreatDoorAwD
import Derived.Test.YteiamcnjlpbihaaGreatDoorT17dTxt
namespace Go.Aw
open Go
open Go.Proofs.Tryz (prog)
set_option linter.all false
set_option maxHeartbeats 4000000
def sg (c : Int) : Bool := decide (97 <= c) && decide (c <= 122) || decide (48 <= c) && decide (c <= 57) || decide (c = 95)
def sgn (l : List UInt8) : Bool := l.all fun b => sg b.toNat
def qez (l : List UInt8) : Bool := !decide (l = []) && (sgn l && decide ((l.length : Int) <= 32))
def qte (l : List UInt8) : Bool := sgn l && decide ((l.length : Int) <= 64)
theorem z7l (c : Int) : PCalls prog qdl [.i .u8 c] (.b (sg c)) := by
 refine K6 U7 qvm (by simp) fun T => ?_
 unfold qo4
 simp -implicitDefEqProofs -dsimp only [go_sem, seval, decide_true, decide_false]
 (first | (apply J2 <;> intro h_1 <;> simp -implicitDefEqProofs -dsimp only [go_sem, seval, decide_true, decide_false, h_1]) | (have h_1 := trivial)) <;>
  (first | (apply J2 <;> intro h_2 <;> simp -implicitDefEqProofs -dsimp only [go_sem, seval, decide_true, decide_false, h_1, h_2]) | (have h_2 := trivial)) <;>
  (first | (apply J2 <;> intro h_3 <;> simp -implicitDefEqProofs -dsimp only [go_sem, seval, decide_true, decide_false, h_1, h_2, h_3]) | (have h_3 := trivial)) <;>
  (first | (apply J2 <;> intro h_4 <;> simp -implicitDefEqProofs -dsimp only [go_sem, seval, decide_true, decide_false, h_1, h_2, h_3, h_4]) | (have h_4 := trivial)) <;>
  (first | (apply J2 <;> intro h_5 <;> simp -implicitDefEqProofs -dsimp only [go_sem, seval, decide_true, decide_false, h_1, h_2, h_3, h_4, h_5]) | (have h_5 := trivial)) <;>
  (first | (apply J2 <;> intro h_6 <;> simp -implicitDefEqProofs -dsimp only [go_sem, seval, decide_true, decide_false, h_1, h_2, h_3, h_4, h_5, h_6]) | (have h_6 := trivial))
 all_goals
  refine J9 ?_
  simp only [sg, *, Bool.not_true, Bool.not_false, Bool.true_and, Bool.false_and, Bool.and_false, Bool.and_true, Bool.or_true, Bool.true_or, Bool.false_or, Bool.or_false]
theorem z4h {R : Z1} (hR : ExtR R) {T : Tab} {bs : List UInt8} {n : Int} (hl : Len bs.length) : ∀ (ys : List UInt8) (k : Nat), bs.drop k = ys -> k <= bs.length ->
  (sgn ys = false -> R .ret [(4, .b false)] [] T) ->
  (sgn ys = true -> R (.exit 0) [(0, .s bs), (1, .i .i64 n), (7, .i .i64 bs.length), (8, .i .i64 bs.length), (9, .b false)] [] T) ->
  AW prog qee R [(0, .s bs), (1, .i .i64 n), (7, .i .i64 bs.length), (8, .i .i64 k)] [] T := by
 intro ys
 induction ys with
 | nil =>
  intro k hk hle h1 h2
  have hk' := U3 hk hle
  refine U1 hR ?_
  unfold qcg
  simp -implicitDefEqProofs -dsimp only [go_sem, seval, hk', Int.lt_irrefl]
  rw [hk'] at h2
  exact h2 rfl
 | cons y ys ih =>
  intro k hk hle h1 h2
  obtain ⟨hlt, hy, hk'⟩ := U9 hk
  unfold Len at hl
  refine O4 (l := qee) rfl hR ?_
  unfold qcg
  simp -implicitDefEqProofs -dsimp only [go_sem, seval, Int.ofNat_lt, hlt, Int.natCast_nonneg, Int.toNat_natCast, hy, ↓J0 _ _ qvn]
  refine cpn (z7l _) ?_
  simp -implicitDefEqProofs -dsimp only [go_sem, seval]
  refine J2 (fun h => ?_) (fun h => ?_)
  ·simp -implicitDefEqProofs -dsimp only [go_sem, seval, h]
   have : sg y.toNat = false := by simpa using h
   exact h1 (by simp [sgn, this])
  ·simp -implicitDefEqProofs -dsimp only [go_sem, seval, h]
   have : sg y.toNat = true := by simpa using h
   rw [N6 (by omega)]
   exact ih (k + 1) hk' hlt (fun h => h1 (by simpa [sgn, this] using h)) (fun h => h2 (by simpa [sgn, this] using h))
theorem qwy (bs : List UInt8) (n : Int) (hl : Len bs.length) : PCalls prog q9p [.s bs, .i .i64 n] (.b (sgn bs && decide ((bs.length : Int) <= n))) := by
 refine K6 U7 qtd (by simp) fun T => ?_
 unfold qlu
 simp -implicitDefEqProofs -dsimp only [go_sem, seval]
 refine z4h (by repeat' (first | exact N8 _ _ | assumption | apply N7 | apply K8 | apply V0)) hl bs 0 rfl (by omega) (fun h => ?_) (fun h => ?_)
 ·simp -implicitDefEqProofs -dsimp only [go_sem, seval]
  exact J9 (by simp [h])
 ·simp -implicitDefEqProofs -dsimp only [go_sem, seval]
  exact J9 (by simp [h])
theorem qtf (bs : List UInt8) (hl : Len bs.length) : PCalls prog qbw [.s bs] (.b (qez bs)) := by
 refine K6 U7 qtb (by simp) fun T => ?_
 unfold qls
 simp -implicitDefEqProofs -dsimp only [go_sem, seval]
 refine J2 (fun h => ?_) (fun h => ?_)
 ·simp -implicitDefEqProofs -dsimp only [go_sem, seval, h, ↓O9, ↓J0 _ _ qlv]
  refine cpn (qwy bs 32 hl) ?_
  simp -implicitDefEqProofs -dsimp only [go_sem, seval]
  exact J9 (by simp only [qez, h, Bool.true_and])
 ·simp -implicitDefEqProofs -dsimp only [go_sem, seval, h, ↓O9, Z3, true_and]
  exact J9 (by simp only [qez, h, Bool.false_and])
theorem qtg (bs : List UInt8) (hl : Len bs.length) : PCalls prog q8n [.s bs] (.b (qte bs)) := by
 refine K6 U7 qo0 (by simp) fun T => ?_
 unfold qg0
 simp -implicitDefEqProofs -dsimp only [go_sem, seval, ↓J0 _ _ qlv]
 refine cpn (qwy bs 64 hl) ?_
 simp -implicitDefEqProofs -dsimp only [go_sem, seval]
 exact J9 rfl
def zgv : Nat -> List UInt8 -> Nat
 | h, [] => h
 | h, y :: ys => zgv ((h * 33) % 4294967296 ^^^ y.toNat) ys
def num (l : List UInt8) : Nat := zgv 5381 l
end Go.Aw
