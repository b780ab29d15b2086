import Derived.Test.YtmicojcojlgefaaK29S12T
import Derived.Test.YtmicojcojlgefaaK29S12S
namespace Go.Aw
open Go
open Go.Proofs.Try (prog)
set_option linter.all false
set_option maxHeartbeats 4000000
theorem qru {R : I2} (hR : ExtR R) {T : Tab} {xs : List Rd} {c1 c2 : Option Nat} {a1 a2 a3 a4 b1 b2 b3 b4 : AV} (hl : xs.length < 1000000000) : ∀ (ys : List Rd) (k : Nat), xs.drop k = ys -> k <= xs.length ->
  (R (.exit 0) [(2, .lp 2 0), (3, .lp 3 0), (39, .i .i64 xs.length), (40, .i .i64 xs.length), (41, .b false)] [(2, [a1, a2, a3, .fz xs.length (xs.flatMap rdC) c1, a4]), (3, [b1, b2, b3, .fz xs.length (xs.flatMap rdC) c2, b4])] T) ->
  AW prog q2u R [(2, .lp 2 0), (3, .lp 3 0), (39, .i .i64 xs.length), (40, .i .i64 k)] [(2, [a1, a2, a3, .fz xs.length (xs.flatMap rdC) c1, a4]), (3, [b1, b2, b3, .fz xs.length (xs.flatMap rdC) c2, b4])] T := by
 intro ys
 induction ys with
 | nil =>
  intro k hk hle h2
  have hk' := V0 hk hle
  refine V7 hR ?_
  unfold q2a
  simp -implicitDefEqProofs -dsimp only [go_sem, seval, hk', Int.lt_irrefl]
  rw [hk'] at h2
  exact h2
 | cons y ys ih =>
  intro k hk hle h2
  obtain ⟨hlt, hy, hk'⟩ := V8 hk
  have hc := I4 q4z hy
  have hc5 : k * 2 + 2 <= (xs.flatMap rdC).length := by rw [O1 q4z]; omega
  refine Q4 (l := q2u) rfl hR ?_
  unfold q2a
  simp -implicitDefEqProofs -dsimp only [go_sem, seval, Int.ofNat_lt, hlt, Int.natCast_nonneg, Int.toNat_natCast, hc, hc5, rdC, List.cons_append, List.nil_append, Y7, N8, decide_true, Bool.and_true]
  rw [O7 (by omega)]
  exact ih (k + 1) hk' hlt h2
theorem qrv {R : I2} (hR : ExtR R) {T : Tab} {xs : List Wt} {c1 c2 : Option Nat} {a1 a2 a3 a4 b1 b2 b3 b4 : AV} (hl : xs.length < 1000000000) : ∀ (ys : List Wt) (k : Nat), xs.drop k = ys -> k <= xs.length ->
  (R (.exit 2) [(2, .lp 2 0), (3, .lp 3 0), (57, .i .i64 xs.length), (58, .i .i64 xs.length), (59, .b false)] [(2, [a1, a2, a3, a4, .fz xs.length (xs.flatMap wtC) c1]), (3, [b1, b2, b3, b4, .fz xs.length (xs.flatMap wtC) c2])] T) ->
  AW prog q2v R [(2, .lp 2 0), (3, .lp 3 0), (57, .i .i64 xs.length), (58, .i .i64 k)] [(2, [a1, a2, a3, a4, .fz xs.length (xs.flatMap wtC) c1]), (3, [b1, b2, b3, b4, .fz xs.length (xs.flatMap wtC) c2])] T := by
 intro ys
 induction ys with
 | nil =>
  intro k hk hle h2
  have hk' := V0 hk hle
  refine V7 hR ?_
  unfold q2b
  simp -implicitDefEqProofs -dsimp only [go_sem, seval, hk', Int.lt_irrefl]
  rw [hk'] at h2
  exact h2
 | cons y ys ih =>
  intro k hk hle h2
  obtain ⟨hlt, hy, hk'⟩ := V8 hk
  have hc := I4 q3z hy
  have hc5 : k * 3 + 3 <= (xs.flatMap wtC).length := by rw [O1 q3z]; omega
  have hbb : ∀ b : Bool, (b == b) = true := fun b => by cases b <;> rfl
  refine Q4 (l := q2v) rfl hR ?_
  unfold q2b
  simp -implicitDefEqProofs -dsimp only [go_sem, seval, Int.ofNat_lt, hlt, Int.natCast_nonneg, Int.toNat_natCast, hc, hc5, wtC, List.cons_append, List.nil_append, Y7, N8, decide_true, Bool.and_true, hbb]
  rw [O7 (by omega)]
  exact ih (k + 1) hk' hlt h2
theorem qhe (t : Tx) (k1 k2 k3 k4 : Option Nat) (hf : t.Fine) : PCalls prog q1f [.agg (t.cells k1 k2), .agg (t.cells k3 k4)] (.b true) := by
 refine K4 U6 q9r (by simp) fun T => ?_
 have hbb : ∀ b : Bool, (b == b) = true := fun b => by cases b <;> rfl
 unfold q5r
 simp -implicitDefEqProofs -dsimp only [go_sem, seval, Tx.cells, Y7, N8, decide_true, decide_false, Bool.and_true, hbb, ↓O0, Y4]
 refine qru (T := T) (by repeat' (first | exact O9 _ _ | assumption | apply O8 | apply N9 | apply Z5)) hf.r t.rs 0 rfl (by omega) ?_
 simp -implicitDefEqProofs -dsimp only [go_sem, seval]
 refine qrv (T := T) (by repeat' (first | exact O9 _ _ | assumption | apply O8 | apply N9 | apply Z5)) hf.w t.ws 0 rfl (by omega) ?_
 simp -implicitDefEqProofs -dsimp only [go_sem, seval]
 exact K2 rfl
end Go.Aw
