import Derived.Test.YtpbnmegmhhkloaaDoorW06E12A
namespace Go.Aw
open Go
open Go.Proofs.Tryd (prog)
set_option linter.all false
set_option maxHeartbeats 4000000
theorem qox {T : Tab} {id : Nat} {s : RS} (h : T id = qex s) : ACalls prog Z3 [.ptr id 0] T (fun v T' => v = .b (!s.2 && decide (s.1 = [])) /\ T' = T) := by
 refine K1 O5 q5p (by simp) ?_
 have hr : T id = .row 2 [bts s.1 none, .b s.2] := h
 have d : decide ((s.1.length : Int) = 0) = decide (s.1 = []) := decide_eq_decide.2 (by rw [<- List.length_eq_zero_iff]; omega)
 unfold q1r
 simp -implicitDefEqProofs -dsimp only [go_sem, seval, ↓J2 _ _ q0s]
 refine can (qss h) ?_
 rcases hb : s.2 with _ | _
 ·simp -implicitDefEqProofs -dsimp only [go_sem, seval, hb, hr, bts, d]
  exact J8 rfl
 ·simp -implicitDefEqProofs -dsimp only [go_sem, seval, hb]
  exact J8 rfl
end Go.Aw
