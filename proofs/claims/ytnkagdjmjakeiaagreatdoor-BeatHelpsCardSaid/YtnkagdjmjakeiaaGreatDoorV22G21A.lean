import Derived.Test.YtnkagdjmjakeiaaGreatDoorV22O16A
namespace Go.Aw
open Go
open Go.Proofs.Tryz (prog)
set_option linter.all false
set_option maxHeartbeats 4000000
theorem qrm {T : Tab} {id : Nat} {s : RS} (h : T id = qhd s) : ACalls prog q0e [.ptr id 0] T (fun v T' => v = .b (!s.2 && decide (s.1 = [])) /\ T' = T) := by
 refine K6 O2 q9a (by simp) ?_
 have hr : T id = .row 2 [bts s.1 none, .b s.2] := h
 have d : decide ((s.1.length : Int) = 0) = decide (s.1 = []) := decide_eq_decide.2 (by rw [<- List.length_eq_zero_iff]; omega)
 unfold q4d
 simp -implicitDefEqProofs -dsimp only [go_sem, seval, ↓J1 _ _ q2u]
 refine can (qvo h) ?_
 rcases hb : s.2 with _ | _
 ·simp -implicitDefEqProofs -dsimp only [go_sem, seval, hb, hr, bts, d]
  exact K0 rfl
 ·simp -implicitDefEqProofs -dsimp only [go_sem, seval, hb]
  exact K0 rfl
end Go.Aw
namespace Go.Aw
open Go
open Go.Proofs.Tryz (prog)
set_option linter.all false
set_option maxHeartbeats 4000000
end Go.Aw
