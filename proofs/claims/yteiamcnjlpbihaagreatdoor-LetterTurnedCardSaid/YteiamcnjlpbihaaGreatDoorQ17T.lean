import Derived.Test.YteiamcnjlpbihaaGreatDoorN17T16J
import Derived.Test.YteiamcnjlpbihaaGreatDoorQ17N
import Derived.Test.YteiamcnjlpbihaaGreatDoorN17F04Y
import Derived.Test.YteiamcnjlpbihaaGreatDoorQ17H
namespace Go.Aw
open Go
open Go.Proofs.Tryz (prog)
set_option linter.all false
set_option maxHeartbeats 4000000
end Go.Aw
namespace Go.Aw
open Go
open Go.Proofs.Tryz (prog)
set_option linter.all false
set_option maxHeartbeats 8000000
set_option maxRecDepth 8000
end Go.Aw
namespace Go.Aw
open Go
open Go.Proofs.Tryz (prog)
set_option linter.all false
set_option maxHeartbeats 8000000
set_option maxRecDepth 8000
end Go.Aw
namespace Go.Aw
open Go
open Go.Proofs.Tryz (prog)
set_option linter.all false
set_option maxHeartbeats 8000000
set_option maxRecDepth 8000
theorem z5z (b : Bs) (cap : Option Nat) (hl : b.length <= 1000000) : PCalls prog qaq [bts b cap] (.tup [.agg (loA b).cc, .i .i64 (qd8 (loE b))]) := by
 refine K6 U7 qqs (by simp) fun T => ?_
 have h := z5y b cap hl
 have hc := qwb (loE b)
 generalize loA b = A at *
 unfold qjk
 rcases he : loE b with _ | e
 ·rw [he] at h hc
  simp only [qs1] at h hc
  generalize qd8 none = C at *
  simp -implicitDefEqProofs -dsimp only [go_sem, seval, ↓J0 _ _ qjp]
  refine cpn h ?_
  simp -implicitDefEqProofs -dsimp only [go_sem, seval, ↓J0 _ _ q9v]
  refine cpn hc ?_
  simp -implicitDefEqProofs -dsimp only [go_sem, seval]
  exact J9 rfl
 ·rw [he] at h hc
  obtain ⟨t, v, ev⟩ := e.ifc
  simp only [qs1, ev] at h hc
  generalize qd8 (some e) = C at *
  simp -implicitDefEqProofs -dsimp only [go_sem, seval, ↓J0 _ _ qjp]
  refine cpn h ?_
  simp -implicitDefEqProofs -dsimp only [go_sem, seval, ↓J0 _ _ q9v]
  refine cpn hc ?_
  simp -implicitDefEqProofs -dsimp only [go_sem, seval]
  exact J9 rfl
end Go.Aw
