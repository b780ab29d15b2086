import Derived.Test.YtpbnmegmhhkloaaDoorW6C
namespace Go.Aw
open Go
open Go.Proofs.Tryd (prog)
set_option linter.all false
set_option maxHeartbeats 4000000
theorem qku {d : Dk} (h : d.Ok) {k0 k1 : Int} (h0 : 0 <= k0) (h1 : 0 <= k1) : Un (d.crash k0 k1) := ⟨Dk.crash_ok h h0 h1, rfl, rfl⟩
theorem qec {r : Int} (h : 10 <= r) (h2 : r <= 1048576) : V0 (Dk.new r) = (⟨0, 1, false⟩, [], ⟨r, ⟨frm (V5 1 0), none, 10⟩, ⟨[], some 0, 0⟩, false, false, 0⟩) := by
 have e : Dk.new r = ⟨r, ⟨[], some 0, 0⟩, ⟨[], some 0, 0⟩, false, false, 0⟩ := by
  unfold Dk.new
  rw [show min (max r 0) 1048576 = r by omega]
 have hc : U2 (Dk.new r) = none := by
  rw [e]
  unfold U2
  simp only [qb7]
 unfold V0
 rw [hc, e]
 rfl
end Go.Aw
