import Derived.Test.YtfphinopblfacaaDoorG21O16B
import Derived.Test.YtfphinopblfacaaDoorAwD
namespace Go.Aw
open Go
open Go.Proofs.Tryd (prog)
set_option linter.all false
set_option maxHeartbeats 4000000

theorem encM_len {m : Int × Bool} (h : 0 ≤ m.1 ∧ m.1 < 8) : (encM m).length ≤ 11 := by
  have := enc_len10 (m := m.1.toNat) (by omega)
  simp only [encM, List.length_append, List.length_cons, List.length_nil]; omega

end Go.Aw
