import Derived.Test.YtfphinopblfacaaGreatDoorH21O16B
import Derived.Test.YtfphinopblfacaaGreatDoorAwD
namespace Go.Aw
open Go
open Go.Proofs.Tryz (prog)
set_option linter.all false
set_option maxHeartbeats 4000000

theorem encM_len {m : Int × Bool} (h : 0 ≤ m.1 ∧ m.1 < 8) : (encM m).length ≤ 11 := by
  have := enc_len10 (m := m.1.toNat) (by omega)
  simp only [encM, List.length_append, List.length_cons, List.length_nil]; omega

end Go.Aw

namespace Go.Aw
open Go
open Go.Proofs.Tryz (prog)
set_option linter.all false
set_option maxHeartbeats 4000000

def zCf : List AV := [.i .u64 0, .i .i64 0, .fz 0 [] (some 0), .fz 0 [] (some 0), .i .i64 0]
def rCfOk (s : RS) : Bool := !(rCf s).2.2 && (rCf s).1.right
def cf00 : Cf := ⟨0, 0, [], [], 0⟩
def rCfAns (s : RS) : Cf := if rCfOk s = true then (rCf s).1 else cf00
theorem Wks.cf5 {a b c : AV} {n m : Nat} {x y : List AV} {k1 k2 : Option Nat} : Wks [a, b, .fz n x k1, .fz m y k2, c] [a, b, .fz n x none, .fz m y none, c] :=
  ⟨.refl _, .refl _, .fz, .fz, .refl _, trivial⟩

end Go.Aw
