import Derived.Test.YtfphinopblfacaaDoorG21O16C
namespace Go.Aw
open Go
open Go.Proofs.Tryd (prog)
set_option linter.all false
set_option maxHeartbeats 4000000

def zCf : List AV := [.i .u64 0, .i .i64 0, .fz 0 [] (some 0), .fz 0 [] (some 0), .i .i64 0]
def rCfOk (s : RS) : Bool := !(rCf s).2.2 && (rCf s).1.right
def cf00 : Cf := ⟨0, 0, [], [], 0⟩
def rCfAns (s : RS) : Cf := if rCfOk s = true then (rCf s).1 else cf00
theorem Wks.cf5 {a b c : AV} {n m : Nat} {x y : List AV} {k1 k2 : Option Nat} : Wks [a, b, .fz n x k1, .fz m y k2, c] [a, b, .fz n x none, .fz m y none, c] :=
  ⟨.refl _, .refl _, .fz, .fz, .refl _, trivial⟩

end Go.Aw
