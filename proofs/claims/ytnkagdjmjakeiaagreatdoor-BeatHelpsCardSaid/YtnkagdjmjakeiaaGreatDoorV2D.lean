import Derived.Test.YtnkagdjmjakeiaaGreatDoorV2C
namespace Go.Aw
open Go
open Go.Proofs.Tryz (prog)
set_option linter.all false
set_option maxHeartbeats 8000000
set_option maxRecDepth 8000
section
variable {es : List Ev} {cap : Option Nat} {lm : Int} {T : Tab} {rid : Nat} {c : Cf}
end
end Go.Aw
