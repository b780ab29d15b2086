import Derived.Test.YtnkagdjmjakeiaaGreatDoorV2D
namespace Go.Aw
open Go
open Go.Proofs.Tryz (prog)
set_option linter.all false
set_option maxHeartbeats 8000000
set_option maxRecDepth 8000
section
variable {es : List Ev} {cap : Option Nat} {lm : Int} {T : Tab} {rid ridC : Nat} {o : Os}
end
end Go.Aw
