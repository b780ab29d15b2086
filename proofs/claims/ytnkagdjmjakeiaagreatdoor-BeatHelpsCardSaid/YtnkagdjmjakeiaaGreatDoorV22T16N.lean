import Derived.Test.YtnkagdjmjakeiaaGreatDoorV22T16M
import Derived.Test.YtnkagdjmjakeiaaGreatDoorV22T16J
namespace Go.Aw
open Go
open Go.Proofs.Tryz (prog)
set_option linter.all false
set_option maxHeartbeats 4000000
end Go.Aw
