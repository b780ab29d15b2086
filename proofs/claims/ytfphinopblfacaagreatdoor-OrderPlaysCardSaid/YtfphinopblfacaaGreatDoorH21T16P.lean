import Derived.Test.YtfphinopblfacaaGreatDoorH21T16O
namespace Go.Aw
open Go
open Go.Proofs.Tryz (prog)
set_option linter.all false
set_option maxHeartbeats 4000000

end Go.Aw
