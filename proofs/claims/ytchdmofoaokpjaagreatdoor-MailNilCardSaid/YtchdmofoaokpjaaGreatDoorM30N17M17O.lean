import Derived.Test.YtchdmofoaokpjaaGreatDoorM30N17T16J
namespace Go.Aw
open Go
set_option linter.all false
set_option maxHeartbeats 8000000
set_option maxRecDepth 8000
end Go.Aw
