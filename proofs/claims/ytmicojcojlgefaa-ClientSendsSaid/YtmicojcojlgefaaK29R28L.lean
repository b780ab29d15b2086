import Derived.Test.YtmicojcojlgefaaK29R28K
namespace Go.Aw
open Go
open Go.Proofs.Try (prog)
set_option linter.all false
set_option maxHeartbeats 4000000

end Go.Aw

