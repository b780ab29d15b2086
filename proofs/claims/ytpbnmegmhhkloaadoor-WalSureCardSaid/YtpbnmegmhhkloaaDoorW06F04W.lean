import Derived.Test.YtpbnmegmhhkloaaDoorW06F04V
namespace Go.Aw
open Go
open Go.Proofs.Tryd (prog)
set_option linter.all false
set_option maxHeartbeats 4000000
end Go.Aw
