import Derived.Test.YtmicojcojlgefaaK29S12P
namespace Go.Aw
open Go
open Go.Proofs.Try (prog)
set_option linter.all false
set_option maxHeartbeats 4000000

/-! The document's own answers on keys and transactions. -/
end Go.Aw

