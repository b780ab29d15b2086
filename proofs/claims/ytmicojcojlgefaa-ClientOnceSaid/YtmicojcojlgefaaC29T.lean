import Derived.Test.YtmicojcojlgefaaC29S
namespace Go.Aw
open Go
open Go.Proofs.Try (prog)
set_option linter.all false
set_option maxHeartbeats 8000000
set_option maxRecDepth 8000

theorem evC_len (e : Ev) : (evC e).length = 32 := rfl
end Go.Aw

