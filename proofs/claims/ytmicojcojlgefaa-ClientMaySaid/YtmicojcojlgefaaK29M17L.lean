import Derived.Test.YtmicojcojlgefaaK29M17H
namespace Go.Aw
open Go
open Go.Proofs.Try (prog)
set_option linter.all false
set_option maxHeartbeats 8000000
set_option maxRecDepth 8000

section
variable {γ : Type} {f : γ → List AV} (o : Lt γ)
end
end Go.Aw

