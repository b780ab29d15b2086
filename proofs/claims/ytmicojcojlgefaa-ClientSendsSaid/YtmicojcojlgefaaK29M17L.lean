import Derived.Test.YtmicojcojlgefaaK29M17H
namespace Go.Aw
open Go
open Go.Proofs.Try (prog)
set_option linter.all false
set_option maxHeartbeats 8000000
set_option maxRecDepth 8000

section
variable {γ : Type} {f : γ → List AV} (o : Lt γ)
theorem cc_br : (o.cells f)[11]? = some (.i .u64 o.br) := rfl
theorem cc_bn : (o.cells f)[12]? = some (.i .i64 o.bn) := rfl
end
end Go.Aw

