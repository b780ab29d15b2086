import Derived.Test.YtchdmofoaokpjaaGreatDoorM30N17M17K
namespace Go.Aw
open Go
open Go.Proofs.Tryz (prog)
set_option linter.all false
set_option maxHeartbeats 8000000
set_option maxRecDepth 8000
section
variable {γ : Type} {f : γ -> List AV} (o : Lt γ)
theorem zdo : (o.cells f)[11]? = some (.i .u64 o.br) := rfl
theorem zdp : (o.cells f)[12]? = some (.i .i64 o.bn) := rfl
attribute [go_sem] zdo zdp
end
end Go.Aw
