import Derived.Test.YtchdmofoaokpjaaGreatDoorM30N17M17K
namespace Go.Aw
open Go
open Go.Proofs.Tryz (prog)
set_option linter.all false
set_option maxHeartbeats 8000000
set_option maxRecDepth 8000
section
variable {γ : Type} {f : γ -> List AV} (o : Lt γ)
end
end Go.Aw
