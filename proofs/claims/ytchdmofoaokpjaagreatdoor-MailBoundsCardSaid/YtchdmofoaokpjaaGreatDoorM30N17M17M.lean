import Derived.Test.YtchdmofoaokpjaaGreatDoorM30N17M17L
namespace Go.Aw
open Go
open Go.Proofs.Tryz (prog)
set_option linter.all false
set_option maxHeartbeats 8000000
set_option maxRecDepth 8000
section
variable {γ : Type} (o : Lt γ) (x y w v : AV)
theorem zb3 {f : γ -> List AV} : (o.cells f)[0]? = some (.i .i64 o.fk) := rfl
theorem zb4 {f : γ -> List AV} : (o.cells f)[1]? = some (.i .i64 o.fn) := rfl
theorem zb5 {f : γ -> List AV} : (o.cells f)[2]? = some (.i .i64 o.tk) := rfl
theorem zb6 {f : γ -> List AV} : (o.cells f)[3]? = some (.i .i64 o.tn) := rfl
attribute [go_sem] zb3 zb4 zb5 zb6
end
end Go.Aw
