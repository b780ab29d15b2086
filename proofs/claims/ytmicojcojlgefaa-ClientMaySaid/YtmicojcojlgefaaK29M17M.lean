import Derived.Test.YtmicojcojlgefaaK29M17L
namespace Go.Aw
open Go
open Go.Proofs.Try (prog)
set_option linter.all false
set_option maxHeartbeats 8000000
set_option maxRecDepth 8000

/-! A letter with slices of its own. -/
section
variable {γ : Type} (o : Lt γ) (x y w v : AV)
theorem cc_fk {f : γ → List AV} : (o.cells f)[0]? = some (.i .i64 o.fk) := rfl
end
end Go.Aw

