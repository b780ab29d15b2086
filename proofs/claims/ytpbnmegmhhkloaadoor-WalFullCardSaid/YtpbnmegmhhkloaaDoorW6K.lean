import Derived.Test.YtpbnmegmhhkloaaDoorW6J
namespace Go.Aw
open Go
open Go.Proofs.Tryd (prog)
set_option linter.all false
set_option maxHeartbeats 8000000
set_option maxRecDepth 8000
theorem qtj {T0 T : Tab} {did lid : Nat} {d : Dk} {w : Wl} (h : TabLe T0 T) (h1 : T0 did = .unused) (h2 : T lid = .unused) : TabLe T0 (tL T did lid d w) := TabLe.tL h h1 (h.unused h2)
end Go.Aw
