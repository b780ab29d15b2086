import Derived.Test.YtpbnmegmhhkloaaDoorW6H
namespace Go.Aw
open Go
open Go.Proofs.Tryd (prog)
set_option linter.all false
set_option maxHeartbeats 8000000
set_option maxRecDepth 8000
theorem Dw.wr {d d' : Dk} (h : Dw d) (hd' : d'.Ok) (hw : WrC d d') : Dw d' := ⟨hd', by have := hw.left; have := h.left; omega⟩
end Go.Aw
