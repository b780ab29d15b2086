import Derived.Test.YtnkagdjmjakeiaaGreatDoorV2B
namespace Go.Aw
open Go
open Go.Proofs.Tryz (prog)
set_option linter.all false
set_option maxHeartbeats 8000000
set_option maxRecDepth 8000
section
variable {es : List Ev} {cap : Option Nat} {m : Int}
theorem qpr (hl : es.length <= 60) (n : Int) : U4 prog U5 [.fz es.length (es.flatMap evC) cap, .i .i64 m, .i .i64 n] (.b (qg3 (G2 m) (qbv (G2 m) es) n)) := by
 have := qrb es cap m n hl
 rw [qvi]
 exact this
end
section
variable {es : List Ev} {cap : Option Nat} {lm : Int} {T : Tab} {rid : Nat} {c : Cf}
end
end Go.Aw
