import Derived.Test.YtnkagdjmjakeiaaGreatDoorV22G21A
import Derived.Test.YtnkagdjmjakeiaaGreatDoorAwD
namespace Go.Aw
open Go
open Go.Proofs.Tryz (prog)
set_option linter.all false
set_option maxHeartbeats 4000000
structure Cf.Ok (c : Cf) : Prop where
 ep : 0 <= c.ep /\ c.ep < 18446744073709551616
 sh : 0 <= c.sh /\ c.sh < 4
 ch : c.ch.length <= 8
 fu : c.fu.length = c.ch.length
 ms : ∀ k ∈ c.ch, 0 <= k /\ k < 8
 ln : c.ln = -1 \/ (0 <= c.ln /\ c.ln < 8)
end Go.Aw
namespace Go.Aw
open Go
open Go.Proofs.Tryz (prog)
set_option linter.all false
set_option maxHeartbeats 4000000
end Go.Aw
namespace Go.Aw
open Go
open Go.Proofs.Tryz (prog)
set_option linter.all false
set_option maxHeartbeats 4000000
end Go.Aw
