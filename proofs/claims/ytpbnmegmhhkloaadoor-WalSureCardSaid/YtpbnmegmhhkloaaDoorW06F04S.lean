import Derived.Test.YtpbnmegmhhkloaaDoorW06F04R
namespace Go.Aw
open Go
open Go.Proofs.Tryd (prog)
set_option linter.all false
set_option maxHeartbeats 4000000
def qvd (p : List UInt8 × Int) : Er := .flt p.1 (.num p.2)
def opE (b : List UInt8) : Option Er := match nxE b with
 | some p => some (.flt [111, 112, 101, 110] (qvd p))
 | none => if q5z b + 7 < b.length then some (.flt [98, 101, 104, 105, 110, 100] (.num 3)) else none
end Go.Aw
