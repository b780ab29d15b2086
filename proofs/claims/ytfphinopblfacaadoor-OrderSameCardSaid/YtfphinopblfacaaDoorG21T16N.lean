import Derived.Test.YtfphinopblfacaaDoorG21T16M
import Derived.Test.YtfphinopblfacaaDoorG21T16J
namespace Go.Aw
open Go
open Go.Proofs.Tryd (prog)
set_option linter.all false
set_option maxHeartbeats 4000000

def Cf.turn (c : Cf) (kind n ep : Int) : Cf × Int := if kind = 0 then c.remove n ep else if kind = 1 then c.learn n ep else if kind = 2 then c.promote n ep else c.mark n
def Rf.turn (c : Rf) (kind n ep : Int) : Rf × Int := if kind = 0 then c.remove n ep else if kind = 1 then c.learn n ep else if kind = 2 then c.promote n ep else c.mark n

def turnR (r : Cf × Int) (s : Rf × Int) : AV := .tup [.agg (r.1.cells none none), .i .i64 r.2, .agg (s.1.cells none), .i .i64 s.2]

end Go.Aw
