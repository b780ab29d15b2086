import Derived.Test.YtnkagdjmjakeiaaGreatDoorV22P21A
namespace Go.Aw
open Go
open Go.Proofs.Tryz (prog)
set_option linter.all false
set_option maxHeartbeats 4000000
def Rf.chg (o : Os) (c : Cm) (old : Rf) : Rf × Int := if c.k = 1 then old.remove c.nd (IntKind.u64.wrap (o.ct + 1)) else if c.k = 2 then old.learn c.nd (IntKind.u64.wrap (o.ct + 1)) else if c.k = 3 then old.promote c.nd (IntKind.u64.wrap (o.ct + 1)) else old.mark c.nd
end Go.Aw
