import Derived.Test.YtchdmofoaokpjaaGreatDoorM30N17M17J
namespace Go.Aw
open Go
open Go.Proofs.Tryz (prog)
set_option linter.all false
set_option maxHeartbeats 8000000
set_option maxRecDepth 8000
def RfL (c : Rf) : Prop := Len c.l.length
def EnP (e : En) : Prop := e.t.Fine /\ 0 <= e.t.sq /\ 0 <= e.sq
structure Lt.Ref (l : Lt Rf) : Prop where
 vs : Len l.vs.length
 cs : Len l.cs.length
 es : Len l.es.length
 c : ∀ c ∈ l.cs, RfL c
 e : ∀ e ∈ l.es, EnP e
 t : l.t.Fine
 tq : 0 <= l.t.sq
 sq : 0 <= l.sq
end Go.Aw
