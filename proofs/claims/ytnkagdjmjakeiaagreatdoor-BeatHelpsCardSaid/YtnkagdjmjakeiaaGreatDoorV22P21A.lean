import Derived.Test.YtnkagdjmjakeiaaGreatDoorV22R28X
import Derived.Test.YtnkagdjmjakeiaaGreatDoorV22T16Q
namespace Go.Aw
open Go
open Go.Proofs.Tryz (prog)
set_option linter.all false
set_option maxHeartbeats 4000000
def qz0 (l : List Rf) : List AV := l.flatMap fun c => c.cells none
def Os.rL (o : Os) : List Rf := o.cs.map Cf.plain
def RSt (T : Tab) (id idC : Nat) (o : Os) : Prop := T id = o.row idC /\ T idC = .row 4 (qz0 o.rL)
theorem RSt.ne {T : Tab} {id idC : Nat} {o : Os} (h : RSt T id idC o) : id ≠ idC := fun e => by
 have := h.1; rw [e, h.2] at this; cases this
end Go.Aw
