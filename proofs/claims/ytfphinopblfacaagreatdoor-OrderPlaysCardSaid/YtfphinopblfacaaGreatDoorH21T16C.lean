import Derived.Test.YtfphinopblfacaaGreatDoorH21T16B
namespace Go.Aw
open Go
open Go.Proofs.Tryz (prog)
set_option linter.all false

def ourCh (l : List (Int × Bool)) : List Int := (l.take 10).map (·.1)
def ourFu (l : List (Int × Bool)) : List Bool := (l.take 10).map (·.2)
def Rf.ours (c : Rf) : Cf := ⟨c.ep, c.sh, ourCh c.l, ourFu c.l, c.ln⟩

theorem Wks.cf {a b c : AV} {n m : Nat} {x y : List AV} {k1 k2 : Option Nat} : Wks [a, b, .fz n x k1, .fz m y k2, c] [a, b, .fz n x none, .fz m y none, c] :=
  ⟨.refl _, .refl _, .fz, .fz, .refl _, trivial⟩

end Go.Aw
