import Derived.Test.YtmicojcojlgefaaK29T16B
namespace Go.Aw
open Go
open Go.Proofs.Try (prog)
set_option linter.all false

theorem Wks.cf {a b c : AV} {n m : Nat} {x y : List AV} {k1 k2 : Option Nat} : Wks [a, b, .fz n x k1, .fz m y k2, c] [a, b, .fz n x none, .fz m y none, c] :=
  ⟨.refl _, .refl _, .fz, .fz, .refl _, trivial⟩

end Go.Aw

