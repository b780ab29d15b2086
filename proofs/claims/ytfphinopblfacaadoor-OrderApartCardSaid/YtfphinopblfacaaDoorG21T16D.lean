import Derived.Test.YtfphinopblfacaaDoorG21T16C
namespace Go.Aw
open Go
open Go.Proofs.Tryd (prog)
set_option linter.all false

/-- What Plain makes of a chain and its truths. -/
def plainF (fu : List Bool) : List Int → Nat → List (Int × Bool)
  | [], _ => []
  | y :: ys, k => (y, (fu[k]?).getD false) :: plainF fu ys (k + 1)
def Cf.plain (c : Cf) : Rf := ⟨c.ep, c.sh, plainF c.fu c.ch 0, c.ln⟩

theorem plainF_length (fu : List Bool) : ∀ (l : List Int) (k : Nat), (plainF fu l k).length = l.length
  | [], _ => rfl
  | _ :: l, k => by simp [plainF, plainF_length fu l (k + 1)]

end Go.Aw
