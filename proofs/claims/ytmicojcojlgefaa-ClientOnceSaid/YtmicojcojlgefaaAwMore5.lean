import Derived.Test.YtmicojcojlgefaaK29M17A
/-
  A slice of which the length alone is told; a function that answers with such may be lent what one owns.
-/
namespace Go.Aw
open Go
variable [Glob]
set_option linter.all false

end Go.Aw

