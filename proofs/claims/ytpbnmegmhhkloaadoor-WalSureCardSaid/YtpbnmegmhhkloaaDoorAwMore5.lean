import Derived.Test.YtpbnmegmhhkloaaDoorAwMore4
namespace Go.Aw
open Go
variable [Glob]
set_option linter.all false
end Go.Aw
