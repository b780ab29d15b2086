import Derived.Test.YtpbnmegmhhkloaaDoorW06F04Z
namespace Go.Aw
open Go
open Go.Proofs.Tryd (prog)
set_option linter.all false
set_option maxHeartbeats 4000000
def q1g (rs : List (List UInt8)) : List UInt8 := rs.flatMap frm
def qtk : Nat -> List (List UInt8) -> List Int
 | _, [] => []
 | s, r :: rs => ((s + r.length + 7 : Nat) : Int) :: qtk (s + r.length + 7) rs
theorem qd6 (rs qs : List (List UInt8)) : q1g (rs ++ qs) = q1g rs ++ q1g qs := by simp [q1g]
theorem Y9 (r : List UInt8) (qs : List (List UInt8)) : q1g (r :: qs) = frm r ++ q1g qs := by simp [q1g]
theorem qat (r : List UInt8) : q1g [r] = frm r := by simp [q1g]
end Go.Aw
