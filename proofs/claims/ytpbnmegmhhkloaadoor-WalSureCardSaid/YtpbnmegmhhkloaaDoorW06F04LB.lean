import Derived.Test.YtpbnmegmhhkloaaDoorW06F04Z
namespace Go.Aw
open Go
open Go.Proofs.Tryd (prog)
set_option linter.all false
set_option maxHeartbeats 4000000
def G1 (rs : List (List UInt8)) : List UInt8 := rs.flatMap frm
def qw8 : Nat -> List (List UInt8) -> List Int
 | _, [] => []
 | s, r :: rs => ((s + r.length + 7 : Nat) : Int) :: qw8 (s + r.length + 7) rs
theorem qew (rs qs : List (List UInt8)) : G1 (rs ++ qs) = G1 rs ++ G1 qs := by simp [G1]
theorem N8 (r : List UInt8) (qs : List (List UInt8)) : G1 (r :: qs) = frm r ++ G1 qs := by simp [G1]
theorem q4y (r : List UInt8) : G1 [r] = frm r := by simp [G1]
end Go.Aw
