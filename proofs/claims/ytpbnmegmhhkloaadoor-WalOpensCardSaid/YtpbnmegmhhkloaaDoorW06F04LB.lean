import Derived.Test.YtpbnmegmhhkloaaDoorW06F04Z
namespace Go.Aw
open Go
open Go.Proofs.Tryd (prog)
set_option linter.all false
set_option maxHeartbeats 4000000
def q1j (rs : List (List UInt8)) : List UInt8 := rs.flatMap frm
def qtt : Nat -> List (List UInt8) -> List Int
 | _, [] => []
 | s, r :: rs => ((s + r.length + 7 : Nat) : Int) :: qtt (s + r.length + 7) rs
theorem qdh (rs qs : List (List UInt8)) : q1j (rs ++ qs) = q1j rs ++ q1j qs := by simp [q1j]
theorem Z0 (r : List UInt8) (qs : List (List UInt8)) : q1j (r :: qs) = frm r ++ q1j qs := by simp [q1j]
theorem q7l (r : List UInt8) : q1j [r] = frm r := by simp [q1j]
end Go.Aw
