import Derived.Test.YtpbnmegmhhkloaaDoorW06F04Z
namespace Go.Aw
open Go
open Go.Proofs.Tryd (prog)
set_option linter.all false
set_option maxHeartbeats 4000000
def q1i (rs : List (List UInt8)) : List UInt8 := rs.flatMap frm
def quc : Nat -> List (List UInt8) -> List Int
 | _, [] => []
 | s, r :: rs => ((s + r.length + 7 : Nat) : Int) :: quc (s + r.length + 7) rs
theorem q8t (rs qs : List (List UInt8)) : q1i (rs ++ qs) = q1i rs ++ q1i qs := by simp [q1i]
theorem U9 (r : List UInt8) (qs : List (List UInt8)) : q1i (r :: qs) = frm r ++ q1i qs := by simp [q1i]
theorem q43 (r : List UInt8) : q1i [r] = frm r := by simp [q1i]
theorem qqu {l : List (List UInt8 × Option Nat)} {k : Nat} {r : List UInt8 × Option Nat} (h : l[k]? = some r) : ((btK l).drop k)[0]? = some (bts r.1 r.2) := by simp [btK, h]
end Go.Aw
