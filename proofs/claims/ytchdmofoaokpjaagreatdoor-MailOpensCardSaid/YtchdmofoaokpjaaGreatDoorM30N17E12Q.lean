import Derived.Test.YtchdmofoaokpjaaGreatDoorM30N17E12P
namespace Go.Aw
open Go
open Go.Proofs.Tryz (prog)
set_option linter.all false
set_option maxHeartbeats 4000000
theorem qqo {α : Type} {f : α -> List AV} {z : Nat} (hf : ∀ x, (f x).length = z) (l : List α) (k : Nat) : (l.flatMap f).take (k * z) = (l.take k).flatMap f := by
 induction l generalizing k with
 | nil => simp
 | cons a l ih =>
  cases k with
  | zero => simp
  | succ k =>
   rw [List.flatMap_cons, List.take_succ_cons, List.flatMap_cons, <- ih, show (k + 1) * z = (f a).length + k * z by rw [hf, Nat.add_mul]; omega, List.take_length_add_append]
end Go.Aw
