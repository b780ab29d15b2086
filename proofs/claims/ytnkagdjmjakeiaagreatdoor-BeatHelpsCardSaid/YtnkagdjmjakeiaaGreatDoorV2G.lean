import Derived.Test.YtnkagdjmjakeiaaGreatDoorV2F
namespace Go.Aw
open Go
open Go.Proofs.Tryz (prog)
set_option linter.all false
set_option maxHeartbeats 8000000
set_option maxRecDepth 8000
structure TwoR (T0 T : Tab) (a ia b ib : Nat) (o : Os) : Prop where
 sa : St T a ia o
 sb : RSt T b ib o
 n1 : a ≠ b
 n2 : a ≠ ib
 n3 : ia ≠ b
 n4 : ia ≠ ib
 le : TabLe T0 T
 u : T0 a = .unused /\ T0 ia = .unused /\ T0 b = .unused /\ T0 ib = .unused
theorem qps (o : Os) (lim : Int) (l : List Wr) (cs : List Cf) : ∃ k s e n, (qby o lim l cs).1 = [.i .i64 k, .i .i64 s, .i .u64 e, .i .i64 n] := by
 induction cs with
 | nil => exact ⟨_, _, _, _, rfl⟩
 | cons c cs ih => unfold qby; split; exact ⟨_, _, _, _, rfl⟩; exact ih
theorem ql6 (es : List Ev) : (q4t es).length <= 60 := by unfold q4t; rw [List.length_take]; omega
end Go.Aw
