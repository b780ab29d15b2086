/-
  Small things on numbers and rows, for the walks.
-/
import Derived.Test.YtchkfbfbhaldfaaAwSim
import Derived.IntWalk
namespace Go.Aw
set_option linter.all false
open Go

def ints (l : List Int) : List AV := l.map (.i .i64)
def bools (l : List Bool) : List AV := l.map .b

theorem ints_length (l : List Int) : (ints l).length = l.length := by simp [ints]
theorem bools_length (l : List Bool) : (bools l).length = l.length := by simp [bools]
theorem ints_at (l : List Int) (k : Nat) : ((ints l).drop k)[0]? = (l[k]?).map (.i .i64) := by simp [ints]
theorem bools_at (l : List Bool) (k : Nat) : ((bools l).drop k)[0]? = (l[k]?).map .b := by simp [bools]
theorem ints_take (l : List Int) (k : Nat) : (ints l).take k = ints (l.take k) := by simp [ints, List.map_take]
theorem ints_drop (l : List Int) (k : Nat) : (ints l).drop k = ints (l.drop k) := by simp [ints, List.map_drop]
theorem bools_take (l : List Bool) (k : Nat) : (bools l).take k = bools (l.take k) := by simp [bools, List.map_take]
theorem bools_drop (l : List Bool) (k : Nat) : (bools l).drop k = bools (l.drop k) := by simp [bools, List.map_drop]
theorem ints_append (l m : List Int) : ints l ++ ints m = ints (l ++ m) := by simp [ints]
theorem bools_append (l m : List Bool) : bools l ++ bools m = bools (l ++ m) := by simp [bools]
theorem ints_nil : ints [] = [] := rfl
theorem bools_nil : bools [] = [] := rfl
theorem ints_one (x : Int) : [AV.i .i64 x] = ints [x] := rfl
theorem bools_one (x : Bool) : [AV.b x] = bools [x] := rfl

/-- A number that fits. -/
def I64 (n : Int) : Prop := -9223372036854775808 ≤ n ∧ n ≤ 9223372036854775807
instance (n : Int) : Decidable (I64 n) := inferInstanceAs (Decidable (_ ∧ _))

theorem wrap_i64 {n : Int} (h : I64 n) : IntKind.i64.wrap n = n := IntWalk.i64_in n h

/-- A slice's length fits. -/
def Len (n : Nat) : Prop := n < 9223372036854775808

theorem wrap_succ {k : Nat} (h : k < 9223372036854775807) : IntKind.i64.wrap ((k : Int) + 1) = ((k + 1 : Nat) : Int) := by
  rw [wrap_i64 (by unfold I64; omega)]; simp

end Go.Aw
