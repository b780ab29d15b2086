import Derived.Test.YtchdmofoaokpjaaGreatDoorAwD
import Derived.Test.YtchdmofoaokpjaaGreatDoorM30N17T16A
namespace Go.Aw
set_option linter.all false
open Go
open Go.Proofs.Tryz (prog)
set_option linter.unusedSimpArgs false
def mem (l : List (Int × Bool)) : List AV := l.flatMap fun m => [.i .i64 m.1, .b m.2]
theorem I1 (m : Int × Bool) (l : List (Int × Bool)) : mem (m :: l) = .i .i64 m.1 :: .b m.2 :: mem l := rfl
theorem q1y (l m : List (Int × Bool)) : mem (l ++ m) = mem l ++ mem m := by simp [mem]
theorem za0 {l : List (Int × Bool)} {k : Nat} {m : Int × Bool} (h : l[k]? = some m) : (mem l).drop (k * 2) = .i .i64 m.1 :: .b m.2 :: mem (l.drop (k + 1)) := by
 induction l generalizing k with
 | nil => simp at h
 | cons a l ih =>
  cases k with
  | zero => simp at h; subst h; simp [I1]
  | succ k =>
   simp at h
   rw [I1, Nat.add_mul]
   simpa using ih h
structure Rf where
 ep : Int
 sh : Int
 l : List (Int × Bool)
 ln : Int
def Rf.cells (c : Rf) (k : Option Nat) : List AV := [.i .u64 c.ep, .i .i64 c.sh, .fz c.l.length (mem c.l) k, .i .i64 c.ln]
def za1 (xs : List (Int × Bool)) (ln : Int) : List (Int × Bool) -> Nat -> Bool
 | [], _ => true
 | y :: ys, k => !decide (y.1 < 0) && !decide (7 < y.1) && !(!decide (ixI y.1 (xs.map (·.1)) = (k : Int))) && !decide (y.1 = ln) && za1 xs ln ys (k + 1)
def Rf.right (c : Rf) : Bool :=
 !decide (c.ep = 0) && !decide (c.sh < 0) && !decide (3 < c.sh) && !decide ((c.l.length : Int) = 0) && !decide (8 < (c.l.length : Int)) &&
  !(!((c.l[0]?).getD (0, false)).2) && !decide (c.ln < -1) && !decide (7 < c.ln) && za1 c.l c.ln c.l 0
end Go.Aw
