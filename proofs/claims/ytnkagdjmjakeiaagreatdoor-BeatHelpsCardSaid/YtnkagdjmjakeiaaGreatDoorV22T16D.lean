import Derived.Test.YtnkagdjmjakeiaaGreatDoorAwD
import Derived.Test.YtnkagdjmjakeiaaGreatDoorV22T16A
namespace Go.Aw
set_option linter.all false
open Go
open Go.Proofs.Tryz (prog)
set_option linter.unusedSimpArgs false
def mem (l : List (Int × Bool)) : List AV := l.flatMap fun m => [.i .i64 m.1, .b m.2]
theorem U7 (m : Int × Bool) (l : List (Int × Bool)) : mem (m :: l) = .i .i64 m.1 :: .b m.2 :: mem l := rfl
theorem G6 (l m : List (Int × Bool)) : mem (l ++ m) = mem l ++ mem m := by simp [mem]
structure Rf where
 ep : Int
 sh : Int
 l : List (Int × Bool)
 ln : Int
def Rf.cells (c : Rf) (k : Option Nat) : List AV := [.i .u64 c.ep, .i .i64 c.sh, .fz c.l.length (mem c.l) k, .i .i64 c.ln]
def qvg (xs : List (Int × Bool)) (ln : Int) : List (Int × Bool) -> Nat -> Bool
 | [], _ => true
 | y :: ys, k => !decide (y.1 < 0) && !decide (7 < y.1) && !(!decide (ixI y.1 (xs.map (·.1)) = (k : Int))) && !decide (y.1 = ln) && qvg xs ln ys (k + 1)
def Rf.right (c : Rf) : Bool :=
 !decide (c.ep = 0) && !decide (c.sh < 0) && !decide (3 < c.sh) && !decide ((c.l.length : Int) = 0) && !decide (8 < (c.l.length : Int)) &&
  !(!((c.l[0]?).getD (0, false)).2) && !decide (c.ln < -1) && !decide (7 < c.ln) && qvg c.l c.ln c.l 0
end Go.Aw
namespace Go.Aw
open Go
open Go.Proofs.Tryz (prog)
set_option linter.all false
theorem Wks.cf {a b c : AV} {n m : Nat} {x y : List AV} {k1 k2 : Option Nat} : Wks [a, b, .fz n x k1, .fz m y k2, c] [a, b, .fz n x none, .fz m y none, c] :=
 ⟨.refl _, .refl _, .fz, .fz, .refl _, trivial⟩
end Go.Aw
namespace Go.Aw
open Go
open Go.Proofs.Tryz (prog)
set_option linter.all false
def qeu (fu : List Bool) : List Int -> Nat -> List (Int × Bool)
 | [], _ => []
 | y :: ys, k => (y, (fu[k]?).getD false) :: qeu fu ys (k + 1)
def Cf.plain (c : Cf) : Rf := ⟨c.ep, c.sh, qeu c.fu c.ch 0, c.ln⟩
theorem qaj (fu : List Bool) : ∀ (l : List Int) (k : Nat), (qeu fu l k).length = l.length
 | [], _ => rfl
 | _ :: l, k => by simp [qeu, qaj fu l (k + 1)]
end Go.Aw
