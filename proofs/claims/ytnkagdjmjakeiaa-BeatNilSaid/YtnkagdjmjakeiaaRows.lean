/-
  No cell of these rows narrows 'for every input' (looked for: loops, veiled, ifaces, maps, wideKeys, modest, calm, conditions, laid).
  DERIVED. THE GIVEN ROWS OF THIS SEAT. 2 by the template 'for every input the law returns true; each argument reads behind the call as it read before'; 0 by the template 'total and deterministic' (their statements: YtnkagdjmjakeiaaTotals.lean).
  GIVEN WITH THE SEED: the statements are not yours to turn. If you find one false, say at which input.
  Laid BY PROGRAM, IN A SANDBOX (cutbox-rows.mjs): the forced cells as the released guide's own fill.sh prints them over the translation 6a16a0f2ebd9564c… (all of the seat's roots in one cut). By AI agents, Wed Nov 11 2026. No macro, syntax, notation, axiom, sorry.
-/
import Derived.Test.YtnkagdjmjakeiaaChecked
import GoSem.Claim
import GoSem.ClaimJoined
import GoSem.ClaimMapViews
import Derived.JoinedTies
import Derived.KernelRfl
namespace Go.Proofs.Ytnkagdjmjakeiaa
/- THE CELL 'sum', in the pinned program and in every row, IS THE sha256 OF THE DUMP (.gsa) THAT YtnkagdjmjakeiaaProg.lean LOADS. Nothing in Lean hashes anything: it is a label: what it is worth is what the hold of that sum in a sandbox is worth. -/
noncomputable def Try.pinned : Pinned := { name := "ytnkagdjmjakeiaa", sum := "6a16a0f2ebd9564c70f6a244a8316a5ffee79c89187b7dc367ed68f373059010", checked := Try.checked }
namespace Rows
def none {H : Type} : Left H := { results := [], args := [] }

/-- 'sautoirlaw22.BeatWatches': WHATEVER THE INPUT: true; the input reads as it did. -/
def beatWatchesSpec : ChangeSpec := { name := "beatWatches", fn := fun _ => fun
  | [d1, d2, d3] => { results := [.lit (.bool true)], args := [d1, d2, d3] }
  | _ => none }
def beatWatchesRow : OpenClaim := { program := "ytnkagdjmjakeiaa", sum := "6a16a0f2ebd9564c70f6a244a8316a5ffee79c89187b7dc367ed68f373059010", func := "sautoir/sautoirlaw22.BeatWatches", spec := "beatWatches", unfollowed := true, recurses := true, apart := false }
def BeatWatchesSaid : Prop := beatWatchesRow.holds Try.pinned (OpenSpec.ofChange beatWatchesSpec)

/-- ITS FALSE NEIGHBOUR: 'it returns false'. Refute it at one input. -/
def beatWatchesWrong : ChangeSpec := { name := "beatWatches", fn := fun _ => fun
  | [d1, d2, d3] => { results := [.lit (.bool false)], args := [d1, d2, d3] }
  | _ => none }
def BeatWatchesWrongFalsely : Prop := beatWatchesRow.holds Try.pinned (OpenSpec.ofChange beatWatchesWrong)

/-- 'sautoirlaw22.BeatNil': WHATEVER THE INPUT: true; the input reads as it did. -/
def beatNilSpec : ChangeSpec := { name := "beatNil", fn := fun _ => fun
  | [d] => { results := [.lit (.bool true)], args := [d] }
  | _ => none }
def beatNilRow : OpenClaim := { program := "ytnkagdjmjakeiaa", sum := "6a16a0f2ebd9564c70f6a244a8316a5ffee79c89187b7dc367ed68f373059010", func := "sautoir/sautoirlaw22.BeatNil", spec := "beatNil", unfollowed := true, recurses := true, apart := false }
def BeatNilSaid : Prop := beatNilRow.holds Try.pinned (OpenSpec.ofChange beatNilSpec)

/-- ITS FALSE NEIGHBOUR: 'it returns false'. Refute it at one input. -/
def beatNilWrong : ChangeSpec := { name := "beatNil", fn := fun _ => fun
  | [d] => { results := [.lit (.bool false)], args := [d] }
  | _ => none }
def BeatNilWrongFalsely : Prop := beatNilRow.holds Try.pinned (OpenSpec.ofChange beatNilWrong)

/- THE SECOND FORM. 'bulk': how many values and letters a reading holds, each counted each time it is reached (what is shared counts as often as it is met; a slice's spare places count too). A statement '..UptoSaid' is the law's where the arguments, and the package variables that the reading takes, are together of bulk at most 1048576: NARROWER than '..Said'. Prove '..Said' where nothing that the law and all that it calls make is longer than what came in: it says more and counts as full. Else prove '..UptoSaid'. A law counts once. -/
mutual
def uptoBulk {H : Type} : DataW H → Nat
  | .lit (.string bytes) => bytes.length + 1
  | .lit _ => 1
  | .nil => 1
  | .ptr d => uptoBulk d + 1
  | .slice elems spare => uptoBulkAll elems + uptoBulkAll spare + 1
  | .agg parts => uptoBulkAll parts + 1
  | .iface _ d => uptoBulk d + 1
  | .map entries => uptoBulkEntries entries + 1
  | .held _ => 1
def uptoBulkAll {H : Type} : List (DataW H) → Nat
  | [] => 0
  | d :: r => uptoBulk d + uptoBulkAll r
def uptoBulkEntries {H : Type} : List (Lit × DataW H) → Nat
  | [] => 0
  | x :: r => uptoBulkEntry x + uptoBulkEntries r
def uptoBulkEntry {H : Type} : Lit × DataW H → Nat
  | (.string bytes, d) => bytes.length + uptoBulk d + 1
  | (_, d) => uptoBulk d + 1
 end
def uptoSmall : (H : Type) → List (DataW H) → Bool := fun _ ds => decide (uptoBulkAll ds ≤ 1048576)
def OpenSpec.upto (s : _root_.Go.ChangeSpec) : _root_.Go.OpenSpec := { _root_.Go.OpenSpec.ofChange s with cond := some uptoSmall }

/-- 'sautoirlaw22.BeatWatches', WHERE WHAT IT READS IS OF BULK AT MOST 1048576: true; the input reads as it did. -/
def beatWatchesUptoRow : OpenClaim := { program := "ytnkagdjmjakeiaa", sum := "6a16a0f2ebd9564c70f6a244a8316a5ffee79c89187b7dc367ed68f373059010", func := "sautoir/sautoirlaw22.BeatWatches", spec := "beatWatches", unfollowed := true, recurses := true, apart := false, narrowed := true }
def BeatWatchesUptoSaid : Prop := beatWatchesUptoRow.holds Try.pinned (OpenSpec.upto beatWatchesSpec)

/-- 'sautoirlaw22.BeatNil', WHERE WHAT IT READS IS OF BULK AT MOST 1048576: true; the input reads as it did. -/
def beatNilUptoRow : OpenClaim := { program := "ytnkagdjmjakeiaa", sum := "6a16a0f2ebd9564c70f6a244a8316a5ffee79c89187b7dc367ed68f373059010", func := "sautoir/sautoirlaw22.BeatNil", spec := "beatNil", unfollowed := true, recurses := true, apart := false, narrowed := true }
def BeatNilUptoSaid : Prop := beatNilUptoRow.holds Try.pinned (OpenSpec.upto beatNilSpec)

end Rows
end Go.Proofs.Ytnkagdjmjakeiaa
