/-
  No cell of these rows narrows 'for every input' (looked for: loops, veiled, ifaces, maps, wideKeys, modest, calm, conditions, laid).
  DERIVED. THE GIVEN ROWS OF THIS SEAT. 4 by the template 'for every input the law returns true; each argument reads behind the call as it read before'; 0 by the template 'total and deterministic' (their statements: YtchkfbfbhaldfaaTotals.lean).
  GIVEN WITH THE SEED: the statements are not yours to turn. If you find one false, say at which input.
  Laid BY PROGRAM, IN A SANDBOX (cutbox-rows.mjs): the forced cells as the released guide's own fill.sh prints them over the translation ba67c70d67c342a3… (all of the seat's roots in one cut). By AI agents, Wed Nov 11 2026. No macro, syntax, notation, axiom, sorry.
-/
import Derived.Test.YtchkfbfbhaldfaaChecked
import GoSem.Claim
import GoSem.ClaimJoined
import GoSem.ClaimMapViews
import Derived.JoinedTies
import Derived.KernelRfl
namespace Go.Proofs.Ytchkfbfbhaldfaa
/- THE CELL 'sum', in the pinned program and in every row, IS THE sha256 OF THE DUMP (.gsa) THAT YtchkfbfbhaldfaaProg.lean LOADS. Nothing in Lean hashes anything: it is a label: what it is worth is what the hold of that sum in a sandbox is worth. -/
noncomputable def Try.pinned : Pinned := { name := "ytchkfbfbhaldfaa", sum := "ba67c70d67c342a313b479cd7511dbb76ca10d082a48f0ec021f5e60d9997c6e", checked := Try.checked }
namespace Rows
def none {H : Type} : Left H := { results := [], args := [] }

/-- 'sautoirlaw16.ConfRight': WHATEVER THE INPUT: true; the input reads as it did. -/
def confRightSpec : ChangeSpec := { name := "confRight", fn := fun _ => fun
  | [d1, d2] => { results := [.lit (.bool true)], args := [d1, d2] }
  | _ => none }
def confRightRow : OpenClaim := { program := "ytchkfbfbhaldfaa", sum := "ba67c70d67c342a313b479cd7511dbb76ca10d082a48f0ec021f5e60d9997c6e", func := "sautoir/sautoirlaw16.ConfRight", spec := "confRight", apart := false }
def ConfRightSaid : Prop := confRightRow.holds Try.pinned (OpenSpec.ofChange confRightSpec)

/-- ITS FALSE NEIGHBOUR: 'it returns false'. Refute it at one input. -/
def confRightWrong : ChangeSpec := { name := "confRight", fn := fun _ => fun
  | [d1, d2] => { results := [.lit (.bool false)], args := [d1, d2] }
  | _ => none }
def ConfRightWrongFalsely : Prop := confRightRow.holds Try.pinned (OpenSpec.ofChange confRightWrong)

/-- 'sautoirlaw16.ConfTurns': WHATEVER THE INPUT: true; the input reads as it did. -/
def confTurnsSpec : ChangeSpec := { name := "confTurns", fn := fun _ => fun
  | [d1, d2, d3, d4] => { results := [.lit (.bool true)], args := [d1, d2, d3, d4] }
  | _ => none }
def confTurnsRow : OpenClaim := { program := "ytchkfbfbhaldfaa", sum := "ba67c70d67c342a313b479cd7511dbb76ca10d082a48f0ec021f5e60d9997c6e", func := "sautoir/sautoirlaw16.ConfTurns", spec := "confTurns", apart := false }
def ConfTurnsSaid : Prop := confTurnsRow.holds Try.pinned (OpenSpec.ofChange confTurnsSpec)

/-- ITS FALSE NEIGHBOUR: 'it returns false'. Refute it at one input. -/
def confTurnsWrong : ChangeSpec := { name := "confTurns", fn := fun _ => fun
  | [d1, d2, d3, d4] => { results := [.lit (.bool false)], args := [d1, d2, d3, d4] }
  | _ => none }
def ConfTurnsWrongFalsely : Prop := confTurnsRow.holds Try.pinned (OpenSpec.ofChange confTurnsWrong)

/-- 'sautoirlaw16.ConfHeirs': WHATEVER THE INPUT: true; the input reads as it did. -/
def confHeirsSpec : ChangeSpec := { name := "confHeirs", fn := fun _ => fun
  | [d1, d2, d3] => { results := [.lit (.bool true)], args := [d1, d2, d3] }
  | _ => none }
def confHeirsRow : OpenClaim := { program := "ytchkfbfbhaldfaa", sum := "ba67c70d67c342a313b479cd7511dbb76ca10d082a48f0ec021f5e60d9997c6e", func := "sautoir/sautoirlaw16.ConfHeirs", spec := "confHeirs", apart := false }
def ConfHeirsSaid : Prop := confHeirsRow.holds Try.pinned (OpenSpec.ofChange confHeirsSpec)

/-- ITS FALSE NEIGHBOUR: 'it returns false'. Refute it at one input. -/
def confHeirsWrong : ChangeSpec := { name := "confHeirs", fn := fun _ => fun
  | [d1, d2, d3] => { results := [.lit (.bool false)], args := [d1, d2, d3] }
  | _ => none }
def ConfHeirsWrongFalsely : Prop := confHeirsRow.holds Try.pinned (OpenSpec.ofChange confHeirsWrong)

/-- 'sautoirlaw16.ConfBytes': WHATEVER THE INPUT: true; the input reads as it did. -/
def confBytesSpec : ChangeSpec := { name := "confBytes", fn := fun _ => fun
  | [d1, d2] => { results := [.lit (.bool true)], args := [d1, d2] }
  | _ => none }
def confBytesRow : OpenClaim := { program := "ytchkfbfbhaldfaa", sum := "ba67c70d67c342a313b479cd7511dbb76ca10d082a48f0ec021f5e60d9997c6e", func := "sautoir/sautoirlaw16.ConfBytes", spec := "confBytes", recurses := true, apart := false }
def ConfBytesSaid : Prop := confBytesRow.holds Try.pinned (OpenSpec.ofChange confBytesSpec)

/-- ITS FALSE NEIGHBOUR: 'it returns false'. Refute it at one input. -/
def confBytesWrong : ChangeSpec := { name := "confBytes", fn := fun _ => fun
  | [d1, d2] => { results := [.lit (.bool false)], args := [d1, d2] }
  | _ => none }
def ConfBytesWrongFalsely : Prop := confBytesRow.holds Try.pinned (OpenSpec.ofChange confBytesWrong)

/- THE SECOND FORM. 'bulk': how many values and letters a reading holds, each counted each time it is reached (what is shared counts as often as it is met; a slice's spare places count too). A statement '..UptoSaid' is the law's where the arguments, and the package variables that the reading takes, are together of bulk at most 1048576: NARROWER than '..Said'. Prove '..Said' where nothing that the law and all that it calls make is longer than what came in: it says more and counts as full. Else prove '..UptoSaid'. A law counts once. -/
mutual
def uptoBulk {H : Type} : DataW H → Nat
  | .lit (.string bytes) => bytes.length + 1
  | .lit _ => 1
  | .nil => 1
  | .ptr d => uptoBulk d + 1
  | .slice elems spare => uptoBulkAll elems + uptoBulkAll spare + 1
  | .agg parts => uptoBulkAll parts + 1
  | .iface _ d => uptoBulk d + 1
  | .map entries => uptoBulkEntries entries + 1
  | .held _ => 1
def uptoBulkAll {H : Type} : List (DataW H) → Nat
  | [] => 0
  | d :: r => uptoBulk d + uptoBulkAll r
def uptoBulkEntries {H : Type} : List (Lit × DataW H) → Nat
  | [] => 0
  | x :: r => uptoBulkEntry x + uptoBulkEntries r
def uptoBulkEntry {H : Type} : Lit × DataW H → Nat
  | (.string bytes, d) => bytes.length + uptoBulk d + 1
  | (_, d) => uptoBulk d + 1
 end
def uptoSmall : (H : Type) → List (DataW H) → Bool := fun _ ds => decide (uptoBulkAll ds ≤ 1048576)
def OpenSpec.upto (s : _root_.Go.ChangeSpec) : _root_.Go.OpenSpec := { _root_.Go.OpenSpec.ofChange s with cond := some uptoSmall }

/-- 'sautoirlaw16.ConfRight', WHERE WHAT IT READS IS OF BULK AT MOST 1048576: true; the input reads as it did. -/
def confRightUptoRow : OpenClaim := { program := "ytchkfbfbhaldfaa", sum := "ba67c70d67c342a313b479cd7511dbb76ca10d082a48f0ec021f5e60d9997c6e", func := "sautoir/sautoirlaw16.ConfRight", spec := "confRight", apart := false, narrowed := true }
def ConfRightUptoSaid : Prop := confRightUptoRow.holds Try.pinned (OpenSpec.upto confRightSpec)

/-- 'sautoirlaw16.ConfTurns', WHERE WHAT IT READS IS OF BULK AT MOST 1048576: true; the input reads as it did. -/
def confTurnsUptoRow : OpenClaim := { program := "ytchkfbfbhaldfaa", sum := "ba67c70d67c342a313b479cd7511dbb76ca10d082a48f0ec021f5e60d9997c6e", func := "sautoir/sautoirlaw16.ConfTurns", spec := "confTurns", apart := false, narrowed := true }
def ConfTurnsUptoSaid : Prop := confTurnsUptoRow.holds Try.pinned (OpenSpec.upto confTurnsSpec)

/-- 'sautoirlaw16.ConfHeirs', WHERE WHAT IT READS IS OF BULK AT MOST 1048576: true; the input reads as it did. -/
def confHeirsUptoRow : OpenClaim := { program := "ytchkfbfbhaldfaa", sum := "ba67c70d67c342a313b479cd7511dbb76ca10d082a48f0ec021f5e60d9997c6e", func := "sautoir/sautoirlaw16.ConfHeirs", spec := "confHeirs", apart := false, narrowed := true }
def ConfHeirsUptoSaid : Prop := confHeirsUptoRow.holds Try.pinned (OpenSpec.upto confHeirsSpec)

/-- 'sautoirlaw16.ConfBytes', WHERE WHAT IT READS IS OF BULK AT MOST 1048576: true; the input reads as it did. -/
def confBytesUptoRow : OpenClaim := { program := "ytchkfbfbhaldfaa", sum := "ba67c70d67c342a313b479cd7511dbb76ca10d082a48f0ec021f5e60d9997c6e", func := "sautoir/sautoirlaw16.ConfBytes", spec := "confBytes", recurses := true, apart := false, narrowed := true }
def ConfBytesUptoSaid : Prop := confBytesUptoRow.holds Try.pinned (OpenSpec.upto confBytesSpec)

end Rows
end Go.Proofs.Ytchkfbfbhaldfaa
