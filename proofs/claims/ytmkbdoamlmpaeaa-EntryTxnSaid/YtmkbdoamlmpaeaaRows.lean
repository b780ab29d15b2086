/-
  No cell of these rows narrows 'for every input' (looked for: loops, veiled, ifaces, maps, wideKeys, modest, calm, conditions, laid).
  DERIVED. THE GIVEN ROWS OF THIS SEAT. 3 by the template 'for every input the law returns true; each argument reads behind the call as it read before'; 0 by the template 'total and deterministic' (their statements: YtmkbdoamlmpaeaaTotals.lean).
  GIVEN WITH THE SEED: the statements are not yours to turn. If you find one false, say at which input.
  Laid BY PROGRAM, IN A SANDBOX (cutbox-rows.mjs): the forced cells as the released guide's own fill.sh prints them over the translation c3e538892830ee09… (all of the seat's roots in one cut). By AI agents, Wed Nov 11 2026. No macro, syntax, notation, axiom, sorry.
-/
import Derived.Test.YtmkbdoamlmpaeaaChecked
import GoSem.Claim
import GoSem.ClaimJoined
import GoSem.ClaimMapViews
import Derived.JoinedTies
import Derived.KernelRfl
namespace Go.Proofs.Ytmkbdoamlmpaeaa
/- THE CELL 'sum', in the pinned program and in every row, IS THE sha256 OF THE DUMP (.gsa) THAT YtmkbdoamlmpaeaaProg.lean LOADS. Nothing in Lean hashes anything: it is a label: what it is worth is what the hold of that sum in a sandbox is worth. -/
noncomputable def Try.pinned : Pinned := { name := "ytmkbdoamlmpaeaa", sum := "c3e538892830ee099ead6f0067f58d52e1543854bc11fc0ed8d26020b3ae881a", checked := Try.checked }
namespace Rows
def none {H : Type} : Left H := { results := [], args := [] }

/-- 'sautoirlaw12.EntryRight': WHATEVER THE INPUT: true; the input reads as it did. -/
def entryRightSpec : ChangeSpec := { name := "entryRight", fn := fun _ => fun
  | [d] => { results := [.lit (.bool true)], args := [d] }
  | _ => none }
def entryRightRow : OpenClaim := { program := "ytmkbdoamlmpaeaa", sum := "c3e538892830ee099ead6f0067f58d52e1543854bc11fc0ed8d26020b3ae881a", func := "sautoir/sautoirlaw12.EntryRight", spec := "entryRight", apart := false }
def EntryRightSaid : Prop := entryRightRow.holds Try.pinned (OpenSpec.ofChange entryRightSpec)

/-- ITS FALSE NEIGHBOUR: 'it returns false'. Refute it at one input. -/
def entryRightWrong : ChangeSpec := { name := "entryRight", fn := fun _ => fun
  | [d] => { results := [.lit (.bool false)], args := [d] }
  | _ => none }
def EntryRightWrongFalsely : Prop := entryRightRow.holds Try.pinned (OpenSpec.ofChange entryRightWrong)

/-- 'sautoirlaw12.EntryShards': WHATEVER THE INPUT: true; the input reads as it did. -/
def entryShardsSpec : ChangeSpec := { name := "entryShards", fn := fun _ => fun
  | [d1, d2, d3] => { results := [.lit (.bool true)], args := [d1, d2, d3] }
  | _ => none }
def entryShardsRow : OpenClaim := { program := "ytmkbdoamlmpaeaa", sum := "c3e538892830ee099ead6f0067f58d52e1543854bc11fc0ed8d26020b3ae881a", func := "sautoir/sautoirlaw12.EntryShards", spec := "entryShards", apart := false }
def EntryShardsSaid : Prop := entryShardsRow.holds Try.pinned (OpenSpec.ofChange entryShardsSpec)

/-- ITS FALSE NEIGHBOUR: 'it returns false'. Refute it at one input. -/
def entryShardsWrong : ChangeSpec := { name := "entryShards", fn := fun _ => fun
  | [d1, d2, d3] => { results := [.lit (.bool false)], args := [d1, d2, d3] }
  | _ => none }
def EntryShardsWrongFalsely : Prop := entryShardsRow.holds Try.pinned (OpenSpec.ofChange entryShardsWrong)

/-- 'sautoirlaw12.EntryTxn': WHATEVER THE INPUT: true; the input reads as it did. -/
def entryTxnSpec : ChangeSpec := { name := "entryTxn", fn := fun _ => fun
  | [d1, d2] => { results := [.lit (.bool true)], args := [d1, d2] }
  | _ => none }
def entryTxnRow : OpenClaim := { program := "ytmkbdoamlmpaeaa", sum := "c3e538892830ee099ead6f0067f58d52e1543854bc11fc0ed8d26020b3ae881a", func := "sautoir/sautoirlaw12.EntryTxn", spec := "entryTxn", recurses := true, apart := false }
def EntryTxnSaid : Prop := entryTxnRow.holds Try.pinned (OpenSpec.ofChange entryTxnSpec)

/-- ITS FALSE NEIGHBOUR: 'it returns false'. Refute it at one input. -/
def entryTxnWrong : ChangeSpec := { name := "entryTxn", fn := fun _ => fun
  | [d1, d2] => { results := [.lit (.bool false)], args := [d1, d2] }
  | _ => none }
def EntryTxnWrongFalsely : Prop := entryTxnRow.holds Try.pinned (OpenSpec.ofChange entryTxnWrong)

/- THE SECOND FORM. 'bulk': how many values and letters a reading holds, each counted each time it is reached (what is shared counts as often as it is met; a slice's spare places count too). A statement '..UptoSaid' is the law's where the arguments, and the package variables that the reading takes, are together of bulk at most 1048576: NARROWER than '..Said'. Prove '..Said' where nothing that the law and all that it calls make is longer than what came in: it says more and counts as full. Else prove '..UptoSaid'. A law counts once. -/
mutual
def uptoBulk {H : Type} : DataW H → Nat
  | .lit (.string bytes) => bytes.length + 1
  | .lit _ => 1
  | .nil => 1
  | .ptr d => uptoBulk d + 1
  | .slice elems spare => uptoBulkAll elems + uptoBulkAll spare + 1
  | .agg parts => uptoBulkAll parts + 1
  | .iface _ d => uptoBulk d + 1
  | .map entries => uptoBulkEntries entries + 1
  | .held _ => 1
def uptoBulkAll {H : Type} : List (DataW H) → Nat
  | [] => 0
  | d :: r => uptoBulk d + uptoBulkAll r
def uptoBulkEntries {H : Type} : List (Lit × DataW H) → Nat
  | [] => 0
  | x :: r => uptoBulkEntry x + uptoBulkEntries r
def uptoBulkEntry {H : Type} : Lit × DataW H → Nat
  | (.string bytes, d) => bytes.length + uptoBulk d + 1
  | (_, d) => uptoBulk d + 1
 end
def uptoSmall : (H : Type) → List (DataW H) → Bool := fun _ ds => decide (uptoBulkAll ds ≤ 1048576)
def OpenSpec.upto (s : _root_.Go.ChangeSpec) : _root_.Go.OpenSpec := { _root_.Go.OpenSpec.ofChange s with cond := some uptoSmall }

/-- 'sautoirlaw12.EntryRight', WHERE WHAT IT READS IS OF BULK AT MOST 1048576: true; the input reads as it did. -/
def entryRightUptoRow : OpenClaim := { program := "ytmkbdoamlmpaeaa", sum := "c3e538892830ee099ead6f0067f58d52e1543854bc11fc0ed8d26020b3ae881a", func := "sautoir/sautoirlaw12.EntryRight", spec := "entryRight", apart := false, narrowed := true }
def EntryRightUptoSaid : Prop := entryRightUptoRow.holds Try.pinned (OpenSpec.upto entryRightSpec)

/-- 'sautoirlaw12.EntryShards', WHERE WHAT IT READS IS OF BULK AT MOST 1048576: true; the input reads as it did. -/
def entryShardsUptoRow : OpenClaim := { program := "ytmkbdoamlmpaeaa", sum := "c3e538892830ee099ead6f0067f58d52e1543854bc11fc0ed8d26020b3ae881a", func := "sautoir/sautoirlaw12.EntryShards", spec := "entryShards", apart := false, narrowed := true }
def EntryShardsUptoSaid : Prop := entryShardsUptoRow.holds Try.pinned (OpenSpec.upto entryShardsSpec)

/-- 'sautoirlaw12.EntryTxn', WHERE WHAT IT READS IS OF BULK AT MOST 1048576: true; the input reads as it did. -/
def entryTxnUptoRow : OpenClaim := { program := "ytmkbdoamlmpaeaa", sum := "c3e538892830ee099ead6f0067f58d52e1543854bc11fc0ed8d26020b3ae881a", func := "sautoir/sautoirlaw12.EntryTxn", spec := "entryTxn", recurses := true, apart := false, narrowed := true }
def EntryTxnUptoSaid : Prop := entryTxnUptoRow.holds Try.pinned (OpenSpec.upto entryTxnSpec)

end Rows
end Go.Proofs.Ytmkbdoamlmpaeaa
