/-
  No cell of these rows narrows 'for every input' (looked for: loops, veiled, ifaces, maps, wideKeys, modest, calm, conditions, laid).
  DERIVED. THE GIVEN ROWS OF THIS SEAT. 4 by the template 'for every input the law returns true; each argument reads behind the call as it read before'; 0 by the template 'total and deterministic' (their statements: YtjimaapiajldpaaTotals.lean).
  GIVEN WITH THE SEED: the statements are not yours to turn. If you find one false, say at which input.
  Laid BY PROGRAM, IN A SANDBOX (cutbox-rows.mjs): the forced cells as the released guide's own fill.sh prints them over the translation 9fefa02cb1531c56… (all of the seat's roots in one cut). By AI agents, Wed Nov 11 2026. No macro, syntax, notation, axiom, sorry.
-/
import Derived.Test.YtjimaapiajldpaaChecked
import GoSem.Claim
import GoSem.ClaimJoined
import GoSem.ClaimMapViews
import Derived.JoinedTies
import Derived.KernelRfl
namespace Go.Proofs.Ytjimaapiajldpaa
/- THE CELL 'sum', in the pinned program and in every row, IS THE sha256 OF THE DUMP (.gsa) THAT YtjimaapiajldpaaProg.lean LOADS. Nothing in Lean hashes anything: it is a label: what it is worth is what the hold of that sum in a sandbox is worth. -/
noncomputable def Try.pinned : Pinned := { name := "ytjimaapiajldpaa", sum := "9fefa02cb1531c565fc67a13c600f7bf38dd1bbccdef5608e312fe5ed6b0d0ea", checked := Try.checked }
namespace Rows
def none {H : Type} : Left H := { results := [], args := [] }

/-- 'sautoirlaw28.RouteRises': WHATEVER THE INPUT: true; the input reads as it did. -/
def routeRisesSpec : ChangeSpec := { name := "routeRises", fn := fun _ => fun
  | [d1, d2] => { results := [.lit (.bool true)], args := [d1, d2] }
  | _ => none }
def routeRisesRow : OpenClaim := { program := "ytjimaapiajldpaa", sum := "9fefa02cb1531c565fc67a13c600f7bf38dd1bbccdef5608e312fe5ed6b0d0ea", func := "sautoir/sautoirlaw28.RouteRises", spec := "routeRises", apart := false }
def RouteRisesSaid : Prop := routeRisesRow.holds Try.pinned (OpenSpec.ofChange routeRisesSpec)

/-- ITS FALSE NEIGHBOUR: 'it returns false'. Refute it at one input. -/
def routeRisesWrong : ChangeSpec := { name := "routeRises", fn := fun _ => fun
  | [d1, d2] => { results := [.lit (.bool false)], args := [d1, d2] }
  | _ => none }
def RouteRisesWrongFalsely : Prop := routeRisesRow.holds Try.pinned (OpenSpec.ofChange routeRisesWrong)

/-- 'sautoirlaw28.RouteLearns': WHATEVER THE INPUT: true; the input reads as it did. -/
def routeLearnsSpec : ChangeSpec := { name := "routeLearns", fn := fun _ => fun
  | [d1, d2, d3, d4, d5] => { results := [.lit (.bool true)], args := [d1, d2, d3, d4, d5] }
  | _ => none }
def routeLearnsRow : OpenClaim := { program := "ytjimaapiajldpaa", sum := "9fefa02cb1531c565fc67a13c600f7bf38dd1bbccdef5608e312fe5ed6b0d0ea", func := "sautoir/sautoirlaw28.RouteLearns", spec := "routeLearns", apart := false }
def RouteLearnsSaid : Prop := routeLearnsRow.holds Try.pinned (OpenSpec.ofChange routeLearnsSpec)

/-- ITS FALSE NEIGHBOUR: 'it returns false'. Refute it at one input. -/
def routeLearnsWrong : ChangeSpec := { name := "routeLearns", fn := fun _ => fun
  | [d1, d2, d3, d4, d5] => { results := [.lit (.bool false)], args := [d1, d2, d3, d4, d5] }
  | _ => none }
def RouteLearnsWrongFalsely : Prop := routeLearnsRow.holds Try.pinned (OpenSpec.ofChange routeLearnsWrong)

/-- 'sautoirlaw28.RouteNil': WHATEVER THE INPUT: true; the input reads as it did. -/
def routeNilSpec : ChangeSpec := { name := "routeNil", fn := fun _ => fun
  | [d1, d2] => { results := [.lit (.bool true)], args := [d1, d2] }
  | _ => none }
def routeNilRow : OpenClaim := { program := "ytjimaapiajldpaa", sum := "9fefa02cb1531c565fc67a13c600f7bf38dd1bbccdef5608e312fe5ed6b0d0ea", func := "sautoir/sautoirlaw28.RouteNil", spec := "routeNil", apart := false }
def RouteNilSaid : Prop := routeNilRow.holds Try.pinned (OpenSpec.ofChange routeNilSpec)

/-- ITS FALSE NEIGHBOUR: 'it returns false'. Refute it at one input. -/
def routeNilWrong : ChangeSpec := { name := "routeNil", fn := fun _ => fun
  | [d1, d2] => { results := [.lit (.bool false)], args := [d1, d2] }
  | _ => none }
def RouteNilWrongFalsely : Prop := routeNilRow.holds Try.pinned (OpenSpec.ofChange routeNilWrong)

/-- 'sautoirlaw28.RouteAsks': WHATEVER THE INPUT: true; the input reads as it did. -/
def routeAsksSpec : ChangeSpec := { name := "routeAsks", fn := fun _ => fun
  | [d1, d2, d3, d4] => { results := [.lit (.bool true)], args := [d1, d2, d3, d4] }
  | _ => none }
def routeAsksRow : OpenClaim := { program := "ytjimaapiajldpaa", sum := "9fefa02cb1531c565fc67a13c600f7bf38dd1bbccdef5608e312fe5ed6b0d0ea", func := "sautoir/sautoirlaw28.RouteAsks", spec := "routeAsks", apart := false }
def RouteAsksSaid : Prop := routeAsksRow.holds Try.pinned (OpenSpec.ofChange routeAsksSpec)

/-- ITS FALSE NEIGHBOUR: 'it returns false'. Refute it at one input. -/
def routeAsksWrong : ChangeSpec := { name := "routeAsks", fn := fun _ => fun
  | [d1, d2, d3, d4] => { results := [.lit (.bool false)], args := [d1, d2, d3, d4] }
  | _ => none }
def RouteAsksWrongFalsely : Prop := routeAsksRow.holds Try.pinned (OpenSpec.ofChange routeAsksWrong)

/- THE SECOND FORM. 'bulk': how many values and letters a reading holds, each counted each time it is reached (what is shared counts as often as it is met; a slice's spare places count too). A statement '..UptoSaid' is the law's where the arguments, and the package variables that the reading takes, are together of bulk at most 1048576: NARROWER than '..Said'. Prove '..Said' where nothing that the law and all that it calls make is longer than what came in: it says more and counts as full. Else prove '..UptoSaid'. A law counts once. -/
mutual
def uptoBulk {H : Type} : DataW H → Nat
  | .lit (.string bytes) => bytes.length + 1
  | .lit _ => 1
  | .nil => 1
  | .ptr d => uptoBulk d + 1
  | .slice elems spare => uptoBulkAll elems + uptoBulkAll spare + 1
  | .agg parts => uptoBulkAll parts + 1
  | .iface _ d => uptoBulk d + 1
  | .map entries => uptoBulkEntries entries + 1
  | .held _ => 1
def uptoBulkAll {H : Type} : List (DataW H) → Nat
  | [] => 0
  | d :: r => uptoBulk d + uptoBulkAll r
def uptoBulkEntries {H : Type} : List (Lit × DataW H) → Nat
  | [] => 0
  | x :: r => uptoBulkEntry x + uptoBulkEntries r
def uptoBulkEntry {H : Type} : Lit × DataW H → Nat
  | (.string bytes, d) => bytes.length + uptoBulk d + 1
  | (_, d) => uptoBulk d + 1
 end
def uptoSmall : (H : Type) → List (DataW H) → Bool := fun _ ds => decide (uptoBulkAll ds ≤ 1048576)
def OpenSpec.upto (s : _root_.Go.ChangeSpec) : _root_.Go.OpenSpec := { _root_.Go.OpenSpec.ofChange s with cond := some uptoSmall }

/-- 'sautoirlaw28.RouteRises', WHERE WHAT IT READS IS OF BULK AT MOST 1048576: true; the input reads as it did. -/
def routeRisesUptoRow : OpenClaim := { program := "ytjimaapiajldpaa", sum := "9fefa02cb1531c565fc67a13c600f7bf38dd1bbccdef5608e312fe5ed6b0d0ea", func := "sautoir/sautoirlaw28.RouteRises", spec := "routeRises", apart := false, narrowed := true }
def RouteRisesUptoSaid : Prop := routeRisesUptoRow.holds Try.pinned (OpenSpec.upto routeRisesSpec)

/-- 'sautoirlaw28.RouteLearns', WHERE WHAT IT READS IS OF BULK AT MOST 1048576: true; the input reads as it did. -/
def routeLearnsUptoRow : OpenClaim := { program := "ytjimaapiajldpaa", sum := "9fefa02cb1531c565fc67a13c600f7bf38dd1bbccdef5608e312fe5ed6b0d0ea", func := "sautoir/sautoirlaw28.RouteLearns", spec := "routeLearns", apart := false, narrowed := true }
def RouteLearnsUptoSaid : Prop := routeLearnsUptoRow.holds Try.pinned (OpenSpec.upto routeLearnsSpec)

/-- 'sautoirlaw28.RouteNil', WHERE WHAT IT READS IS OF BULK AT MOST 1048576: true; the input reads as it did. -/
def routeNilUptoRow : OpenClaim := { program := "ytjimaapiajldpaa", sum := "9fefa02cb1531c565fc67a13c600f7bf38dd1bbccdef5608e312fe5ed6b0d0ea", func := "sautoir/sautoirlaw28.RouteNil", spec := "routeNil", apart := false, narrowed := true }
def RouteNilUptoSaid : Prop := routeNilUptoRow.holds Try.pinned (OpenSpec.upto routeNilSpec)

/-- 'sautoirlaw28.RouteAsks', WHERE WHAT IT READS IS OF BULK AT MOST 1048576: true; the input reads as it did. -/
def routeAsksUptoRow : OpenClaim := { program := "ytjimaapiajldpaa", sum := "9fefa02cb1531c565fc67a13c600f7bf38dd1bbccdef5608e312fe5ed6b0d0ea", func := "sautoir/sautoirlaw28.RouteAsks", spec := "routeAsks", apart := false, narrowed := true }
def RouteAsksUptoSaid : Prop := routeAsksUptoRow.holds Try.pinned (OpenSpec.upto routeAsksSpec)

end Rows
end Go.Proofs.Ytjimaapiajldpaa
