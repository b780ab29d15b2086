/- The law WalFull answers true for every input and leaves its arguments as they were: what does not fit is refused, and changes nothing: the records are as they were. No condition. -/
import Derived.Test.YtpbnmegmhhkloaaDoorW6L
import Derived.Test.YtpbnmegmhhkloaaDoorAwD
import Derived.Test.YtpbnmegmhhkloaaDoorRows
import Derived.Test.YtpbnmegmhhkloaaDoorTie
import Derived.Test.YtpbnmegmhhkloaaDoorCards
import Derived.ChangeSame
import Derived.ChangeVars
import Derived.JoinedOf
import Derived.RowKit
import Derived.RowKitTokens
import Derived.LaidLaws
import Derived.LaidHandle
import Derived.Stop.Joined
import Derived.SevenTiedAt
namespace Go.Aw
open Go
set_option linter.all false
theorem byt_of1 {p : List AV} (h : q58 (.sl (.int .u8)) p) : ∃ r : List UInt8 × Option Nat, p = [bts r.1 r.2] ∧ Len r.1.length := by
  obtain ⟨l, k, rfl, hl⟩ := qjy h
  exact ⟨(l, k), rfl, hl⟩
theorem flat_btK (l : List (List UInt8 × Option Nat)) : (l.flatMap fun r => [bts r.1 r.2]) = btK l := by
  induction l with
  | nil => rfl
  | cons x l ih => simp only [List.flatMap_cons, ih]; rfl
end Go.Aw
namespace Go.Proofs.YtpbnmegmhhkloaaDoor
open Go Go.ChangeShapes Go.WideShapes Go.ChangeAt Go.RowKit Go.Aw
set_option linter.all false
theorem Tryd.own : ownKnob Tryd.prog.godebug = none := by kernel_rfl
theorem Tryd.laidOut : laidOutB Tryd.prog = true := by kernel_rfl
theorem Tryd.et : Tryd.prog.globalNamed "errors.errorType" = some 0 := by kernel_rfl
theorem Tryd.rt : (Tryd.prog.cutTypes.find? (·.1 == "internal/reflectlite.rtype")).map (·.2) = some 118 := by kernel_rfl
theorem Tryd.oneRow : ((List.range 158).filter fun t => Tryd.prog.rowNamed t [101, 114, 114, 111, 114]) = [77] := by kernel_rfl
theorem Tryd.size : Tryd.prog.types.size = 158 := by kernel_rfl
abbrev laidL : List (String × DataW Unit) := [("errors.errorType", Rows.laid_errors_errorType)]
/-- What the condition gives a walk: the variable's one cell. -/
theorem handle_of_laid {W : World} (h : laidMetH Tryd.prog laidL W) : W.cell? ⟨0, 0, none⟩ = some (.iface 118 (.agg #[.pointer (some ⟨1, 77, none⟩)])) := by
  have h' : laidMet Tryd.prog [] W ∧ handlesMet Tryd.prog laidL W := h
  obtain ⟨name, u, ty, e1, e2, e3, e4, e5⟩ := h'.2 _ (List.mem_singleton.2 rfl)
  have en : name = [101, 114, 114, 111, 114] := (Option.some.inj e1).symm
  subst en
  obtain rfl := Option.some.inj (Tryd.rt.symm.trans e2)
  have hm : ty ∈ (List.range 158).filter fun t => Tryd.prog.rowNamed t [101, 114, 114, 111, 114] := List.mem_filter.2 ⟨List.mem_range.2 (by rw [← Tryd.size]; exact e3), e4⟩
  rw [Tryd.oneRow] at hm
  obtain rfl := List.mem_singleton.1 hm
  have hh : typeHandle Tryd.prog 77 = .pointer (some ⟨1, 77, none⟩) := by kernel_rfl
  rw [hh] at e5
  simpa using World.var?_cell Tryd.et e5 0
/-- A world that meets the condition: the settled one, the variable's cell laid. -/
noncomputable def laidWorld (os : Os) : World :=
  let w0 := World.holding Tryd.prog os ⟨#[], #[], []⟩
  { w0 with heap := w0.heap.modify 0 fun
      | .cells _ t frozen => .cells #[.iface 118 (.agg #[.pointer (some ⟨1, 77, none⟩)])] t frozen
      | o => o }
theorem laidWorld_met (os : Os) (args : Array Value) : laidMetH Tryd.prog laidL ((laidWorld os).forCall (fun _ _ => 0) ⟨#[], args, []⟩).memory :=
  laidMetH_of_parts (laidMet_nil _ _) (by kernel_rfl)
theorem walFull_calls (l : List AV) (h : q8d [.int .u8, .sl (.sl (.int .u8))] l) : ACalls Tryd.prog 4 l Tab.nil (fun v T' => v = .b true ∧ T' = Tab.nil) := by
  simp only [q8d] at h
  obtain ⟨b, _, rfl, h2, a, _, rfl, h1, rfl⟩ := h
  obtain ⟨l, k, rfl, hl, hlr⟩ := qhq (fun p hp => byt_of1 hp) h1
  rw [flat_btK]
  obtain ⟨u, rfl, hu⟩ := qqd h2
  exact qfz u (qqe hu) l k hl hlr _
set_option maxRecDepth 100000 in
theorem walFull_lifted (os : Os) (started : os.Started) (H : Type) (enc : TypeId × Value → H) :
    ReturnsInHanded {} Tryd.checked os 4 .any (fun w args => (Rows.walFullSpec.pre enc Tryd.prog Tryd.f4 [] false w args ∧ laidMetH Tryd.prog laidL w) ∧ sizedMet enc Tryd.prog Tryd.f4 (OpenSpec.ofChange Rows.walFullSpec) false w args)
      (Rows.walFullSpec.post enc Tryd.prog Tryd.f4 false true false false) := by
  refine returnsInHanded_of_change_and (C := Tryd.checked) (X := fun w _ => laidMetH Tryd.prog laidL w) (fun _ _ _ hh h => h.of_heap hh) Tryd.own started (by kernel_rfl) Tryd.func4
    (ChangeSpec.witness_at (enc := enc) (C := Tryd.checked) (os := os) (X := fun w _ => laidMetH Tryd.prog laidL w) false (laidWorld os) #[.int .u8 0, .slice none 0 0] 8 rfl (by kernel_rfl) (by kernel_rfl) (by kernel_rfl) (by kernel_rfl) (by kernel_rfl) (laidWorld_met os _)) ?_
  intro W base args ds gs before hval hW _ _ hL _
  exact qm8 (P := Tryd.prog) (tb := 4) [.int .u8, .sl (.sl (.int .u8))] (by kernel_rfl) (by kernel_rfl) (by kernel_rfl) rfl (fun ds h => by
      match ds, h with
      | [_, _], _ => rfl) Tryd.laidOut (by
      rw [Tryd.params4]; decide +kernel) walFull_calls W (fun p hp => by
        obtain rfl := List.mem_singleton.1 hp
        exact handle_of_laid hL) base args ds gs before hval hW
theorem walFull_row : Rows.WalFullSaid :=
  OpenClaim.holds_of_wide 4 Tryd.f4 rfl rfl rfl rfl rfl rfl rfl ⟨rfl, rfl, rfl, rfl, rfl⟩ rfl rfl rfl rfl rfl (by kernel_rfl) Tryd.func4 (by kernel_rfl)
    (of_decide_eq_true (by kernel_rfl)) (by unfold Func.isWrapper; first | (rw [if_pos (by decide +kernel)]; kernel_rfl) | (rw [if_neg (by decide +kernel)]; exact ⟨rfl, rfl⟩))
    (fun os started H enc _ => walFull_lifted os started H enc)
theorem walFull_holds : Rows.WalFullCardSaid :=
  Claim7.holds_tied_plain_at .later [] [.handle] true (true, "e5a201b82bcbe1678acc47b3094a976464f432480d5fa8be7c4f278849e0147c") true
    walFull_row (fun _ h => by cases h) (by kernel_rfl) (fun _ h => by cases h) walFull_row_tie rfl ⟨rfl, rfl⟩ (by kernel_rfl) rfl
    (fun f fn hf hfn => by
      obtain rfl : f = 4 := Option.some.inj ((show Tryd.prog.funcNamed "sautoir/sautoirlaw06.WalFull" = some 4 by kernel_rfl).symm.trans hf) |>.symm
      obtain rfl : fn = Tryd.f4 := (Option.some.inj (Tryd.func4.symm.trans hfn)).symm
      exact ⟨by kernel_rfl, fun j t ht => by
        rw [Tryd.params4] at ht
        have key : ([5, 28].all fun t => !Tryd.prog.wantsStandIn t) = true := by kernel_rfl
        have := List.all_eq_true.1 key t (by have := Array.mem_of_getElem? ht; simpa using this)
        exact (show Tryd.prog.wantsStandIn t = false by simpa using this)⟩)
    (by kernel_rfl)
end Go.Proofs.YtpbnmegmhhkloaaDoor
