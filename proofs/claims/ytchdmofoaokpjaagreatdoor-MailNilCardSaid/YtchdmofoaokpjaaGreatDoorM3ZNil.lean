/- The law MailNil answers true for every input and leaves its arguments as they were: mail that is not there has nothing. No condition. -/
import Derived.Test.YtchdmofoaokpjaaGreatDoorM3E
import Derived.Test.YtchdmofoaokpjaaGreatDoorM30N17F04S
import Derived.Test.YtchdmofoaokpjaaGreatDoorRows
import Derived.Test.YtchdmofoaokpjaaGreatDoorTie
import Derived.Test.YtchdmofoaokpjaaGreatDoorCards
import Derived.ChangeSame
import Derived.ChangeVars
import Derived.JoinedOf
import Derived.RowKit
import Derived.RowKitTokens
import Derived.LaidLaws
import Derived.LaidHandle
import Derived.Stop.Joined
import Derived.SevenTiedAt
namespace Go.Aw
open Go
set_option linter.all false
abbrev tyOp : Ty := .st [.int .i64, qup, .int .i64, .int .u16, .int .u32]
theorem op_of1 {p : List AV} (h : q79 tyOp p) : ∃ (o : Int) (l : Lt Rf) (k a m : Int), Wks p (.i .i64 o :: (l.rc ++ [.i .i64 k, .i .u16 a, .i .u32 m])) ∧ l.Arg ∧ Lit.wf (.int .u16 a) = true ∧ Lit.wf (.int .u32 m) = true := by
  simp only [q79] at h
  unfold q2j at h; obtain ⟨p1, r1, rfl, h1, h⟩ := h
  unfold q2j at h; obtain ⟨p2, r2, rfl, h2, h⟩ := h
  unfold q2j at h; obtain ⟨p3, r3, rfl, h3, h⟩ := h
  unfold q2j at h; obtain ⟨p4, r4, rfl, h4, h⟩ := h
  unfold q2j at h; obtain ⟨p5, r5, rfl, h5, h⟩ := h
  simp only [q2j] at h
  subst h
  obtain ⟨l, hw, ha⟩ := qwf h2
  simp only [q79] at h1 h3 h4 h5
  obtain ⟨o, rfl, _⟩ := h1
  obtain ⟨k, rfl, _⟩ := h3
  obtain ⟨a, rfl, ha4⟩ := h4
  obtain ⟨m, rfl, hm⟩ := h5
  refine ⟨o, l, k, a, m, ?_, ha, ha4, hm⟩
  have e := Wks.append (Wks.refl [AV.i .i64 o]) (Wks.append hw (Wks.refl [AV.i .i64 k, .i .u16 a, .i .u32 m]))
  simpa only [List.cons_append, List.nil_append, List.append_nil] using e
theorem op_of {a : AV} (h : z4j tyOp a) : ∃ (o : Int) (l : Lt Rf) (k b m : Int), Wk a (.agg (.i .i64 o :: (l.rc ++ [.i .i64 k, .i .u16 b, .i .u32 m]))) ∧ l.Arg := by
  obtain ⟨cells, rfl, h⟩ := h
  have h' : q79 tyOp cells := by simp only [q79]; exact h
  obtain ⟨o, l, k, b, m, h1, h2, _⟩ := op_of1 h'
  exact ⟨o, l, k, b, m, .agg h1, h2⟩
end Go.Aw
namespace Go.Proofs.YtchdmofoaokpjaaGreatDoor
open Go Go.ChangeShapes Go.WideShapes Go.ChangeAt Go.RowKit Go.Aw
set_option linter.all false
theorem Tryz.own : ownKnob Tryz.prog.godebug = none := by kernel_rfl
theorem Tryz.laidOut : laidOutB Tryz.prog = true := by kernel_rfl
theorem Tryz.et : Tryz.prog.globalNamed "errors.errorType" = some 0 := by kernel_rfl
theorem Tryz.rt : (Tryz.prog.cutTypes.find? (·.1 == "internal/reflectlite.rtype")).map (·.2) = some 221 := by kernel_rfl
theorem Tryz.oneRow : ((List.range 296).filter fun t => Tryz.prog.rowNamed t [101, 114, 114, 111, 114]) = [115] := by kernel_rfl
theorem Tryz.size : Tryz.prog.types.size = 296 := by kernel_rfl
abbrev laidL : List (String × DataW Unit) := [("errors.errorType", Rows.laid_errors_errorType)]
/-- What the condition gives a walk: the variable's one cell. -/
theorem handle_of_laid {W : World} (h : laidMetH Tryz.prog laidL W) : W.cell? ⟨0, 0, none⟩ = some (.iface 221 (.agg #[.pointer (some ⟨1, 115, none⟩)])) := by
  have h' : laidMet Tryz.prog [] W ∧ handlesMet Tryz.prog laidL W := h
  obtain ⟨name, u, ty, e1, e2, e3, e4, e5⟩ := h'.2 _ (List.mem_singleton.2 rfl)
  have en : name = [101, 114, 114, 111, 114] := (Option.some.inj e1).symm
  subst en
  obtain rfl := Option.some.inj (Tryz.rt.symm.trans e2)
  have hm : ty ∈ (List.range 296).filter fun t => Tryz.prog.rowNamed t [101, 114, 114, 111, 114] := List.mem_filter.2 ⟨List.mem_range.2 (by rw [← Tryz.size]; exact e3), e4⟩
  rw [Tryz.oneRow] at hm
  obtain rfl := List.mem_singleton.1 hm
  have hh : typeHandle Tryz.prog 115 = .pointer (some ⟨1, 115, none⟩) := by kernel_rfl
  rw [hh] at e5
  simpa using World.var?_cell Tryz.et e5 0
/-- A world that meets the condition: the settled one, the variable's cell laid. -/
noncomputable def laidWorld (os : Os) : World :=
  let w0 := World.holding Tryz.prog os ⟨#[], #[], []⟩
  { w0 with heap := w0.heap.modify 0 fun
      | .cells _ t frozen => .cells #[.iface 221 (.agg #[.pointer (some ⟨1, 115, none⟩)])] t frozen
      | o => o }
theorem laidWorld_met (os : Os) (args : Array Value) : laidMetH Tryz.prog laidL ((laidWorld os).forCall (fun _ _ => 0) ⟨#[], args, []⟩).memory :=
  laidMetH_of_parts (laidMet_nil _ _) (by kernel_rfl)
theorem mailNil_calls (l : List AV) (h : qk8 [tyOp] l) : ACalls Tryz.prog 6 l Tab.nil (fun v T' => v = .b true ∧ T' = Tab.nil) := by
  simp only [qk8] at h
  obtain ⟨a, _, rfl, h1, rfl⟩ := h
  obtain ⟨o, l, k, b, m, hw, ha⟩ := op_of h1
  exact PCalls.wk (Wks.one hw) (qwk o l ha.wide k b m) _
set_option maxRecDepth 100000 in
theorem mailNil_lifted (os : Os) (started : os.Started) (H : Type) (enc : TypeId × Value → H) :
    ReturnsInHanded {} Tryz.checked os 6 .any (fun w args => (Rows.mailNilSpec.pre enc Tryz.prog Tryz.f6 [] false w args ∧ laidMetH Tryz.prog laidL w) ∧ sizedMet enc Tryz.prog Tryz.f6 (OpenSpec.ofChange Rows.mailNilSpec) false w args)
      (Rows.mailNilSpec.post enc Tryz.prog Tryz.f6 false true false false) := by
  refine returnsInHanded_of_change_and (C := Tryz.checked) (X := fun w _ => laidMetH Tryz.prog laidL w) (fun _ _ _ hh h => h.of_heap hh) Tryz.own started (by kernel_rfl) Tryz.func6
    (ChangeSpec.witness_at (enc := enc) (C := Tryz.checked) (os := os) (X := fun w _ => laidMetH Tryz.prog laidL w) false (laidWorld os) #[.agg #[.int .i64 0, .int .i64 0, .int .i64 0, .int .i64 0, .int .i64 0, .int .i64 0, .int .i64 0, .int .u64 0, .int .i64 0, .int .i64 0, .int .i64 0, .bool false, .int .u64 0, .int .i64 0, .slice none 0 0, .slice none 0 0, .slice none 0 0, .int .i64 0, .int .u64 0, .bool false, .slice none 0 0, .slice none 0 0, .int .i64 0, .int .u64 0, .string ⟨#[]⟩, .int .u64 0, .int .i64 0, .int .i64 0, .int .u16 0, .int .u32 0]] 8 rfl (by kernel_rfl) (by kernel_rfl) (by kernel_rfl) (by kernel_rfl) (by kernel_rfl) (laidWorld_met os _)) ?_
  intro W base args ds gs before hval hW _ _ hL _
  exact z4k (P := Tryz.prog) (tb := 4) [tyOp] (by kernel_rfl) (by kernel_rfl) (by kernel_rfl) rfl (fun ds h => by
      match ds, h with
      | [_], _ => rfl) Tryz.laidOut (by
      rw [Tryz.params6]; decide +kernel) mailNil_calls W (fun p hp => by
        obtain rfl := List.mem_singleton.1 hp
        exact handle_of_laid hL) base args ds gs before hval hW
theorem mailNil_row : Rows.MailNilSaid :=
  OpenClaim.holds_of_wide 6 Tryz.f6 rfl rfl rfl rfl rfl rfl rfl ⟨rfl, rfl, rfl, rfl, rfl⟩ rfl rfl rfl rfl rfl (by kernel_rfl) Tryz.func6 (by kernel_rfl)
    (of_decide_eq_true (by kernel_rfl)) (by unfold Func.isWrapper; first | (rw [if_pos (by decide +kernel)]; kernel_rfl) | (rw [if_neg (by decide +kernel)]; exact ⟨rfl, rfl⟩))
    (fun os started H enc _ => mailNil_lifted os started H enc)
theorem mailNil_holds : Rows.MailNilCardSaid :=
  Claim7.holds_tied_plain_at .later [] [.handle] true (true, "4edc7b6bd0fc81c469bf5ddafde932545897de0a955b8efe3e86475fa42f8ffa") true
    mailNil_row (fun _ h => by cases h) (by kernel_rfl) (fun _ h => by cases h) mailNil_row_tie rfl ⟨rfl, rfl⟩ (by kernel_rfl) rfl
    (fun f fn hf hfn => by
      obtain rfl : f = 6 := Option.some.inj ((show Tryz.prog.funcNamed "sautoir/sautoirlaw30.MailNil" = some 6 by kernel_rfl).symm.trans hf) |>.symm
      obtain rfl : fn = Tryz.f6 := (Option.some.inj (Tryz.func6.symm.trans hfn)).symm
      exact ⟨by kernel_rfl, fun j t ht => by
        rw [Tryz.params6] at ht
        have key : ([77].all fun t => !Tryz.prog.wantsStandIn t) = true := by kernel_rfl
        have := List.all_eq_true.1 key t (by have := Array.mem_of_getElem? ht; simpa using this)
        exact (show Tryz.prog.wantsStandIn t = false by simpa using this)⟩)
    (by kernel_rfl)
end Go.Proofs.YtchdmofoaokpjaaGreatDoor
