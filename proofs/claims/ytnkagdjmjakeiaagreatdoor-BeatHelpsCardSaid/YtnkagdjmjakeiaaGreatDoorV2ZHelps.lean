/- The law BeatHelps answers true for every input and leaves its arguments as they were: the advised command is right and changes the state No condition. -/
import Derived.Test.YtnkagdjmjakeiaaGreatDoorV2K
import Derived.Test.YtnkagdjmjakeiaaGreatDoorV22G21Arg
import Derived.Test.YtnkagdjmjakeiaaGreatDoorRows
import Derived.Test.YtnkagdjmjakeiaaGreatDoorTie
import Derived.Test.YtnkagdjmjakeiaaGreatDoorCards
import Derived.ChangeSame
import Derived.ChangeVars
import Derived.JoinedOf
import Derived.RowKit
import Derived.RowKitTokens
import Derived.LaidLaws
import Derived.LaidHandle
import Derived.Stop.Joined
import Derived.SevenTiedAt
namespace Go.Aw
open Go
set_option linter.all false
abbrev tyEv : Ty := .st [.int .i64, .int .i64, .st [.int .i64, .int .u64, .bool, .int .i64]]
theorem ev_of1 {p : List AV} (h : q8o tyEv p) : ∃ e : Ev, p = evC e ∧ True := by
  simp only [q8o, qfk] at h
  obtain ⟨a1, b1, rfl, ⟨k, rfl, _⟩, a2, b2, rfl, ⟨n, rfl, _⟩, a3, b3, rfl, ⟨a4, b4, rfl, ⟨a, rfl, _⟩, a5, b5, rfl, ⟨b, rfl, _⟩, a6, b6, rfl, ⟨c, rfl⟩, a7, b7, rfl, ⟨d, rfl, _⟩, rfl⟩, rfl⟩ := h
  exact ⟨⟨k, n, ⟨a, b, c, d⟩⟩, rfl, trivial⟩
end Go.Aw
namespace Go.Proofs.YtnkagdjmjakeiaaGreatDoor
open Go Go.ChangeShapes Go.WideShapes Go.ChangeAt Go.RowKit Go.Aw
set_option linter.all false
theorem Tryz.own : ownKnob Tryz.prog.godebug = none := by kernel_rfl
theorem Tryz.laidOut : laidOutB Tryz.prog = true := by kernel_rfl
theorem Tryz.et : Tryz.prog.globalNamed "errors.errorType" = some 0 := by kernel_rfl
theorem Tryz.rt : (Tryz.prog.cutTypes.find? (·.1 == "internal/reflectlite.rtype")).map (·.2) = some 171 := by kernel_rfl
theorem Tryz.oneRow : ((List.range 214).filter fun t => Tryz.prog.rowNamed t [101, 114, 114, 111, 114]) = [106] := by kernel_rfl
theorem Tryz.size : Tryz.prog.types.size = 214 := by kernel_rfl
abbrev laidL : List (String × DataW Unit) := [("errors.errorType", Rows.laid_errors_errorType)]
/-- What the condition gives a walk: the variable's one cell. -/
theorem handle_of_laid {W : World} (h : laidMetH Tryz.prog laidL W) : W.cell? ⟨0, 0, none⟩ = some (.iface 171 (.agg #[.pointer (some ⟨1, 106, none⟩)])) := by
  have h' : laidMet Tryz.prog [] W ∧ handlesMet Tryz.prog laidL W := h
  obtain ⟨name, u, ty, e1, e2, e3, e4, e5⟩ := h'.2 _ (List.mem_singleton.2 rfl)
  have en : name = [101, 114, 114, 111, 114] := (Option.some.inj e1).symm
  subst en
  obtain rfl := Option.some.inj (Tryz.rt.symm.trans e2)
  have hm : ty ∈ (List.range 214).filter fun t => Tryz.prog.rowNamed t [101, 114, 114, 111, 114] := List.mem_filter.2 ⟨List.mem_range.2 (by rw [← Tryz.size]; exact e3), e4⟩
  rw [Tryz.oneRow] at hm
  obtain rfl := List.mem_singleton.1 hm
  have hh : typeHandle Tryz.prog 106 = .pointer (some ⟨1, 106, none⟩) := by kernel_rfl
  rw [hh] at e5
  simpa using World.var?_cell Tryz.et e5 0
/-- A world that meets the condition: the settled one, the variable's cell laid. -/
noncomputable def laidWorld (os : Os) : World :=
  let w0 := World.holding Tryz.prog os ⟨#[], #[], []⟩
  { w0 with heap := w0.heap.modify 0 fun
      | .cells _ t frozen => .cells #[.iface 171 (.agg #[.pointer (some ⟨1, 106, none⟩)])] t frozen
      | o => o }
theorem laidWorld_met (os : Os) (args : Array Value) : laidMetH Tryz.prog laidL ((laidWorld os).forCall (fun _ _ => 0) ⟨#[], args, []⟩).memory :=
  laidMetH_of_parts (laidMet_nil _ _) (by kernel_rfl)
theorem beatHelps_calls (l : List AV) (h : qcz [qyd, .sl qyc, .int .i64, .sl tyEv] l) : ACalls Tryz.prog 4 l Tab.nil (fun v T' => v = .b true ∧ T' = Tab.nil) := by
  simp only [qcz] at h
  obtain ⟨a, _, rfl, h1, b, _, rfl, h2, c, _, rfl, h3, d, _, rfl, h4, rfl⟩ := h
  obtain ⟨s, l0, v, rfl⟩ := qpw h1
  obtain ⟨l, cap, rfl, hl, hc⟩ := qh1 (fun p hp => qw3 hp) h2
  obtain ⟨m, rfl, _⟩ := qve h3
  obtain ⟨es, cap2, rfl, hl2, _⟩ := qh1 (fun p hp => ev_of1 hp) h4
  exact qhm s l0 v l cap m es cap2 hl (fun c h => (hc c h).2) hl2 _
set_option maxRecDepth 100000 in
theorem beatHelps_lifted (os : Os) (started : os.Started) (H : Type) (enc : TypeId × Value → H) :
    ReturnsInHanded {} Tryz.checked os 4 .any (fun w args => (Rows.beatHelpsSpec.pre enc Tryz.prog Tryz.f4 [] false w args ∧ laidMetH Tryz.prog laidL w) ∧ sizedMet enc Tryz.prog Tryz.f4 (OpenSpec.ofChange Rows.beatHelpsSpec) false w args)
      (Rows.beatHelpsSpec.post enc Tryz.prog Tryz.f4 false true false false) := by
  refine returnsInHanded_of_change_and (C := Tryz.checked) (X := fun w _ => laidMetH Tryz.prog laidL w) (fun _ _ _ hh h => h.of_heap hh) Tryz.own started (by kernel_rfl) Tryz.func4
    (ChangeSpec.witness_at (enc := enc) (C := Tryz.checked) (os := os) (X := fun w _ => laidMetH Tryz.prog laidL w) false (laidWorld os) #[.agg #[.int .i64 0, .int .i64 0, .int .i64 0], .slice none 0 0, .int .i64 0, .slice none 0 0] 8 rfl (by kernel_rfl) (by kernel_rfl) (by kernel_rfl) (by kernel_rfl) (by kernel_rfl) (laidWorld_met os _)) ?_
  intro W base args ds gs before hval hW _ _ hL _
  exact qr5 (P := Tryz.prog) (tb := 4) [qyd, .sl qyc, .int .i64, .sl tyEv] (by kernel_rfl) (by kernel_rfl) (by kernel_rfl) rfl (fun ds h => by
      match ds, h with
      | [_, _, _, _], _ => rfl) Tryz.laidOut (by
      rw [Tryz.params4]; decide +kernel) beatHelps_calls W (fun p hp => by
        obtain rfl := List.mem_singleton.1 hp
        exact handle_of_laid hL) base args ds gs before hval hW
theorem beatHelps_row : Rows.BeatHelpsSaid :=
  OpenClaim.holds_of_wide 4 Tryz.f4 rfl rfl rfl rfl rfl rfl rfl ⟨rfl, rfl, rfl, rfl, rfl⟩ rfl rfl rfl rfl rfl (by kernel_rfl) Tryz.func4 (by kernel_rfl)
    (of_decide_eq_true (by kernel_rfl)) (by unfold Func.isWrapper; first | (rw [if_pos (by decide +kernel)]; kernel_rfl) | (rw [if_neg (by decide +kernel)]; exact ⟨rfl, rfl⟩))
    (fun os started H enc _ => beatHelps_lifted os started H enc)
theorem beatHelps_holds : Rows.BeatHelpsCardSaid :=
  Claim7.holds_tied_plain_at .later [] [.handle] true (true, "12d651ce182659744da59c460584ecca50ba23484d1ce2e7d45010daf212bfed") true
    beatHelps_row (fun _ h => by cases h) (by kernel_rfl) (fun _ h => by cases h) beatHelps_row_tie rfl ⟨rfl, rfl⟩ (by kernel_rfl) rfl
    (fun f fn hf hfn => by
      obtain rfl : f = 4 := Option.some.inj ((show Tryz.prog.funcNamed "sautoir/sautoirlaw22.BeatHelps" = some 4 by kernel_rfl).symm.trans hf) |>.symm
      obtain rfl : fn = Tryz.f4 := (Option.some.inj (Tryz.func4.symm.trans hfn)).symm
      exact ⟨by kernel_rfl, fun j t ht => by
        rw [Tryz.params4] at ht
        have key : ([23, 24, 3, 25].all fun t => !Tryz.prog.wantsStandIn t) = true := by kernel_rfl
        have := List.all_eq_true.1 key t (by have := Array.mem_of_getElem? ht; simpa using this)
        exact (show Tryz.prog.wantsStandIn t = false by simpa using this)⟩)
    (by kernel_rfl)
end Go.Proofs.YtnkagdjmjakeiaaGreatDoor
