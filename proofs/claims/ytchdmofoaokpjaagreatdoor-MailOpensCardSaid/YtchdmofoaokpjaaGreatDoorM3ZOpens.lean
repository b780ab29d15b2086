/- The law MailOpens answers true for every input and leaves its arguments as they were: what is taken opens as what was sent; garbled by some bits it does not open. No condition. -/
import Derived.Test.YtchdmofoaokpjaaGreatDoorM3J
import Derived.Test.YtchdmofoaokpjaaGreatDoorM30N17F04S
import Derived.Test.YtchdmofoaokpjaaGreatDoorRows
import Derived.Test.YtchdmofoaokpjaaGreatDoorTie
import Derived.Test.YtchdmofoaokpjaaGreatDoorCards
import Derived.ChangeSame
import Derived.ChangeVars
import Derived.JoinedOf
import Derived.RowKit
import Derived.RowKitTokens
import Derived.LaidLaws
import Derived.LaidHandle
import Derived.Stop.Joined
import Derived.SevenTiedAt
namespace Go.Aw
open Go
set_option linter.all false
structure LtX where
  p : List AV
  l : Lt Rf
  w : Wks p l.rc
  a : l.Arg
theorem ltx_of1 {p : List AV} (h : q7t qjo p) : ∃ x : LtX, p = x.p ∧ True := by
  obtain ⟨l, h1, h2⟩ := qwj h
  exact ⟨⟨p, l, h1, h2⟩, rfl, trivial⟩
end Go.Aw
namespace Go.Proofs.YtchdmofoaokpjaaGreatDoor
open Go Go.ChangeShapes Go.WideShapes Go.ChangeAt Go.RowKit Go.Aw
set_option linter.all false
theorem Tryz.own : ownKnob Tryz.prog.godebug = none := by kernel_rfl
theorem Tryz.laidOut : laidOutB Tryz.prog = true := by kernel_rfl
theorem Tryz.et : Tryz.prog.globalNamed "errors.errorType" = some 0 := by kernel_rfl
theorem Tryz.rt : (Tryz.prog.cutTypes.find? (·.1 == "internal/reflectlite.rtype")).map (·.2) = some 221 := by kernel_rfl
theorem Tryz.oneRow : ((List.range 296).filter fun t => Tryz.prog.rowNamed t [101, 114, 114, 111, 114]) = [115] := by kernel_rfl
theorem Tryz.size : Tryz.prog.types.size = 296 := by kernel_rfl
abbrev laidL : List (String × DataW Unit) := [("errors.errorType", Rows.laid_errors_errorType)]
/-- What the condition gives a walk: the variable's one cell. -/
theorem handle_of_laid {W : World} (h : laidMetH Tryz.prog laidL W) : W.cell? ⟨0, 0, none⟩ = some (.iface 221 (.agg #[.pointer (some ⟨1, 115, none⟩)])) := by
  have h' : laidMet Tryz.prog [] W ∧ handlesMet Tryz.prog laidL W := h
  obtain ⟨name, u, ty, e1, e2, e3, e4, e5⟩ := h'.2 _ (List.mem_singleton.2 rfl)
  have en : name = [101, 114, 114, 111, 114] := (Option.some.inj e1).symm
  subst en
  obtain rfl := Option.some.inj (Tryz.rt.symm.trans e2)
  have hm : ty ∈ (List.range 296).filter fun t => Tryz.prog.rowNamed t [101, 114, 114, 111, 114] := List.mem_filter.2 ⟨List.mem_range.2 (by rw [← Tryz.size]; exact e3), e4⟩
  rw [Tryz.oneRow] at hm
  obtain rfl := List.mem_singleton.1 hm
  have hh : typeHandle Tryz.prog 115 = .pointer (some ⟨1, 115, none⟩) := by kernel_rfl
  rw [hh] at e5
  simpa using World.var?_cell Tryz.et e5 0
/-- A world that meets the condition: the settled one, the variable's cell laid. -/
noncomputable def laidWorld (os : Os) : World :=
  let w0 := World.holding Tryz.prog os ⟨#[], #[], []⟩
  { w0 with heap := w0.heap.modify 0 fun
      | .cells _ t frozen => .cells #[.iface 221 (.agg #[.pointer (some ⟨1, 115, none⟩)])] t frozen
      | o => o }
theorem laidWorld_met (os : Os) (args : Array Value) : laidMetH Tryz.prog laidL ((laidWorld os).forCall (fun _ _ => 0) ⟨#[], args, []⟩).memory :=
  laidMetH_of_parts (laidMet_nil _ _) (by kernel_rfl)
theorem mailOpens_calls (l : List AV) (h : qkc [.sl qjo, .int .i64, .int .u16, .int .u32] l) : ACalls Tryz.prog 4 l Tab.nil (fun v T' => v = .b true ∧ T' = Tab.nil) := by
  simp only [qkc] at h
  obtain ⟨a, _, rfl, h1, b, _, rfl, h2, c, _, rfl, h3, e, _, rfl, h4, rfl⟩ := h
  obtain ⟨xs, cap, rfl, hl, _⟩ := qyi (fun p hp => ltx_of1 hp) h1
  obtain ⟨k, rfl, _⟩ := qyg h2
  obtain ⟨n, rfl, hn⟩ := qyg h3
  have hn := z9y hn
  obtain ⟨n, rfl⟩ := Int.eq_ofNat_of_zero_le hn.1
  obtain ⟨m, rfl, hm⟩ := qyg h4
  have a3 : IntKind.u32.min = 0 := rfl
  have a4 : IntKind.u32.max = 4294967295 := rfl
  obtain ⟨m', rfl⟩ : ∃ m' : W, m = (m'.toNat : Int) := ⟨BitVec.ofInt 32 m, by simp [Lit.wf, a3, a4] at hm; rw [BitVec.toNat_ofInt]; omega⟩
  have hw : Wk (.fz xs.length (xs.flatMap LtX.p) cap) (.fz (xs.map LtX.l).length (z0p (xs.map LtX.l)) none) := by
    rw [List.length_map, z0p, List.flatMap_map]
    exact Wk.fzs (Wks.flatMap fun x _ => x.w)
  exact PCalls.wk (Wks.cons hw (Wks.refl _)) (qrb (xs.map LtX.l) none k n m' (by rw [List.length_map]; exact hl) (fun x hx => by
    obtain ⟨y, _, rfl⟩ := List.mem_map.1 hx
    exact y.a) (by omega)) _
set_option maxRecDepth 100000 in
theorem mailOpens_lifted (os : Os) (started : os.Started) (H : Type) (enc : TypeId × Value → H) :
    ReturnsInHanded {} Tryz.checked os 4 .any (fun w args => (Rows.mailOpensSpec.pre enc Tryz.prog Tryz.f4 [] false w args ∧ laidMetH Tryz.prog laidL w) ∧ sizedMet enc Tryz.prog Tryz.f4 (OpenSpec.ofChange Rows.mailOpensSpec) false w args)
      (Rows.mailOpensSpec.post enc Tryz.prog Tryz.f4 false true false false) := by
  refine returnsInHanded_of_change_and (C := Tryz.checked) (X := fun w _ => laidMetH Tryz.prog laidL w) (fun _ _ _ hh h => h.of_heap hh) Tryz.own started (by kernel_rfl) Tryz.func4
    (ChangeSpec.witness_at (enc := enc) (C := Tryz.checked) (os := os) (X := fun w _ => laidMetH Tryz.prog laidL w) false (laidWorld os) #[.slice none 0 0, .int .i64 0, .int .u16 0, .int .u32 0] 8 rfl (by kernel_rfl) (by kernel_rfl) (by kernel_rfl) (by kernel_rfl) (by kernel_rfl) (laidWorld_met os _)) ?_
  intro W base args ds gs before hval hW _ _ hL _
  exact z52 (P := Tryz.prog) (tb := 4) [.sl qjo, .int .i64, .int .u16, .int .u32] (by kernel_rfl) (by kernel_rfl) (by kernel_rfl) rfl (fun ds h => by
      match ds, h with
      | [_, _, _, _], _ => rfl) Tryz.laidOut (by
      rw [Tryz.params4]; decide +kernel) mailOpens_calls W (fun p hp => by
        obtain rfl := List.mem_singleton.1 hp
        exact handle_of_laid hL) base args ds gs before hval hW
theorem mailOpens_row : Rows.MailOpensSaid :=
  OpenClaim.holds_of_wide 4 Tryz.f4 rfl rfl rfl rfl rfl rfl rfl ⟨rfl, rfl, rfl, rfl, rfl⟩ rfl rfl rfl rfl rfl (by kernel_rfl) Tryz.func4 (by kernel_rfl)
    (of_decide_eq_true (by kernel_rfl)) (by unfold Func.isWrapper; first | (rw [if_pos (by decide +kernel)]; kernel_rfl) | (rw [if_neg (by decide +kernel)]; exact ⟨rfl, rfl⟩))
    (fun os started H enc _ => mailOpens_lifted os started H enc)
theorem mailOpens_holds : Rows.MailOpensCardSaid :=
  Claim7.holds_tied_plain_at .later [] [.handle] true (true, "4edc7b6bd0fc81c469bf5ddafde932545897de0a955b8efe3e86475fa42f8ffa") true
    mailOpens_row (fun _ h => by cases h) (by kernel_rfl) (fun _ h => by cases h) mailOpens_row_tie rfl ⟨rfl, rfl⟩ (by kernel_rfl) rfl
    (fun f fn hf hfn => by
      obtain rfl : f = 4 := Option.some.inj ((show Tryz.prog.funcNamed "sautoir/sautoirlaw30.MailOpens" = some 4 by kernel_rfl).symm.trans hf) |>.symm
      obtain rfl : fn = Tryz.f4 := (Option.some.inj (Tryz.func4.symm.trans hfn)).symm
      exact ⟨by kernel_rfl, fun j t ht => by
        rw [Tryz.params4] at ht
        have key : ([51, 3, 52, 53].all fun t => !Tryz.prog.wantsStandIn t) = true := by kernel_rfl
        have := List.all_eq_true.1 key t (by have := Array.mem_of_getElem? ht; simpa using this)
        exact (show Tryz.prog.wantsStandIn t = false by simpa using this)⟩)
    (by kernel_rfl)
end Go.Proofs.YtchdmofoaokpjaaGreatDoor
