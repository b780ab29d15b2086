/- The law WalSure answers true for every input and leaves its arguments as they were: at whatever write the disk is lost, and whatever a crash leaves, all records that were synced are there, in order, and behind them only such as were added, in order; or, if it was lost at a compaction, just those that were handed to it. No condition. -/
import Derived.Test.YtpbnmegmhhkloaaDoorW6O
import Derived.Test.YtpbnmegmhhkloaaDoorAwD
import Derived.Test.YtpbnmegmhhkloaaDoorRows
import Derived.Test.YtpbnmegmhhkloaaDoorTie
import Derived.Test.YtpbnmegmhhkloaaDoorCards
import Derived.ChangeSame
import Derived.ChangeVars
import Derived.JoinedOf
import Derived.RowKit
import Derived.RowKitTokens
import Derived.LaidLaws
import Derived.LaidHandle
import Derived.Stop.Joined
import Derived.SevenTiedAt
namespace Go.Aw
open Go
set_option linter.all false
theorem byt_of1 {p : List AV} (h : q40 (.sl (.int .u8)) p) : ∃ r : List UInt8 × Option Nat, p = [bts r.1 r.2] ∧ Len r.1.length := by
  obtain ⟨l, k, rfl, hl⟩ := qfk h
  exact ⟨(l, k), rfl, hl⟩
theorem flat_btK (l : List (List UInt8 × Option Nat)) : (l.flatMap fun r => [bts r.1 r.2]) = btK l := by
  induction l with
  | nil => rfl
  | cons x l ih => simp only [List.flatMap_cons, ih]; rfl
abbrev tyU16s : Ty := .ar 2 (.int .u16)
abbrev tyWo : Ty := .st [.int .i64, .sl (.int .u8), .sl (.sl (.int .u8)), .int .i64, tyU16s]
theorem u16s_of {p : List AV} (h : q40 tyU16s p) : ∃ k0 k1 : Int, p = [.i .u16 k0, .i .u16 k1] ∧ (0 ≤ k0 ∧ k0 < 65536) ∧ (0 ≤ k1 ∧ k1 < 65536) := by
  simp only [q40] at h
  obtain ⟨ps, h1, h2, rfl⟩ := h
  match ps, h1 with
  | [a, b], _ =>
    obtain ⟨n, rfl, hw⟩ := h2 a (by simp)
    obtain ⟨m, rfl, hw'⟩ := h2 b (by simp)
    exact ⟨n, m, rfl, qn4 hw, qn4 hw'⟩
theorem wo_of {p : List AV} (h : q40 tyWo p) : ∃ o : Wo, p = woC o ∧ Len o.p.length := by
  unfold tyWo at h
  rw [q40] at h
  unfold q89 at h; obtain ⟨a1, b1, rfl, h1, h⟩ := h
  unfold q89 at h; obtain ⟨a2, b2, rfl, h2, h⟩ := h
  unfold q89 at h; obtain ⟨a3, b3, rfl, h3, h⟩ := h
  unfold q89 at h; obtain ⟨a4, b4, rfl, h4, h⟩ := h
  unfold q89 at h; obtain ⟨a5, b5, rfl, h5, h⟩ := h
  unfold q89 at h; subst h
  obtain ⟨k0, k1, rfl, q0, q1⟩ := u16s_of h5
  obtain ⟨x, k, rfl, hx⟩ := qfk h2
  obtain ⟨l, kl, rfl, hl, hlo⟩ := qc0 (fun p hp => byt_of1 hp) h3
  simp only [q40] at h1 h4
  obtain ⟨x1, rfl, _⟩ := h1
  obtain ⟨x4, rfl, w4⟩ := h4
  exact ⟨⟨x1, x, k, l.length, l.flatMap fun r => [bts r.1 r.2], kl, x4, k0, k1⟩, rfl, hx⟩
theorem u16s_ofV {a : AV} (h : qgl tyU16s a) : ∃ k0 k1 : Int, a = .agg [.i .u16 k0, .i .u16 k1] ∧ (0 ≤ k0 ∧ k0 < 65536) ∧ (0 ≤ k1 ∧ k1 < 65536) := by
  obtain ⟨cells, rfl, h⟩ := h
  obtain ⟨k0, k1, rfl, q0, q1⟩ := u16s_of h
  exact ⟨k0, k1, rfl, q0, q1⟩
end Go.Aw
namespace Go.Proofs.YtpbnmegmhhkloaaDoor
open Go Go.ChangeShapes Go.WideShapes Go.ChangeAt Go.RowKit Go.Aw
set_option linter.all false
theorem Tryd.own : ownKnob Tryd.prog.godebug = none := by kernel_rfl
theorem Tryd.laidOut : laidOutB Tryd.prog = true := by kernel_rfl
theorem Tryd.et : Tryd.prog.globalNamed "errors.errorType" = some 0 := by kernel_rfl
theorem Tryd.rt : (Tryd.prog.cutTypes.find? (·.1 == "internal/reflectlite.rtype")).map (·.2) = some 118 := by kernel_rfl
theorem Tryd.oneRow : ((List.range 158).filter fun t => Tryd.prog.rowNamed t [101, 114, 114, 111, 114]) = [77] := by kernel_rfl
theorem Tryd.size : Tryd.prog.types.size = 158 := by kernel_rfl
abbrev laidL : List (String × DataW Unit) := [("errors.errorType", Rows.laid_errors_errorType)]
/-- What the condition gives a walk: the variable's one cell. -/
theorem handle_of_laid {W : World} (h : laidMetH Tryd.prog laidL W) : W.cell? ⟨0, 0, none⟩ = some (.iface 118 (.agg #[.pointer (some ⟨1, 77, none⟩)])) := by
  have h' : laidMet Tryd.prog [] W ∧ handlesMet Tryd.prog laidL W := h
  obtain ⟨name, u, ty, e1, e2, e3, e4, e5⟩ := h'.2 _ (List.mem_singleton.2 rfl)
  have en : name = [101, 114, 114, 111, 114] := (Option.some.inj e1).symm
  subst en
  obtain rfl := Option.some.inj (Tryd.rt.symm.trans e2)
  have hm : ty ∈ (List.range 158).filter fun t => Tryd.prog.rowNamed t [101, 114, 114, 111, 114] := List.mem_filter.2 ⟨List.mem_range.2 (by rw [← Tryd.size]; exact e3), e4⟩
  rw [Tryd.oneRow] at hm
  obtain rfl := List.mem_singleton.1 hm
  have hh : typeHandle Tryd.prog 77 = .pointer (some ⟨1, 77, none⟩) := by kernel_rfl
  rw [hh] at e5
  simpa using World.var?_cell Tryd.et e5 0
/-- A world that meets the condition: the settled one, the variable's cell laid. -/
noncomputable def laidWorld (os : Os) : World :=
  let w0 := World.holding Tryd.prog os ⟨#[], #[], []⟩
  { w0 with heap := w0.heap.modify 0 fun
      | .cells _ t frozen => .cells #[.iface 118 (.agg #[.pointer (some ⟨1, 77, none⟩)])] t frozen
      | o => o }
theorem laidWorld_met (os : Os) (args : Array Value) : laidMetH Tryd.prog laidL ((laidWorld os).forCall (fun _ _ => 0) ⟨#[], args, []⟩).memory :=
  laidMetH_of_parts (laidMet_nil _ _) (by kernel_rfl)
theorem walSure_calls (l : List AV) (h : q9b [.sl tyWo, .int .u8, tyU16s] l) : ACalls Tryd.prog 5 l Tab.nil (fun v T' => v = .b true ∧ T' = Tab.nil) := by
  simp only [q9b] at h
  obtain ⟨a, _, rfl, h1, b, _, rfl, h2, c, _, rfl, h3, rfl⟩ := h
  obtain ⟨ops, cap, rfl, hl, hlr⟩ := qj7 (fun p hp => wo_of hp) h1
  obtain ⟨u, rfl, hu⟩ := qs8 h2
  obtain ⟨k0, k1, rfl, q0, q1⟩ := u16s_ofV h3
  exact qhh ops cap hl hlr u (qsa hu) k0 k1 q0 q1 _
set_option maxRecDepth 100000 in
theorem walSure_lifted (os : Os) (started : os.Started) (H : Type) (enc : TypeId × Value → H) :
    ReturnsInHanded {} Tryd.checked os 5 .any (fun w args => (Rows.walSureSpec.pre enc Tryd.prog Tryd.f5 [] false w args ∧ laidMetH Tryd.prog laidL w) ∧ sizedMet enc Tryd.prog Tryd.f5 (OpenSpec.ofChange Rows.walSureSpec) false w args)
      (Rows.walSureSpec.post enc Tryd.prog Tryd.f5 false true false false) := by
  refine returnsInHanded_of_change_and (C := Tryd.checked) (X := fun w _ => laidMetH Tryd.prog laidL w) (fun _ _ _ hh h => h.of_heap hh) Tryd.own started (by kernel_rfl) Tryd.func5
    (ChangeSpec.witness_at (enc := enc) (C := Tryd.checked) (os := os) (X := fun w _ => laidMetH Tryd.prog laidL w) false (laidWorld os) #[.slice none 0 0, .int .u8 0, .agg #[.int .u16 0, .int .u16 0]] 8 rfl (by kernel_rfl) (by kernel_rfl) (by kernel_rfl) (by kernel_rfl) (by kernel_rfl) (laidWorld_met os _)) ?_
  intro W base args ds gs before hval hW _ _ hL _
  exact qo3 (P := Tryd.prog) (tb := 4) [.sl tyWo, .int .u8, tyU16s] (by kernel_rfl) (by kernel_rfl) (by kernel_rfl) rfl (fun ds h => by
      match ds, h with
      | [_, _, _], _ => rfl) Tryd.laidOut (by
      rw [Tryd.params5]; decide +kernel) walSure_calls W (fun p hp => by
        obtain rfl := List.mem_singleton.1 hp
        exact handle_of_laid hL) base args ds gs before hval hW
theorem walSure_row : Rows.WalSureSaid :=
  OpenClaim.holds_of_wide 5 Tryd.f5 rfl rfl rfl rfl rfl rfl rfl ⟨rfl, rfl, rfl, rfl, rfl⟩ rfl rfl rfl rfl rfl (by kernel_rfl) Tryd.func5 (by kernel_rfl)
    (of_decide_eq_true (by kernel_rfl)) (by unfold Func.isWrapper; first | (rw [if_pos (by decide +kernel)]; kernel_rfl) | (rw [if_neg (by decide +kernel)]; exact ⟨rfl, rfl⟩))
    (fun os started H enc _ => walSure_lifted os started H enc)
theorem walSure_holds : Rows.WalSureCardSaid :=
  Claim7.holds_tied_plain_at .later [] [.handle] true (true, "e5a201b82bcbe1678acc47b3094a976464f432480d5fa8be7c4f278849e0147c") true
    walSure_row (fun _ h => by cases h) (by kernel_rfl) (fun _ h => by cases h) walSure_row_tie rfl ⟨rfl, rfl⟩ (by kernel_rfl) rfl
    (fun f fn hf hfn => by
      obtain rfl : f = 5 := Option.some.inj ((show Tryd.prog.funcNamed "sautoir/sautoirlaw06.WalSure" = some 5 by kernel_rfl).symm.trans hf) |>.symm
      obtain rfl : fn = Tryd.f5 := (Option.some.inj (Tryd.func5.symm.trans hfn)).symm
      exact ⟨by kernel_rfl, fun j t ht => by
        rw [Tryd.params5] at ht
        have key : ([43, 5, 45].all fun t => !Tryd.prog.wantsStandIn t) = true := by kernel_rfl
        have := List.all_eq_true.1 key t (by have := Array.mem_of_getElem? ht; simpa using this)
        exact (show Tryd.prog.wantsStandIn t = false by simpa using this)⟩)
    (by kernel_rfl)
end Go.Proofs.YtpbnmegmhhkloaaDoor
