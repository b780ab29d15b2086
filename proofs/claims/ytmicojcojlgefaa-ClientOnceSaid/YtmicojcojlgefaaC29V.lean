import Derived.Test.YtmicojcojlgefaaC29S
import Derived.Test.YtmicojcojlgefaaAwD
import Derived.Test.YtmicojcojlgefaaC29T
namespace Go.Aw
open Go
open Go.Proofs.Try (prog)
set_option linter.all false
set_option maxHeartbeats 8000000

/-! Arguments: ops, events. -/
abbrev tyOp : Ty := .st [.int .i64, .str, .str, .sl (.st [.str, .int .u64]), .sl (.st [.str, .str, .bool])]
abbrev tyEvent : Ty := .st [.int .i64, tyOp, tyLetter]
structure Cp.Arg (o : Cp) : Prop where
  w : o.Wide
  r : ∀ r ∈ o.rs, U64 r.n
theorem op_of1 {p : List AV} (h : Fits tyOp p) : ∃ o : Cp, Wks p o.cells ∧ o.Arg := by
  simp only [Fits] at h
  unfold FitsL at h; obtain ⟨p1, r1, rfl, h1, h⟩ := h
  unfold FitsL at h; obtain ⟨p2, r2, rfl, h2, h⟩ := h
  unfold FitsL at h; obtain ⟨p3, r3, rfl, h3, h⟩ := h
  unfold FitsL at h; obtain ⟨p4, r4, rfl, h4, h⟩ := h
  unfold FitsL at h; obtain ⟨p5, r5, rfl, h5, h⟩ := h
  unfold FitsL at h; subst h
  obtain ⟨rs, k1, rfl, hr, hro⟩ := slice_of (fun p hp => rd_of1 hp) h4
  obtain ⟨ws, k2, rfl, hw, hwo⟩ := slice_of (fun p hp => wt_of1 hp) h5
  simp only [Fits, FitsL] at h1 h2 h3
  obtain ⟨k, rfl, hk⟩ := h1
  obtain ⟨key, rfl, hkey⟩ := h2
  obtain ⟨v, rfl, hv⟩ := h3
  exact ⟨⟨k, key, v, rs, ws⟩, ⟨.refl _, .refl _, .refl _, .fz, .fz, trivial⟩, ⟨len_of_max hkey, len_of_max hv, ⟨hr, hw, fun r h => (hro r h).1, fun r h => (hwo r h).1, fun r h => (hwo r h).2⟩⟩, fun r h => (hro r h).2⟩
theorem ev_of1 {p : List AV} (h : Fits tyEvent p) : ∃ e : Ev, Wks p (evC e) ∧ e.o.Arg ∧ e.l.Arg := by
  simp only [Fits] at h
  unfold FitsL at h; obtain ⟨p1, r1, rfl, h1, h⟩ := h
  unfold FitsL at h; obtain ⟨p2, r2, rfl, h2, h⟩ := h
  unfold FitsL at h; obtain ⟨p3, r3, rfl, h3, h⟩ := h
  unfold FitsL at h; subst h
  obtain ⟨o, ho, ho2⟩ := op_of1 h2
  obtain ⟨l, hl, hl2⟩ := letter_of1 h3
  simp only [Fits, FitsL] at h1
  obtain ⟨k, rfl, hk⟩ := h1
  refine ⟨⟨k, o, l⟩, ?_, ho2, hl2⟩
  rw [List.append_nil]
  exact ⟨.refl _, ho.append hl⟩
end Go.Aw

namespace Go.Aw
open Go
open Go.Proofs.Try (prog)
set_option linter.all false
set_option maxHeartbeats 8000000
set_option maxRecDepth 8000

theorem cl0_at {me ma : Int} {S L : Nat} {v : Int} (h : cOk me ma S L v = true) : (cl0 me ma S L).At me ma 0 := by
  simp only [cOk, Bool.and_eq_true, decide_eq_true_eq] at h
  obtain ⟨⟨⟨⟨h1, h2⟩, h3⟩, h4⟩, h5⟩ := h
  exact ⟨rfl, rfl, ⟨⟨h1, h2⟩, ⟨h3, h4⟩, (show (0 : Nat) < 18446744073709551616 by decide), cfs0_ok h5, fun _ h => by cases h⟩, Nat.le_refl _, fun _ h => by cases h⟩
end Go.Aw

namespace Go.Aw
open Go
open Go.Proofs.Try (prog)
set_option linter.all false
set_option maxHeartbeats 4000000

/-! Arguments: rows of events, a setup. -/
abbrev tySt : Ty := .st [.int .i64, .int .i64, .int .i64]
theorem setup_of {a : AV} (h : FitsV tySt a) : ∃ s l v : Int, a = .agg (stC s l v) := by
  obtain ⟨cells, rfl, h⟩ := h
  simp only [FitsL, Fits] at h
  obtain ⟨_, _, rfl, ⟨s, rfl, _⟩, _, _, rfl, ⟨l, rfl, _⟩, _, _, rfl, ⟨v, rfl, _⟩, rfl⟩ := h
  exact ⟨s, l, v, rfl⟩
theorem evs_of {a : AV} (h : FitsV (.sl tyEvent) a) : ∃ es : List Ev, Wk a (.fz es.length (es.flatMap evC) none) ∧ Len es.length ∧ ∀ e ∈ es, e.Arg := by
  obtain ⟨xs, cap, rfl, hl, _⟩ := slice_ofV (α := { p : List AV // Fits tyEvent p }) (cells := Subtype.val) (ok := fun _ => True) (fun p hp => ⟨⟨p, hp⟩, rfl, trivial⟩) h
  refine ⟨xs.map fun x => Classical.choose (ev_of1 x.2), ?_, by rw [List.length_map]; exact hl, fun e he => ?_⟩
  · rw [List.length_map, List.flatMap_map]
    exact Wk.fzs (Wks.flatMap fun x _ => (Classical.choose_spec (ev_of1 x.2)).1)
  · obtain ⟨x, _, rfl⟩ := List.mem_map.1 he
    have h := (Classical.choose_spec (ev_of1 x.2)).2
    exact ⟨h.1.w, h.2⟩
end Go.Aw

