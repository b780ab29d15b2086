import Derived.Test.YtmicojcojlgefaaC29L
import Derived.Test.YtmicojcojlgefaaAwD
namespace Go.Aw
open Go
open Go.Proofs.Try (prog)
set_option linter.all false
set_option maxHeartbeats 8000000

/-! Arguments: ops, events. -/
abbrev tyOp : Ty := .st [.int .i64, .str, .str, .sl (.st [.str, .int .u64]), .sl (.st [.str, .str, .bool])]
abbrev tyEvent : Ty := .st [.int .i64, tyOp, tyLetter]
structure Cp.Arg (o : Cp) : Prop where
  w : o.Wide
  r : ∀ r ∈ o.rs, U64 r.n
theorem op_of1 {p : List AV} (h : Fits tyOp p) : ∃ o : Cp, Wks p o.cells ∧ o.Arg := by
  simp only [Fits] at h
  unfold FitsL at h; obtain ⟨p1, r1, rfl, h1, h⟩ := h
  unfold FitsL at h; obtain ⟨p2, r2, rfl, h2, h⟩ := h
  unfold FitsL at h; obtain ⟨p3, r3, rfl, h3, h⟩ := h
  unfold FitsL at h; obtain ⟨p4, r4, rfl, h4, h⟩ := h
  unfold FitsL at h; obtain ⟨p5, r5, rfl, h5, h⟩ := h
  unfold FitsL at h; subst h
  obtain ⟨rs, k1, rfl, hr, hro⟩ := slice_of (fun p hp => rd_of1 hp) h4
  obtain ⟨ws, k2, rfl, hw, hwo⟩ := slice_of (fun p hp => wt_of1 hp) h5
  simp only [Fits, FitsL] at h1 h2 h3
  obtain ⟨k, rfl, hk⟩ := h1
  obtain ⟨key, rfl, hkey⟩ := h2
  obtain ⟨v, rfl, hv⟩ := h3
  exact ⟨⟨k, key, v, rs, ws⟩, ⟨.refl _, .refl _, .refl _, .fz, .fz, trivial⟩, ⟨len_of_max hkey, len_of_max hv, ⟨hr, hw, fun r h => (hro r h).1, fun r h => (hwo r h).1, fun r h => (hwo r h).2⟩⟩, fun r h => (hro r h).2⟩
theorem ev_of1 {p : List AV} (h : Fits tyEvent p) : ∃ e : Ev, Wks p (evC e) ∧ e.o.Arg ∧ e.l.Arg := by
  simp only [Fits] at h
  unfold FitsL at h; obtain ⟨p1, r1, rfl, h1, h⟩ := h
  unfold FitsL at h; obtain ⟨p2, r2, rfl, h2, h⟩ := h
  unfold FitsL at h; obtain ⟨p3, r3, rfl, h3, h⟩ := h
  unfold FitsL at h; subst h
  obtain ⟨o, ho, ho2⟩ := op_of1 h2
  obtain ⟨l, hl, hl2⟩ := letter_of1 h3
  simp only [Fits, FitsL] at h1
  obtain ⟨k, rfl, hk⟩ := h1
  refine ⟨⟨k, o, l⟩, ?_, ho2, hl2⟩
  rw [List.append_nil]
  exact ⟨.refl _, ho.append hl⟩
theorem ev_of {a : AV} (h : FitsV tyEvent a) : ∃ e : Ev, Wk a (.agg (evC e)) ∧ e.o.Arg ∧ e.l.Arg := by
  obtain ⟨cells, rfl, h⟩ := h
  have h' : Fits tyEvent cells := by simp only [Fits]; exact h
  obtain ⟨l, h1, h2⟩ := ev_of1 h'
  exact ⟨l, .agg h1, h2⟩
end Go.Aw

