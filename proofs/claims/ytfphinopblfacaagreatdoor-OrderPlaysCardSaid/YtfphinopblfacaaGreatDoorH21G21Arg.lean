import Derived.Test.YtfphinopblfacaaGreatDoorH21G21C
import Derived.Test.YtfphinopblfacaaGreatDoorAwD
namespace Go.Aw
open Go
set_option linter.all false

abbrev tyCm : Ty := .st [.int .i64, .int .i64, .int .u64, .int .i64]
theorem cm_of1 {p : List AV} (h : Fits tyCm p) : ∃ c : Cm, p = c.cells ∧ (0 ≤ c.ep ∧ c.ep < 18446744073709551616) := by
  simp only [Fits, FitsL] at h
  obtain ⟨a1, b1, rfl, ⟨k, rfl, hk⟩, a2, b2, rfl, ⟨s, rfl, hs⟩, a3, b3, rfl, ⟨e, rfl, he⟩, a4, b4, rfl, ⟨n, rfl, hn⟩, rfl⟩ := h
  exact ⟨⟨k, s, e, n⟩, rfl, wf_u64 he⟩
theorem cm_of {a : AV} (h : FitsV tyCm a) : ∃ c : Cm, a = .agg c.cells ∧ (0 ≤ c.ep ∧ c.ep < 18446744073709551616) := by
  obtain ⟨cells, rfl, h⟩ := h
  have h' : Fits tyCm cells := by simp only [Fits]; exact h
  obtain ⟨c, rfl, hc⟩ := cm_of1 h'
  exact ⟨c, rfl, hc⟩
abbrev tySt : Ty := .st [.int .i64, .int .i64, .int .i64]
theorem setup_of {a : AV} (h : FitsV tySt a) : ∃ s l v : Int, a = .agg [.i .i64 s, .i .i64 l, .i .i64 v] := by
  obtain ⟨cells, rfl, h⟩ := h
  simp only [FitsL] at h
  obtain ⟨a1, b1, rfl, h1, a2, b2, rfl, h2, a3, b3, rfl, h3, rfl⟩ := h
  simp only [Fits] at h1 h2 h3
  obtain ⟨k, rfl, hk⟩ := h1
  obtain ⟨s, rfl, hs⟩ := h2
  obtain ⟨n, rfl, hn⟩ := h3
  exact ⟨k, s, n, rfl⟩
end Go.Aw
