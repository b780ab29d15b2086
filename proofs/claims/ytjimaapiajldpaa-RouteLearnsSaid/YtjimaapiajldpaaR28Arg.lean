import Derived.Test.YtjimaapiajldpaaR28P
import Derived.Test.YtjimaapiajldpaaAwD
namespace Go.Aw
open Go
set_option linter.all false

abbrev tyTxn : Ty := .st [.st [.int .i64, .int .u64], .bool, .sl (.st [.str, .int .u64]), .sl (.st [.str, .str, .bool])]
theorem len_of_max {n : Nat} (h : n ≤ maxLen) : Len n := by unfold Len; unfold maxLen at h; omega
theorem rd_of1 {p : List AV} (h : Fits (.st [.str, .int .u64]) p) : ∃ r : Rd, p = rdC r ∧ (Len r.k.length ∧ 0 ≤ r.n ∧ r.n < 18446744073709551616) := by
  simp only [Fits, FitsL] at h
  obtain ⟨a, b, rfl, ⟨k, rfl, hk⟩, c, d, rfl, ⟨n, rfl, hn⟩, rfl⟩ := h
  exact ⟨⟨k, n⟩, rfl, len_of_max hk, wf_u64 hn⟩
theorem wt_of1 {p : List AV} (h : Fits (.st [.str, .str, .bool]) p) : ∃ r : Wt, p = wtC r ∧ (Len r.k.length ∧ Len r.v.length) := by
  simp only [Fits, FitsL] at h
  obtain ⟨a, b, rfl, ⟨k, rfl, hk⟩, c, d, rfl, ⟨v, rfl, hv⟩, e, f, rfl, ⟨g, rfl⟩, rfl⟩ := h
  exact ⟨⟨k, v, g⟩, rfl, len_of_max hk, len_of_max hv⟩
theorem txn_of1 {p : List AV} (h : Fits tyTxn p) : ∃ (t : Tx) (k1 k2 : Option Nat), p = t.cells k1 k2 ∧ (t.Wide ∧ 0 ≤ t.sq ∧ t.sq < 18446744073709551616 ∧ I64 t.cl ∧ ∀ r ∈ t.rs, 0 ≤ r.n ∧ r.n < 18446744073709551616) := by
  simp only [Fits, FitsL] at h
  obtain ⟨a1, b1, rfl, ⟨a2, b2, rfl, ⟨cl, rfl, hcl⟩, a3, b3, rfl, ⟨sq, rfl, hsq⟩, rfl⟩, a4, b4, rfl, ⟨pl, rfl⟩, a5, b5, rfl, h5, a6, b6, rfl, h6, rfl⟩ := h
  have h5' : Fits (.sl (.st [.str, .int .u64])) a5 := by simpa only [Fits, FitsL] using h5
  have h6' : Fits (.sl (.st [.str, .str, .bool])) a6 := by simpa only [Fits, FitsL] using h6
  obtain ⟨rs, k1, rfl, hr, hro⟩ := slice_of (fun p hp => rd_of1 hp) h5'
  obtain ⟨ws, k2, rfl, hw, hwo⟩ := slice_of (fun p hp => wt_of1 hp) h6'
  exact ⟨⟨cl, sq, pl, rs, ws⟩, k1, k2, rfl, ⟨hr, hw, fun r h => (hro r h).1, fun r h => (hwo r h).1, fun r h => (hwo r h).2⟩, (wf_u64 hsq).1, (wf_u64 hsq).2, wf_i64 hcl, fun r h => (hro r h).2⟩
theorem txn_of {a : AV} (h : FitsV tyTxn a) : ∃ (t : Tx) (k1 k2 : Option Nat), a = .agg (t.cells k1 k2) ∧ (t.Wide ∧ 0 ≤ t.sq ∧ t.sq < 18446744073709551616 ∧ I64 t.cl ∧ ∀ r ∈ t.rs, 0 ≤ r.n ∧ r.n < 18446744073709551616) := by
  obtain ⟨cells, rfl, h⟩ := h
  have h' : Fits tyTxn cells := by simp only [Fits]; exact h
  obtain ⟨t, k1, k2, rfl, h2⟩ := txn_of1 h'
  exact ⟨t, k1, k2, rfl, h2⟩
end Go.Aw
