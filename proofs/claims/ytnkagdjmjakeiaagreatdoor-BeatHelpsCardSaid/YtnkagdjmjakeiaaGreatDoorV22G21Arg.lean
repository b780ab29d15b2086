import Derived.Test.YtnkagdjmjakeiaaGreatDoorV22G21C
import Derived.Test.YtnkagdjmjakeiaaGreatDoorAwD
namespace Go.Aw
open Go
set_option linter.all false
abbrev qyc : Ty := .st [.int .i64, .int .i64, .int .u64, .int .i64]
theorem qw3 {p : List AV} (h : q8o qyc p) : ∃ c : Cm, p = c.cells /\ (0 <= c.ep /\ c.ep < 18446744073709551616) := by
 simp only [q8o, qfk] at h
 obtain ⟨a1, b1, rfl, ⟨k, rfl, hk⟩, a2, b2, rfl, ⟨s, rfl, hs⟩, a3, b3, rfl, ⟨e, rfl, he⟩, a4, b4, rfl, ⟨n, rfl, hn⟩, rfl⟩ := h
 exact ⟨⟨k, s, e, n⟩, rfl, qvf he⟩
abbrev qyd : Ty := .st [.int .i64, .int .i64, .int .i64]
theorem qpw {a : AV} (h : qkk qyd a) : ∃ s l v : Int, a = .agg [.i .i64 s, .i .i64 l, .i .i64 v] := by
 obtain ⟨cells, rfl, h⟩ := h
 simp only [qfk] at h
 obtain ⟨a1, b1, rfl, h1, a2, b2, rfl, h2, a3, b3, rfl, h3, rfl⟩ := h
 simp only [q8o] at h1 h2 h3
 obtain ⟨k, rfl, hk⟩ := h1
 obtain ⟨s, rfl, hs⟩ := h2
 obtain ⟨n, rfl, hn⟩ := h3
 exact ⟨k, s, n, rfl⟩
end Go.Aw
