import Derived.Test.YtmicojcojlgefaaC29L
import Derived.Test.YtmicojcojlgefaaAwD
namespace Go.Aw
open Go
open Go.Proofs.Try (prog)
set_option linter.all false
set_option maxHeartbeats 8000000
abbrev qy7 : Ty := .st [.int .i64, .str, .str, .sl (.st [.str, .int .u64]), .sl (.st [.str, .str, .bool])]
abbrev z17 : Ty := .st [.int .i64, .int .u64]
structure Cp.Arg (o : Cp) : Prop where
 w : o.Wide
 r : ∀ r ∈ o.rs, U64 r.n
theorem qy8 {p : List AV} (h : qay qy7 p) : ∃ o : Cp, Wks p o.cells /\ o.Arg := by
 simp only [qay] at h
 unfold qaz at h; obtain ⟨p1, r1, rfl, h1, h⟩ := h
 unfold qaz at h; obtain ⟨p2, r2, rfl, h2, h⟩ := h
 unfold qaz at h; obtain ⟨p3, r3, rfl, h3, h⟩ := h
 unfold qaz at h; obtain ⟨p4, r4, rfl, h4, h⟩ := h
 unfold qaz at h; obtain ⟨p5, r5, rfl, h5, h⟩ := h
 unfold qaz at h; subst h
 obtain ⟨rs, k1, rfl, hr, hro⟩ := qn7 (fun p hp => qy5 hp) h4
 obtain ⟨ws, k2, rfl, hw, hwo⟩ := qn7 (fun p hp => qy6 hp) h5
 simp only [qay, qaz] at h1 h2 h3
 obtain ⟨k, rfl, hk⟩ := h1
 obtain ⟨key, rfl, hkey⟩ := h2
 obtain ⟨v, rfl, hv⟩ := h3
 exact ⟨⟨k, key, v, rs, ws⟩, ⟨.refl _, .refl _, .refl _, .fz, .fz, trivial⟩, ⟨q8l hkey, q8l hv, ⟨hr, hw, fun r h => (hro r h).1, fun r h => (hwo r h).1, fun r h => (hwo r h).2⟩⟩, fun r h => (hro r h).2⟩
theorem z18 {a : AV} (h : qrs qy7 a) : ∃ o : Cp, Wk a (.agg o.cells) /\ o.Arg := by
 obtain ⟨cells, rfl, h⟩ := h
 have h' : qay qy7 cells := by simp only [qay]; exact h
 obtain ⟨l, h1, h2⟩ := qy8 h'
 exact ⟨l, .agg h1, h2⟩
theorem z19 {a : AV} (h : qrs z17 a) : ∃ cl sq : Int, a = .agg [.i .i64 cl, .i .u64 sq] := by
 obtain ⟨cells, rfl, h⟩ := h
 simp only [qaz, qay] at h
 obtain ⟨_, _, rfl, ⟨cl, rfl, _⟩, _, _, rfl, ⟨sq, rfl, _⟩, rfl⟩ := h
 exact ⟨cl, sq, rfl⟩
end Go.Aw
