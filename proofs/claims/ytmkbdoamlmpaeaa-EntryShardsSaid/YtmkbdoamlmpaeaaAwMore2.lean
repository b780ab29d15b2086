/-
  More: what is handed on inside structs.
-/
import Derived.Test.YtmkbdoamlmpaeaaAwMore
namespace Go.Aw
open Go
set_option linter.all false

/-- A function's own rows are handed on for good with a call, wherever they stand in its arguments. -/
theorem CallK.owns {P : Program} {f : FuncId} {avs : List AV} {T T' : Tab} {l : List Ow} {R k : AV → Tab → Prop} (h : Owns T l T')
    (hc : ∀ S, (∀ a ∈ l, ∃ cap, frz1 T' S a.v = .fz a.n a.xs cap) → ACalls P f (avs.map (frzv T' S)) T R) (hk : ∀ v T', R v T' → k v T') : CallK P f avs T' k := by
  obtain ⟨S, k1, k2, k3, k4⟩ := h.fin
  unfold CallK
  exact ⟨S, R, k1, fun id hid => (k2 id hid).1, by rw [k3]; exact hc S k4, hk⟩

theorem Own.frzv {T T1 T2 : Tab} {S : List Nat} {z n : Nat} {v : AV} {xs : List AV} (h : Own T z v n xs T1) : Aw.frzv T2 S v = frz1 T2 S v := by
  rcases h.2 with ⟨rfl, _⟩ | ⟨id, rfl, _⟩ <;> rfl
end Go.Aw
