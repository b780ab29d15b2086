import Derived.Test.YtoeaikcebjideaaDoorE03J
import Derived.Test.YtoeaikcebjideaaDoorAwD
namespace Go.Aw
open Go
set_option linter.all false
theorem str_of1 {p : List AV} (h : Fits .str p) : ∃ x : List UInt8, p = [.s x] ∧ x.length ≤ maxLen := by
  simp only [Fits] at h
  obtain ⟨l, h1, h2⟩ := h
  first
    | exact ⟨l, h1, h2⟩
    | exact ⟨l, h2, h1⟩
theorem flat_strs (l : List (List UInt8)) : l.flatMap (fun x => [AV.s x]) = strs l := by
  induction l with
  | nil => rfl
  | cons a l ih => simp only [List.flatMap_cons, ih]; rfl
theorem strs_ofV {a : AV} (h : FitsV (.sl .str) a) : ∃ (l : List (List UInt8)) (k : Option Nat), a = .fz l.length (strs l) k ∧ Len l.length := by
  obtain ⟨l, k, rfl, hl, _⟩ := slice_ofV (fun p hp => str_of1 hp) h
  exact ⟨l, k, by rw [flat_strs], hl⟩
end Go.Aw
