/-
  Lists read from bytes.
-/
import Derived.Test.YtchkfbfbhaldfaaAwOct2
import Derived.Test.YtchkfbfbhaldfaaAwMore2
namespace Go.Aw
open Go
set_option linter.all false

theorem len_le {a b : Nat} (h : a ≤ b) (hb : Len b) : Len a := by unfold Len at *; omega
def bitB (b : Bool) : UInt8 := if b = true then 1 else 0
theorem enc_bit (b : Bool) : [bitB b] = enc (if b = true then 1 else 0) := by cases b <;> (rw [enc_small (by decide)]; rfl)
theorem enc_bit' (b : Bool) : enc (if b = true then (1 : Nat) else 0) = [bitB b] := (enc_bit b).symm
theorem bit_of {n : Nat} (h : n ≤ 1) : enc n = [bitB (decide (n = 1))] := by
  have : n = 0 ∨ n = 1 := by omega
  rcases this with rfl | rfl <;> (rw [enc_small (by decide)]; rfl)
def rList {α : Type} (f : RS → α × RS) : Nat → RS → List α × RS
  | 0, s => ([], s)
  | n + 1, s => if s.2 = true then ([], s) else ((f s).1 :: (rList f n (f s).2).1, (rList f n (f s).2).2)
theorem rList_put {α : Type} {f : RS → α × RS} {g : α → List UInt8} {ok : α → Prop} (hf : ∀ x rest, ok x → f (g x ++ rest, false) = (x, (rest, false))) : ∀ (l : List α) (rest : List UInt8), (∀ x ∈ l, ok x) → rList f l.length (l.flatMap g ++ rest, false) = (l, (rest, false))
  | [], rest, _ => rfl
  | x :: l, rest, h => by
    have e : (x :: l).flatMap g ++ rest = g x ++ (l.flatMap g ++ rest) := by simp
    simp only [List.length_cons, rList, Bool.false_eq_true, if_false]
    rw [e, hf x _ (h x (List.mem_cons_self ..)), rList_put hf l rest fun y hy => h y (List.mem_cons_of_mem _ hy)]
theorem rList_inv {α : Type} {f : RS → α × RS} {g : α → List UInt8} (hf : ∀ s, (f s).2.2 = false → s.2 = false ∧ s.1 = g (f s).1 ++ (f s).2.1) : ∀ (n : Nat) (s : RS), (rList f n s).2.2 = false → s.2 = false ∧ s.1 = (rList f n s).1.flatMap g ++ (rList f n s).2.1 ∧ (rList f n s).1.length = n
  | 0, s, h => ⟨h, rfl, rfl⟩
  | n + 1, s, h => by
    simp only [rList] at h ⊢
    split at h
    · rename_i hb; rw [hb] at h; cases h
    · rename_i hb
      rw [if_neg hb]
      obtain ⟨h1, h2, h3⟩ := rList_inv hf n _ h
      obtain ⟨h4, h5⟩ := hf s h1
      refine ⟨h4, ?_, by simp [h3]⟩
      rw [h5, h2]
      simp
theorem rList_len {α : Type} {f : RS → α × RS} (hf : ∀ s, (f s).2.1.length ≤ s.1.length) : ∀ (n : Nat) (s : RS), (rList f n s).2.1.length ≤ s.1.length
  | 0, s => Nat.le_refl _
  | n + 1, s => by
    simp only [rList]
    split
    · exact Nat.le_refl _
    · exact Nat.le_trans (rList_len hf n _) (hf s)
theorem rList_le {α : Type} {f : RS → α × RS} : ∀ (n : Nat) (s : RS), (rList f n s).1.length ≤ n
  | 0, s => Nat.le_refl _
  | n + 1, s => by
    simp only [rList]
    split
    · exact Nat.zero_le _
    · have := rList_le (f := f) n (f s).2; simp only [List.length_cons]; omega
theorem rList_all {α : Type} {f : RS → α × RS} {p : α → Prop} (h : ∀ s, p (f s).1) : ∀ (n : Nat) (s : RS), ∀ x ∈ (rList f n s).1, p x
  | 0, s, x, hx => by simp [rList] at hx
  | n + 1, s, x, hx => by
    simp only [rList] at hx
    split at hx
    · cases hx
    · simp only [List.mem_cons] at hx
      rcases hx with rfl | hx
      · exact h s
      · exact rList_all h n _ x hx
theorem flatB_len {α : Type} {g : α → List UInt8} {m : Nat} : ∀ (l : List α), (∀ x ∈ l, (g x).length ≤ m) → (l.flatMap g).length ≤ l.length * m
  | [], _ => by simp
  | x :: l, h => by
    have h1 := flatB_len l fun y hy => h y (List.mem_cons_of_mem _ hy)
    have h2 := h x (List.mem_cons_self ..)
    rw [List.flatMap_cons, List.length_append, List.length_cons, Nat.add_mul]; omega
theorem wrap_pred {n : Nat} (h : n < 1000000000) : IntKind.i64.wrap (((n + 1 : Nat) : Int) - 1) = (n : Int) := by rw [wrap_i64 (by unfold I64; omega)]; omega
theorem Own.at {B T1 : Tab} {id z n : Nat} {v : AV} {xs : List AV} (h : Own B z v n xs T1) (hB : B id ≠ .unused) : T1 id = B id := Owns.base_get hB (Owns.one h)
end Go.Aw
