/-
  More: what is handed on inside structs.
-/
import Derived.Test.YtchkfbfbhaldfaaAwMore
namespace Go.Aw
open Go
set_option linter.all false

/-- A function's own rows are handed on for good with a call, wherever they stand in its arguments. -/
theorem CallK.owns {P : Program} {f : FuncId} {avs : List AV} {T T' : Tab} {l : List Ow} {R k : AV → Tab → Prop} (h : Owns T l T')
    (hc : ∀ S, (∀ a ∈ l, ∃ cap, frz1 T' S a.v = .fz a.n a.xs cap) → ACalls P f (avs.map (frzv T' S)) T R) (hk : ∀ v T', R v T' → k v T') : CallK P f avs T' k := by
  obtain ⟨S, k1, k2, k3, k4⟩ := h.fin
  unfold CallK
  exact ⟨S, R, k1, fun id hid => (k2 id hid).1, by rw [k3]; exact hc S k4, hk⟩

theorem Own.frzv {T T1 T2 : Tab} {S : List Nat} {z n : Nat} {v : AV} {xs : List AV} (h : Own T z v n xs T1) : Aw.frzv T2 S v = frz1 T2 S v := by
  rcases h.2 with ⟨rfl, _⟩ | ⟨id, rfl, _⟩ <;> rfl

theorem SlotLe.trans {a b c : Slot} (h : SlotLe a b) (k : SlotLe b c) : SlotLe a c := by
  rcases h with rfl | rfl | ⟨z, cs, m, rfl, rfl⟩
  · exact .inl rfl
  · exact k
  · rcases k with k | k | ⟨z', cs', m', rfl, k⟩
    · cases k
    · subst k; exact .inr (.inr ⟨z, cs, m, rfl, rfl⟩)
    · injection k with k1 k2
      subst k1; subst k2
      exact .inr (.inr ⟨z, cs', min m m', rfl, by rw [List.take_take]⟩)
/-- As much, or less, is known. -/
def TabLe (T T' : Tab) : Prop := ∀ j, SlotLe (T j) (T' j)
theorem TabLe.refl (T : Tab) : TabLe T T := fun _ => .inr (.inl rfl)
theorem TabLe.trans {T T1 T2 : Tab} (h : TabLe T T1) (k : TabLe T1 T2) : TabLe T T2 := fun j => (h j).trans (k j)
theorem TabLe.put {T T1 : Tab} {id : Nat} {s : Slot} (h : TabLe T T1) (hid : T id = .unused) : TabLe T (T1.put id s) := fun j => by
  by_cases e : j = id
  · subst e; rw [hid]; exact .inl rfl
  · rw [Tab.put_ne _ _ e]; exact h j
theorem Own.tabLe {T T' : Tab} {z n : Nat} {v : AV} {xs : List AV} (h : Own T z v n xs T') : TabLe T T' := (Owns.one h).le
theorem TabLe.unused {T T' : Tab} {id : Nat} (h : TabLe T T') (hid : T' id = .unused) : T id = .unused := by
  rcases h id with e | e | ⟨z, cs, m, e, _⟩
  · exact e
  · rw [e, hid]
  · rw [hid] at e; cases e
theorem TabLe.fin {T T' : Tab} {r : AV} (h : TabLe T T') : finL r (fun v T'' => v = r ∧ T'' = T) T' := finL_of T h ⟨rfl, rfl⟩
theorem Own.sl {T T' : Tab} {z n : Nat} {v : AV} {xs : List AV} (h : Own T z v n xs T') : slCells T' z v = some xs ∧ slLen v = n := Gr.sl (.inl h)
theorem Own.ne {T T' : Tab} {z n : Nat} {v : AV} {xs : List AV} (h : Own T z v n xs T') (hn : 0 < n) : ∃ id, v = .sl id 0 n none ∧ T id = .unused ∧ T' = T.put id (.row z xs) := by
  rcases h.2 with ⟨_, e, _⟩ | h
  · omega
  · exact h
end Go.Aw
