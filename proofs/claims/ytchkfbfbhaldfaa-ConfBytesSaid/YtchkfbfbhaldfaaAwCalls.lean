/-
  What a call does, said of abstract values.
-/
import Derived.Test.YtchkfbfbhaldfaaAwApp
namespace Go.Aw
set_option linter.all false
open Go

/-- Behind a call. -/
def CPost (X : Cx) (T : Tab) (w : World) (Q : AV → Tab → Prop) (e : Ending) (w' : World) : Prop :=
  ∃ v x T' X' lam', e = .returned v ∧ Q x T' ∧ vr X' w' x v ∧ Rel X' T' [] lam' w' ∧ Step X T w X' T' w'

/-- Called with these, in a state that the table describes, a function returns; what it returns and leaves is so. -/
def ACalls (P : Program) (f : FuncId) (args : List AV) (T : Tab) (Q : AV → Tab → Prop) : Prop :=
  ∀ X lam w cargs, Rel X T [] lam w → vrs X w args cargs → Calls P f cargs.toArray w (CPost X T w Q)

theorem ACalls.mono {P : Program} {f : FuncId} {args : List AV} {T : Tab} {Q Q' : AV → Tab → Prop} (h : ACalls P f args T Q) (hq : ∀ v T', Q v T' → Q' v T') : ACalls P f args T Q' :=
  fun X lam w cargs hr hv => (h X lam w cargs hr hv).mono fun _ _ ⟨v, x, T', X', lam', h1, h2, h3, h4, h5⟩ => ⟨v, x, T', X', lam', h1, hq _ _ h2, h3, h4, h5⟩

/-- A function that computes: it returns a value and leaves the table as it was. -/
def PCalls (P : Program) (f : FuncId) (args : List AV) (r : AV) : Prop := ∀ T, ACalls P f args T fun v T' => v = r ∧ T' = T

/-! ### Rows that are handed on for good -/
def frz1 (T : Tab) (S : List Nat) : AV → AV
  | .sl id o n cap => if id ∈ S then match T id with
      | .row z cells => if o + n * z ≤ cells.length then .fz n ((cells.drop o).take (n * z)) cap else .sl id o n cap
      | _ => .sl id o n cap
    else .sl id o n cap
  | .ptr id o => if id ∈ S then match T id with
      | .row _ cells => .fptr (cells.drop o)
      | _ => .ptr id o
    else .ptr id o
  | x => x

def frzv (T : Tab) (S : List Nat) : AV → AV
  | .agg l => .agg (l.map (frz1 T S))
  | .ifc t x => .ifc t (frz1 T S x)
  | x => frz1 T S x

def frzt (T : Tab) (S : List Nat) : AV → AV
  | .tup l => .tup (l.map (frzv T S))
  | x => frzv T S x

def kill (T : Tab) : List Nat → Tab
  | [] => T
  | id :: S => (kill T S).put id .unused

def Cx.addFzs (X : Cx) : List Nat → Cx
  | [] => X
  | id :: S => (X.addFzs S).addFz (X.β id).blk

theorem Cx.addFzs_β (X : Cx) : ∀ S, (X.addFzs S).β = X.β
  | [] => rfl
  | _ :: S => Cx.addFzs_β X S
theorem Cx.addFzs_N (X : Cx) : ∀ S, (X.addFzs S).N = X.N
  | [] => rfl
  | _ :: S => Cx.addFzs_N X S

theorem Cx.le_addFzs (X : Cx) : ∀ S, X.Le (X.addFzs S)
  | [] => .refl X
  | _ :: S => (Cx.le_addFzs X S).trans (Cx.le_addFz _ _)

theorem Cx.addFzs_fz (X : Cx) {id : Nat} : ∀ {S : List Nat}, id ∈ S → (X.addFzs S).fz (X.β id).blk
  | j :: S, h => by
    rcases List.mem_cons.1 h with rfl | h
    · exact .inr rfl
    · exact .inl (Cx.addFzs_fz X h)

theorem kill_of_not {T : Tab} {id : Nat} : ∀ {S : List Nat}, id ∉ S → kill T S id = T id
  | [], _ => rfl
  | j :: S, h => by
    simp only [List.mem_cons, not_or] at h
    simp only [kill]
    rw [Tab.put_ne _ _ h.1]
    exact kill_of_not h.2

section
variable {P : Program} {X0 : Cx} {T0 : Tab} {w0 : World} {X : Cx} {lam : Nat → Nat} {env : Env} {L : Loc} {T : Tab} {a : Act} {w w' : World}

theorem SR.freezes (h : SR X0 T0 w0 X lam env L T a w) : ∀ (S : List Nat), S.Nodup → (∀ id ∈ S, T id ≠ .unused) → SR X0 T0 w0 (X.addFzs S) lam env L (kill T S) a w
  | [], _, _ => h
  | id :: S, hn, hl => by
    have hn' := List.nodup_cons.1 hn
    have h1 := SR.freezes h S hn'.2 (fun j hj => hl j (List.mem_cons_of_mem _ hj))
    have hid : kill T S id ≠ .unused := by rw [kill_of_not hn'.1]; exact hl id (List.mem_cons_self ..)
    have := h1.freeze hid
    rw [Cx.addFzs_β] at this
    exact this

theorem frz1_sound (hr : Rel X T L lam w) {S : List Nat} {x : AV} {v : Value} (h : vr X w x v) : vr (X.addFzs S) w (frz1 T S x) v := by
  have hm : ∀ y u, vr X w y u → vr (X.addFzs S) w y u := fun y u => vr.mono (X.le_addFzs S) (fun _ _ => rfl) y u
  cases x <;> simp only [frz1] <;> first
    | (exact hm _ _ h)
    | skip
  · rename_i id o
    split
    · rename_i hS
      split
      · rename_i z cells hT
        simp only [vr] at h ⊢
        obtain ⟨h1, rfl⟩ := h
        obtain ⟨us, r1, r2, r3⟩ := (hr.row id z cells hT).lies
        refine ⟨us.drop o, _, vrs.mono (X.le_addFzs S) (fun _ _ => rfl) _ _ (r1.drop o), rfl, .inr rfl, .inr ⟨Cx.addFzs_fz X hS, fun u hu => r2 u (List.mem_of_mem_drop hu), fun j u hu => ?_⟩⟩
        rw [List.getElem?_drop] at hu
        have := r3.cell hu
        simpa [Nat.add_assoc] using this
      · exact hm _ _ h
    · exact hm _ _ h
  · rename_i id o n cap
    split
    · rename_i hS
      split
      · rename_i z cells hT
        split
        · rename_i hle
          simp only [vr] at h ⊢
          obtain ⟨h1, c, rfl, h3, h4, h5⟩ := h
          obtain ⟨us, r1, r2, r3⟩ := (hr.row id z cells hT).lies
          refine ⟨(us.drop o).take (n * z), vrs.mono (X.le_addFzs S) (fun _ _ => rfl) _ _ ((r1.drop o).take _), .inr ⟨_, c, rfl, .inr rfl, h3, h4, ?_⟩⟩
          refine FzRow.take (.inr ⟨Cx.addFzs_fz X hS, fun u hu => r2 u (List.mem_of_mem_drop hu), fun j u hu => ?_⟩) _
          rw [List.getElem?_drop] at hu
          have := r3.cell hu
          simpa [Nat.add_assoc] using this
        · exact hm _ _ h
      · exact hm _ _ h
    · exact hm _ _ h

theorem vrs.map {X' : Cx} {w' : World} {f : AV → AV} (hf : ∀ x v, vr X w x v → vr X' w' (f x) v) : ∀ {l : List AV} {us : List Value}, vrs X w l us → vrs X' w' (l.map f) us
  | [], us, h => by simpa [vrs] using h
  | x :: l, us, h => by
    simp only [vrs] at h
    obtain ⟨u, us', rfl, h2, h3⟩ := h
    exact ⟨u, us', rfl, hf _ _ h2, vrs.map hf h3⟩

theorem frzv_sound (hr : Rel X T L lam w) {S : List Nat} {x : AV} {v : Value} (h : vr X w x v) : vr (X.addFzs S) w (frzv T S x) v := by
  cases x <;> simp only [frzv] <;> first
    | (exact frz1_sound hr h)
    | skip
  · simp only [vr] at h ⊢
    obtain ⟨u, h1, rfl⟩ := h
    exact ⟨u, frz1_sound hr h1, rfl⟩
  · simp only [vr] at h ⊢
    obtain ⟨us, h1, h2, rfl⟩ := h
    exact ⟨us, h1.map (fun x v hv => frz1_sound hr hv), h2, rfl⟩

theorem frzt_sound (hr : Rel X T L lam w) {S : List Nat} {x : AV} {v : Value} (h : vr X w x v) : vr (X.addFzs S) w (frzt T S x) v := by
  cases x <;> simp only [frzt] <;> first
    | (exact frzv_sound hr h)
    | skip
  simp only [vr] at h ⊢
  obtain ⟨us, h1, rfl⟩ := h
  exact ⟨us, h1.map (fun x v hv => frzv_sound hr hv), rfl⟩

end
end Go.Aw
