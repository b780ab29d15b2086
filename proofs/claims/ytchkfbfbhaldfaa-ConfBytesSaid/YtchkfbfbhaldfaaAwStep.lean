/-
  What a step of a run makes of the state.
-/
import Derived.Test.YtchkfbfbhaldfaaAwRel
namespace Go.Aw
set_option linter.all false
open Go

section
variable {X0 : Cx} {T0 : Tab} {w0 : World} {X : Cx} {lam : Nat → Nat} {env : Env} {L : Loc} {T : Tab} {a : Act} {w w' : World}

theorem SR.size_le (h : SR X0 T0 w0 X lam env L T a w) : w0.heap.size ≤ w.heap.size := h.step.size

/-- New blocks alone. -/
theorem SR.grow (h : SR X0 T0 w0 X lam env L T a w) (hg : w.grownBy w' none) : SR X0 T0 w0 X lam env L T a w' := by
  have hb : ∀ b, b < w.heap.size → w'.heap[b]? = w.heap[b]? := fun b hb => hg.block b hb (by simp)
  have hk : FzKept X w w' := fun b hf => hb b (h.rel.fzlt b hf)
  have hx := Cx.Le.refl X
  refine ⟨⟨h.rel.fresh, fun b hf => Nat.lt_of_lt_of_le (h.rel.fzlt b hf) hg.size, fun id esz cells hT => ?_, fun id es hT => ?_, h.rel.live_fz, h.rel.live_inj, fun l c hc => ?_, h.rel.loc_fz, h.rel.loc_inj, h.rel.loc_live⟩,
    h.step.trans ⟨.refl X, hg.os, hg.tape, hg.output, hg.size, fun b hb' _ => hb b hb', fun _ _ hf => .inl hf, fun _ _ hl => hl, fun _ _ hT => hT⟩, h.locnew, fun s x hs => ?_, h.defers⟩
  · exact (h.rel.row id esz cells hT).mono hx hk (h.rel.id_lt (by simp [hT])) (hb _ (h.rel.live_lt ⟨id, by simp [hT], rfl⟩))
  · exact (h.rel.map id es hT).mono hx hk (h.rel.id_lt (by simp [hT])) (hb _ (h.rel.live_lt ⟨id, by simp [hT], rfl⟩))
  · exact (h.rel.loc l c hc).mono hx hk (hb _ (h.rel.loc_lt hc))
  · obtain ⟨v, hv, hr⟩ := h.env s x hs
    exact ⟨v, hv, hr.mono hx hk (fun _ _ _ => rfl)⟩

def Cx.addFz (X : Cx) (b : Nat) : Cx := { X with fz := fun c => X.fz c ∨ c = b }
theorem Cx.le_addFz (X : Cx) (b : Nat) : X.Le (X.addFz b) := ⟨Nat.le_refl _, fun _ _ => rfl, fun _ h => .inl h⟩
def Cx.addRow (X : Cx) (k : Blk) : Cx := { X with β := fun id => if id = X.N then k else X.β id, N := X.N + 1 }
theorem Cx.le_addRow (X : Cx) (k : Blk) : X.Le (X.addRow k) :=
  ⟨Nat.le_succ _, fun id h => by simp [Cx.addRow, Nat.ne_of_lt h], fun _ h => h⟩

/-- A block becomes one that nobody writes. -/
theorem SR.addFz (h : SR X0 T0 w0 X lam env L T a w) {b : Nat} (hb : b < w.heap.size) (h0 : w0.heap.size ≤ b) (hl : ¬ Live X T b) (hloc : ∀ l c, aget L l = some c → lam l ≠ b) :
    SR X0 T0 w0 (X.addFz b) lam env L T a w := by
  have hk : FzKept X w w := fun _ _ => rfl
  have hx := X.le_addFz b
  refine ⟨⟨h.rel.fresh, fun c hc => ?_, fun id esz cells hT => ?_, fun id es hT => ?_, fun id hid hf => ?_, h.rel.live_inj, fun l c hc => ?_, fun l c hc hf => ?_, h.rel.loc_inj, h.rel.loc_live⟩,
    ⟨h.step.le.trans hx, h.step.os, h.step.tape, h.step.output, h.step.size, h.step.kept, fun c hc hf => ?_, h.step.livenew, h.step.idnew⟩, h.locnew, fun s x hs => ?_, h.defers⟩
  · rcases hc with hc | rfl
    · exact h.rel.fzlt c hc
    · exact hb
  · exact (h.rel.row id esz cells hT).mono hx hk (h.rel.id_lt (by simp [hT])) rfl
  · exact (h.rel.map id es hT).mono hx hk (h.rel.id_lt (by simp [hT])) rfl
  · rcases hf with hf | hf
    · exact h.rel.live_fz id hid hf
    · exact hl ⟨id, hid, hf⟩
  · exact (h.rel.loc l c hc).mono hx hk rfl
  · rcases hf with hf | hf
    · exact h.rel.loc_fz l c hc hf
    · exact hloc l c hc hf
  · rcases hf with hf | rfl
    · exact h.step.fznew c hc hf
    · omega
  · obtain ⟨v, hv, hr⟩ := h.env s x hs
    exact ⟨v, hv, hr.mono hx hk (fun _ _ _ => rfl)⟩

theorem live_addRow {k : Blk} {s : Slot} {b : Nat} (hl : Live (X.addRow k) (T.put X.N s) b) : Live X T b ∨ b = k.blk := by
  obtain ⟨id, hid, hb⟩ := hl
  by_cases e : id = X.N
  · subst e; right; simpa [Cx.addRow] using hb.symm
  · left
    rw [Tab.put_ne _ _ e] at hid
    exact ⟨id, hid, by simpa [Cx.addRow, e] using hb⟩

/-- A row of the table's own. -/
theorem SR.addRow (h : SR X0 T0 w0 X lam env L T a w) (k : Blk) {cells : List AV} (h0 : k.blk < w0.heap.size → Live X0 T0 k.blk) (hf : ¬ X.fz k.blk)
    (hl : ¬ Live X T k.blk) (hloc : ∀ l c, aget L l = some c → lam l ≠ k.blk)
    (hrow : ∃ cur e us, w.heap[k.blk]? = some (.cells cur e (0, 0)) ∧ vrs X w cells us ∧ (∀ u ∈ us, u.oneCell' = true) ∧
      (∀ (j : Nat) u, us[j]? = some u → cur[k.base + j]? = some u) ∧ k.base + cells.length ≤ k.lim ∧ k.lim ≤ cur.size) :
    SR X0 T0 w0 (X.addRow k) lam env L (T.put X.N (.row k.esz cells)) a w := by
  have hk : FzKept X w w := fun _ _ => rfl
  have hx := X.le_addRow k
  have hN : (X.addRow k).β X.N = k := by simp [Cx.addRow]
  have hold : ∀ id, T id ≠ .unused → (X.addRow k).β id = X.β id := fun id hid => by simp [Cx.addRow, Nat.ne_of_lt (h.rel.id_lt hid)]
  refine ⟨⟨fun id hid => ?_, h.rel.fzlt, fun id esz cs hT => ?_, fun id es hT => ?_, fun id hid => ?_, fun id id' h1 h2 h3 => ?_, fun l c hc => ?_, h.rel.loc_fz, h.rel.loc_inj, fun l c hc hlv => ?_⟩,
    ⟨h.step.le.trans hx, h.step.os, h.step.tape, h.step.output, h.step.size, h.step.kept, h.step.fznew, fun c hc hlv => ?_, fun id hid hT => ?_⟩, h.locnew, fun s x hs => ?_, h.defers⟩
  · have : X.N + 1 ≤ id := hid
    rw [Tab.put_ne _ _ (by omega)]
    exact h.rel.fresh id (by omega)
  · by_cases e : id = X.N
    · subst e
      rw [Tab.put_same] at hT
      cases hT
      obtain ⟨cur, e, us, h1, h2, h3, h4, h5, h6⟩ := hrow
      unfold RowAt
      rw [hN]
      exact ⟨cur, e, us, h1, vrs.mono hx hk _ _ h2, h3, h4, h5, h6, rfl⟩
    · rw [Tab.put_ne _ _ e] at hT
      exact (h.rel.row id esz cs hT).mono hx hk (h.rel.id_lt (by simp [hT])) rfl
  · by_cases e : id = X.N
    · subst e; rw [Tab.put_same] at hT; cases hT
    · rw [Tab.put_ne _ _ e] at hT
      exact (h.rel.map id es hT).mono hx hk (h.rel.id_lt (by simp [hT])) rfl
  · by_cases e : id = X.N
    · subst e; rw [hN]; exact hf
    · rw [Tab.put_ne _ _ e] at hid
      rw [hold id hid]; exact h.rel.live_fz id hid
  · by_cases e : id = X.N <;> by_cases e' : id' = X.N
    · omega
    · subst e
      rw [Tab.put_ne _ _ e'] at h2
      rw [hN, hold id' h2] at h3
      exact absurd ⟨id', h2, h3.symm⟩ hl
    · subst e'
      rw [Tab.put_ne _ _ e] at h1
      rw [hN, hold id h1] at h3
      exact absurd ⟨id, h1, h3⟩ hl
    · rw [Tab.put_ne _ _ e] at h1
      rw [Tab.put_ne _ _ e'] at h2
      rw [hold id h1, hold id' h2] at h3
      exact h.rel.live_inj id id' h1 h2 h3
  · exact (h.rel.loc l c hc).mono hx hk rfl
  · rcases live_addRow hlv with h1 | h1
    · exact h.rel.loc_live l c hc h1
    · exact hloc l c hc h1
  · rcases live_addRow hlv with h1 | h1
    · exact h.step.livenew c hc h1
    · subst h1; exact h0 hc
  · have : X0.N ≤ X.N := h.step.le.n
    rw [Tab.put_ne _ _ (by omega)]
    exact h.step.idnew id hid hT
  · obtain ⟨v, hv, hr⟩ := h.env s x hs
    exact ⟨v, hv, hr.mono hx hk (fun _ _ _ => rfl)⟩

/-- A row of the table is forgotten. -/
theorem SR.delRow (h : SR X0 T0 w0 X lam env L T a w) (id : Nat) : SR X0 T0 w0 X lam env L (T.put id .unused) a w := by
  have hne : ∀ j, T.put id .unused j ≠ .unused → j ≠ id ∧ T j ≠ .unused := fun j hj => by
    by_cases e : j = id
    · subst e; rw [Tab.put_same] at hj; exact absurd rfl hj
    · rw [Tab.put_ne _ _ e] at hj; exact ⟨e, hj⟩
  have hlv : ∀ b, Live X (T.put id .unused) b → Live X T b := fun b ⟨j, hj, hb⟩ => ⟨j, (hne j hj).2, hb⟩
  refine ⟨⟨fun j hj => ?_, h.rel.fzlt, fun j esz cs hT => ?_, fun j es hT => ?_, fun j hj => h.rel.live_fz j (hne j hj).2, fun j j' h1 h2 h3 => h.rel.live_inj j j' (hne j h1).2 (hne j' h2).2 h3, h.rel.loc, h.rel.loc_fz, h.rel.loc_inj, fun l c hc hl => h.rel.loc_live l c hc (hlv _ hl)⟩,
    ⟨h.step.le, h.step.os, h.step.tape, h.step.output, h.step.size, h.step.kept, h.step.fznew, fun c hc hl => h.step.livenew c hc (hlv c hl), fun j hj hT => ?_⟩, h.locnew, h.env, h.defers⟩
  · by_cases e : j = id
    · subst e; exact Tab.put_same _ _ _
    · rw [Tab.put_ne _ _ e]; exact h.rel.fresh j hj
  · have := hne j (by simp [hT])
    rw [Tab.put_ne _ _ this.1] at hT
    exact h.rel.row j esz cs hT
  · have := hne j (by simp [hT])
    rw [Tab.put_ne _ _ this.1] at hT
    exact h.rel.map j es hT
  · by_cases e : j = id
    · subst e; exact Tab.put_same _ _ _
    · rw [Tab.put_ne _ _ e]; exact h.step.idnew j hj hT

/-- A row of the table becomes one that nobody writes. -/
theorem SR.freeze (h : SR X0 T0 w0 X lam env L T a w) {id : Nat} (hid : T id ≠ .unused) : SR X0 T0 w0 (X.addFz (X.β id).blk) lam env L (T.put id .unused) a w := by
  have h1 := h.delRow id
  have hb := h.rel.live_lt ⟨id, hid, rfl⟩
  have hnl : ¬ Live X (T.put id .unused) (X.β id).blk := by
    rintro ⟨j, hj, hjb⟩
    by_cases e : j = id
    · subst e; rw [Tab.put_same] at hj; exact hj rfl
    · rw [Tab.put_ne _ _ e] at hj
      exact e (h.rel.live_inj j id hj hid hjb)
  by_cases h0 : w0.heap.size ≤ (X.β id).blk
  · exact h1.addFz hb h0 hnl (fun l c hc hl => h.rel.loc_live l c hc ⟨id, hid, hl.symm⟩)
  · -- an elder row: it was live when the function began
    have hk : FzKept X w w := fun _ _ => rfl
    have hx := X.le_addFz (X.β id).blk
    refine ⟨⟨h1.rel.fresh, fun c hc => ?_, fun j esz cells hT => ?_, fun j es hT => ?_, fun j hj hf => ?_, h1.rel.live_inj, fun l c hc => ?_, fun l c hc hf => ?_, h1.rel.loc_inj, h1.rel.loc_live⟩,
      ⟨h1.step.le.trans hx, h1.step.os, h1.step.tape, h1.step.output, h1.step.size, h1.step.kept, fun c hc hf => ?_, h1.step.livenew, h1.step.idnew⟩, h1.locnew, fun s x hs => ?_, h1.defers⟩
    · rcases hc with hc | rfl
      · exact h.rel.fzlt c hc
      · exact hb
    · exact (h1.rel.row j esz cells hT).mono hx hk (h1.rel.id_lt (by simp [hT])) rfl
    · exact (h1.rel.map j es hT).mono hx hk (h1.rel.id_lt (by simp [hT])) rfl
    · rcases hf with hf | hf
      · exact h1.rel.live_fz j hj hf
      · exact hnl ⟨j, hj, hf⟩
    · exact (h1.rel.loc l c hc).mono hx hk rfl
    · rcases hf with hf | hf
      · exact h.rel.loc_fz l c hc hf
      · exact h.rel.loc_live l c hc ⟨id, hid, hf.symm⟩
    · rcases hf with hf | rfl
      · exact h1.step.fznew c hc hf
      · exact .inr (h.step.livenew _ hc ⟨id, hid, rfl⟩)
    · obtain ⟨v, hv, hr⟩ := h1.env s x hs
      exact ⟨v, hv, hr.mono hx hk (fun _ _ _ => rfl)⟩

theorem Rel.fzKept_row (h : Rel X T L lam w) {id : Nat} (hid : T id ≠ .unused) (hg : w.grownBy w' (some (X.β id).blk)) : FzKept X w w' := by
  intro b hf
  refine hg.block b (h.fzlt b hf) ?_
  intro e
  injection e with e
  subst e
  exact h.live_fz id hid hf

/-- A block of the table whose bytes are shared with a text, say, from now on: nobody writes it any more. -/
theorem SR.dirtyFz (h : SR X0 T0 w0 X lam env L T a w) {id : Nat} (hid : T id ≠ .unused) (hg : w.grownBy w' (some (X.β id).blk)) : SR X0 T0 w0 (X.addFz (X.β id).blk) lam env L (T.put id .unused) a w' := by
  have hk : FzKept X w w' := h.rel.fzKept_row hid hg
  have hx := X.le_addFz (X.β id).blk
  have hne : ∀ j, T.put id .unused j ≠ .unused → T j ≠ .unused ∧ j ≠ id := fun j hj => by
    by_cases e : j = id
    · subst e; rw [Tab.put_same] at hj; exact absurd rfl hj
    · rw [Tab.put_ne _ _ e] at hj; exact ⟨hj, e⟩
  have hlv : ∀ b, Live X (T.put id .unused) b → Live X T b := fun b ⟨j, hj, hb⟩ => ⟨j, (hne j hj).1, hb⟩
  have hlv' : ∀ b, Live (X.addFz (X.β id).blk) (T.put id .unused) b → Live X T b := fun b ⟨j, hj, hb⟩ => ⟨j, (hne j hj).1, hb⟩
  have hblk : ∀ j, T j ≠ .unused → j ≠ id → w'.heap[(X.β j).blk]? = w.heap[(X.β j).blk]? := fun j hj hji => by
    refine hg.block _ (h.rel.live_lt ⟨j, hj, rfl⟩) ?_
    intro e
    injection e with e
    exact hji (h.rel.live_inj j id hj hid e)
  have hb : (X.β id).blk < w.heap.size := h.rel.live_lt ⟨id, hid, rfl⟩
  refine ⟨⟨fun j hj => ?_, fun c hc => ?_, fun j esz' cs hT => ?_, fun j es hT => ?_, fun j hj hf => ?_, fun j j' h1 h2 h3 => h.rel.live_inj j j' (hne j h1).1 (hne j' h2).1 h3, fun l c hc => ?_, fun l c hc hf => ?_, h.rel.loc_inj, fun l c hc hl => h.rel.loc_live l c hc (hlv' _ hl)⟩,
    ⟨h.step.le.trans hx, hg.os.trans h.step.os, hg.tape.trans h.step.tape, hg.output.trans h.step.output, Nat.le_trans h.step.size hg.size, fun b hb hl => ?_, fun c hc hf => ?_, fun b hb hl => h.step.livenew b hb (hlv' b hl), fun j hj hT => ?_⟩, h.locnew, fun s x hs => ?_, h.defers⟩
  · have := h.rel.id_lt hid
    have hj' : X.N ≤ j := hj
    rw [Tab.put_ne _ _ (by omega)]; exact h.rel.fresh j hj
  · rcases hc with hc | rfl
    · exact Nat.lt_of_lt_of_le (h.rel.fzlt c hc) hg.size
    · exact Nat.lt_of_lt_of_le hb hg.size
  · obtain ⟨h1, h2⟩ := hne j (by rw [hT]; simp)
    rw [Tab.put_ne _ _ h2] at hT
    exact (h.rel.row j esz' cs hT).mono hx hk (h.rel.id_lt h1) (hblk j h1 h2)
  · obtain ⟨h1, h2⟩ := hne j (by rw [hT]; simp)
    rw [Tab.put_ne _ _ h2] at hT
    exact (h.rel.map j es hT).mono hx hk (h.rel.id_lt h1) (hblk j h1 h2)
  · obtain ⟨h1, h2⟩ := hne j hj
    rcases hf with hf | hf
    · exact h.rel.live_fz j h1 hf
    · exact h2 (h.rel.live_inj j id h1 hid hf)
  · refine (h.rel.loc l c hc).mono hx hk (hg.block _ (h.rel.loc_lt hc) ?_)
    intro e
    injection e with e
    exact h.rel.loc_live l c hc ⟨id, hid, e.symm⟩
  · rcases hf with hf | hf
    · exact h.rel.loc_fz l c hc hf
    · exact h.rel.loc_live l c hc ⟨id, hid, hf.symm⟩
  · have h1 : ¬ Live X T b := fun hl' => hl (h.step.livenew b hb hl')
    rw [hg.block b (Nat.lt_of_lt_of_le hb h.step.size) (fun e => by injection e with e; exact h1 ⟨id, hid, e.symm⟩)]
    exact h.step.kept b hb hl
  · rcases hf with hf | rfl
    · exact h.step.fznew c hc hf
    · exact .inr (h.step.livenew _ hc ⟨id, hid, rfl⟩)
  · by_cases e : j = id
    · subst e; exact Tab.put_same ..
    · rw [Tab.put_ne _ _ e]; exact h.step.idnew j hj hT
  · obtain ⟨v, hv, hr⟩ := h.env s x hs
    exact ⟨v, hv, hr.mono hx hk (fun _ _ _ => rfl)⟩

/-- A row of the table is written. -/
theorem SR.setRow (h : SR X0 T0 w0 X lam env L T a w) {id : Nat} (hid : T id ≠ .unused) (hg : w.grownBy w' (some (X.β id).blk)) {esz : Nat} {cells : List AV}
    (hrow : RowAt X w' id esz cells) : SR X0 T0 w0 X lam env L (T.put id (.row esz cells)) a w' := by
  have hx := Cx.Le.refl X
  have hk := h.rel.fzKept_row hid hg
  have hne : ∀ j, T.put id (.row esz cells) j ≠ .unused → T j ≠ .unused := fun j hj => by
    by_cases e : j = id
    · subst e; exact hid
    · rw [Tab.put_ne _ _ e] at hj; exact hj
  have hlv : ∀ b, Live X (T.put id (.row esz cells)) b → Live X T b := fun b ⟨j, hj, hb⟩ => ⟨j, hne j hj, hb⟩
  have hblk : ∀ j, T j ≠ .unused → j ≠ id → w'.heap[(X.β j).blk]? = w.heap[(X.β j).blk]? := fun j hj hji => by
    refine hg.block _ (h.rel.live_lt ⟨j, hj, rfl⟩) ?_
    intro e
    injection e with e
    exact hji (h.rel.live_inj j id hj hid e)
  refine ⟨⟨fun j hj => ?_, fun b hf => Nat.lt_of_lt_of_le (h.rel.fzlt b hf) hg.size, fun j esz' cs hT => ?_, fun j es hT => ?_, fun j hj => h.rel.live_fz j (hne j hj), fun j j' h1 h2 h3 => h.rel.live_inj j j' (hne j h1) (hne j' h2) h3, fun l c hc => ?_, h.rel.loc_fz, h.rel.loc_inj, fun l c hc hl => h.rel.loc_live l c hc (hlv _ hl)⟩,
    h.step.trans ⟨hx, hg.os, hg.tape, hg.output, hg.size, fun b hb hl => ?_, fun _ _ hf => .inl hf, fun b _ hl => hlv b hl, fun j hj hT => ?_⟩, h.locnew, fun s x hs => ?_, h.defers⟩
  · have := h.rel.id_lt hid
    rw [Tab.put_ne _ _ (by omega)]; exact h.rel.fresh j hj
  · by_cases e : j = id
    · subst e; rw [Tab.put_same] at hT; cases hT; exact hrow
    · rw [Tab.put_ne _ _ e] at hT
      exact (h.rel.row j esz' cs hT).mono hx hk (h.rel.id_lt (by simp [hT])) (hblk j (by simp [hT]) e)
  · by_cases e : j = id
    · subst e; rw [Tab.put_same] at hT; cases hT
    · rw [Tab.put_ne _ _ e] at hT
      exact (h.rel.map j es hT).mono hx hk (h.rel.id_lt (by simp [hT])) (hblk j (by simp [hT]) e)
  · refine (h.rel.loc l c hc).mono hx hk (hg.block _ (h.rel.loc_lt hc) ?_)
    intro e
    injection e with e
    exact h.rel.loc_live l c hc ⟨id, hid, e.symm⟩
  · exact hg.block b hb (fun e => by injection e with e; exact hl ⟨id, hid, e.symm⟩)
  · by_cases e : j = id
    · subst e; exact absurd hT hid
    · rw [Tab.put_ne _ _ e]; exact hT
  · obtain ⟨v, hv, hr⟩ := h.env s x hs
    exact ⟨v, hv, hr.mono hx hk (fun _ _ _ => rfl)⟩

/-- A local variable is written. -/
theorem SR.setLoc (h : SR X0 T0 w0 X lam env L T a w) {l : Nat} {c0 : List AV} (hl : aget L l = some c0) (hg : w.grownBy w' (some (lam l))) {cells : List AV}
    (hloc : LocAt X w' (lam l) cells) : SR X0 T0 w0 X lam env (aset L l cells) T a w' := by
  have hx := Cx.Le.refl X
  have hk : FzKept X w w' := fun b hf => hg.block b (h.rel.fzlt b hf) (fun e => by injection e with e; subst e; exact h.rel.loc_fz l c0 hl hf)
  have hne : ∀ j c, aget (aset L l cells) j = some c → ∃ c', aget L j = some c' := fun j c hj => by
    rw [aget_aset] at hj
    by_cases e : l = j
    · subst e; exact ⟨c0, hl⟩
    · simp only [e, if_false] at hj; exact ⟨c, hj⟩
  have hblk : ∀ j, T j ≠ .unused → w'.heap[(X.β j).blk]? = w.heap[(X.β j).blk]? := fun j hj =>
    hg.block _ (h.rel.live_lt ⟨j, hj, rfl⟩) (fun e => by injection e with e; exact h.rel.loc_live l c0 hl ⟨j, hj, e⟩)
  refine ⟨⟨h.rel.fresh, fun b hf => Nat.lt_of_lt_of_le (h.rel.fzlt b hf) hg.size, fun j esz' cs hT => ?_, fun j es hT => ?_, h.rel.live_fz, h.rel.live_inj, fun j c hc => ?_, fun j c hc => ?_, fun j j' c c' h1 h2 h3 => ?_, fun j c hc => ?_⟩,
    ⟨h.step.le, hg.os.trans h.step.os, hg.tape.trans h.step.tape, hg.output.trans h.step.output, Nat.le_trans h.step.size hg.size, fun b hb hl' => ?_, h.step.fznew, h.step.livenew, h.step.idnew⟩, fun j c hc => ?_, fun s x hs => ?_, h.defers⟩
  · exact (h.rel.row j esz' cs hT).mono hx hk (h.rel.id_lt (by simp [hT])) (hblk j (by simp [hT]))
  · exact (h.rel.map j es hT).mono hx hk (h.rel.id_lt (by simp [hT])) (hblk j (by simp [hT]))
  · rw [aget_aset] at hc
    by_cases e : l = j
    · subst e; simp at hc; subst hc; exact hloc
    · simp only [e, if_false] at hc
      exact (h.rel.loc j c hc).mono hx hk (hg.block _ (h.rel.loc_lt hc) (fun e' => by injection e' with e'; exact e (h.rel.loc_inj _ _ _ _ hl hc e'.symm)))
  · obtain ⟨c', hc'⟩ := hne j c hc; exact h.rel.loc_fz j c' hc'
  · obtain ⟨d, hd⟩ := hne j c h1; obtain ⟨d', hd'⟩ := hne j' c' h2; exact h.rel.loc_inj j j' d d' hd hd' h3
  · obtain ⟨c', hc'⟩ := hne j c hc; exact h.rel.loc_live j c' hc'
  · rw [hg.block b (Nat.lt_of_lt_of_le hb h.step.size) (fun e => by injection e with e; have := h.locnew l c0 hl; omega)]
    exact h.step.kept b hb hl'
  · obtain ⟨c', hc'⟩ := hne j c hc; exact h.locnew j c' hc'
  · obtain ⟨v, hv, hr⟩ := h.env s x hs
    exact ⟨v, hv, hr.mono hx hk (fun _ _ _ => rfl)⟩

/-- The places of a local variable are forgotten. -/
def AV.offLp (k : Nat) : AV → AV
  | .lp l o => if l = k then .any else .lp l o
  | x => x
def dropLp : Env → Nat → Env
  | [], _ => []
  | (s, x) :: r, k => (s, x.offLp k) :: dropLp r k

theorem aget_dropLp (k s : Nat) : ∀ env : Env, aget (dropLp env k) s = (aget env s).map (AV.offLp k)
  | [] => rfl
  | (t, x) :: r => by
    have ih := aget_dropLp k s r
    simp only [dropLp, aget]
    split <;> simp_all

/-- A new local variable. -/
theorem SR.newLoc (h : SR X0 T0 w0 X lam env L T a w) (l : Nat) (hg : w.grownBy w' none) {b : Nat} (hb : w.heap.size ≤ b) {cells : List AV}
    (hloc : LocAt X w' b cells) : SR X0 T0 w0 X (fun j => if j = l then b else lam j) (dropLp env l) (aset L l cells) T a w' := by
  have h1 := h.grow hg
  have hsz := h.step.size
  have hold : ∀ j c, aget (aset L l cells) j = some c → (j = l ∧ c = cells) ∨ (j ≠ l ∧ aget L j = some c) := fun j c hj => by
    rw [aget_aset] at hj
    by_cases e : l = j
    · subst e; simp at hj; exact .inl ⟨rfl, hj.symm⟩
    · simp only [e, if_false] at hj; exact .inr ⟨fun e' => e e'.symm, hj⟩
  refine ⟨⟨h1.rel.fresh, h1.rel.fzlt, h1.rel.row, h1.rel.map, h1.rel.live_fz, h1.rel.live_inj, fun j c hc => ?_, fun j c hc => ?_, fun j j' c c' h2 h3 h4 => ?_, fun j c hc => ?_⟩, h1.step, fun j c hc => ?_, fun s x hs => ?_, h1.defers⟩
  · rcases hold j c hc with ⟨rfl, rfl⟩ | ⟨hj, hc⟩
    · simpa using hloc
    · simp only [hj, if_false]; exact h1.rel.loc j c hc
  · rcases hold j c hc with ⟨rfl, rfl⟩ | ⟨hj, hc⟩
    · simp only [if_true]; intro hf; have := h.rel.fzlt b hf; omega
    · simp only [hj, if_false]; exact h1.rel.loc_fz j c hc
  · rcases hold j c h2 with ⟨rfl, rfl⟩ | ⟨hj, hc⟩ <;> rcases hold j' c' h3 with ⟨rfl, rfl⟩ | ⟨hj', hc'⟩
    · rfl
    · simp only [hj', if_true, if_false] at h4; have := h.rel.loc_lt hc'; omega
    · simp only [hj, if_true, if_false] at h4; have := h.rel.loc_lt hc; omega
    · simp only [hj, hj', if_false] at h4; exact h1.rel.loc_inj j j' c c' hc hc' h4
  · rcases hold j c hc with ⟨rfl, rfl⟩ | ⟨hj, hc⟩
    · simp only [if_true]; intro hl; have := h.rel.live_lt hl; omega
    · simp only [hj, if_false]; exact h1.rel.loc_live j c hc
  · rcases hold j c hc with ⟨rfl, rfl⟩ | ⟨hj, hc⟩
    · simp only [if_true]; omega
    · simp only [hj, if_false]; exact h1.locnew j c hc
  · rw [aget_dropLp] at hs
    cases hx : aget env s with
    | none => simp [hx] at hs
    | some y =>
      simp [hx] at hs
      subst hs
      obtain ⟨v, hv, hr⟩ := h1.env s y hx
      refine ⟨v, hv, ?_⟩
      cases y with
      | lp l' o =>
        simp only [AV.offLp]
        split
        · simp [evr, vr]
        · rename_i hne
          simp only [evr, hne, if_false] at hr ⊢
          exact hr
      | _ => exact hr

/-- Behind a call. -/
theorem SR.call (h : SR X0 T0 w0 X lam env L T a w) {X' : Cx} {T' : Tab} {lam' : Nat → Nat} (hs : Step X T w X' T' w') (hr : Rel X' T' [] lam' w') :
    SR X0 T0 w0 X' lam env L T' a w' := by
  have hk := hs.fzKept h.rel
  have hlt : ∀ l c, aget L l = some c → lam l < w.heap.size ∧ ¬ Live X T (lam l) := fun l c hc => ⟨h.rel.loc_lt hc, h.rel.loc_live l c hc⟩
  refine ⟨⟨hr.fresh, hr.fzlt, hr.row, hr.map, hr.live_fz, hr.live_inj, fun l c hc => ?_, fun l c hc hf => ?_, h.rel.loc_inj, fun l c hc hl => ?_⟩, h.step.trans hs, h.locnew, fun s x hx => ?_, h.defers⟩
  · exact (h.rel.loc l c hc).mono hs.le hk (hs.kept _ (hlt l c hc).1 (hlt l c hc).2)
  · rcases hs.fznew _ (hlt l c hc).1 hf with h1 | h1
    · exact h.rel.loc_fz l c hc h1
    · exact (hlt l c hc).2 h1
  · exact (hlt l c hc).2 (hs.livenew _ (hlt l c hc).1 hl)
  · obtain ⟨v, hv, hr⟩ := h.env s x hx
    exact ⟨v, hv, hr.mono hs.le hk (fun _ _ _ => rfl)⟩

end
end Go.Aw
