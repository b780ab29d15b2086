/-
  Operations that make or write memory.
-/
import Derived.Test.YtchkfbfbhaldfaaAwMem2
import Derived.Laws.CopyRow
namespace Go.Aw
set_option linter.all false
open Go

section
variable {P : Program} {X0 : Cx} {T0 : Tab} {w0 : World} {X : Cx} {lam : Nat → Nat} {env : Env} {L : Loc} {T : Tab} {a : Act} {w w' : World}

theorem grownBy_drew (w : World) (row : Option Nat) : w.grownBy w.drew row := ⟨rfl, rfl, rfl, Nat.le_refl _, fun _ _ _ => rfl⟩
theorem grownBy_trans {w w1 w2 : World} {row : Option Nat} (h : w.grownBy w1 row) (k : w1.grownBy w2 row) : w.grownBy w2 row :=
  ⟨k.os.trans h.os, k.tape.trans h.tape, k.output.trans h.output, Nat.le_trans h.size k.size, fun b hb hne => (k.block b (Nat.lt_of_lt_of_le hb h.size) hne).trans (h.block b hb hne)⟩
theorem grownBy_setRow (w : World) (g : Nat) (cs : Array Value) : w.grownBy (w.setRow g cs) (some g) :=
  ⟨rfl, rfl, rfl, by simp, fun k _ hk => setRow_other w g k cs (fun e => hk (by rw [e]))⟩

theorem SR.fzKept_grow (h : SR X0 T0 w0 X lam env L T a w) (hg : w.grownBy w' none) : FzKept X w w' := fun b hf => hg.block b (h.rel.fzlt b hf) (by simp)

/-- A new local variable. -/
theorem SR.allocLoc (h : SR X0 T0 w0 X lam env L T a w) (l : Nat) {cells : List AV} {us : List Value} (e : TypeId) (hv : vrs X w cells us) (h1 : ∀ u ∈ us, u.oneCell' = true) :
    SR X0 T0 w0 X (fun j => if j = l then w.heap.size else lam j) (dropLp env l) (aset L l cells) T a (w.alloc (.cells us.toArray e)) := by
  have hg := World.grownBy_alloc w (.cells us.toArray e) none
  exact h.newLoc l hg (Nat.le_refl _) ⟨e, us, heap_alloc_new w _, vrs.mono (.refl X) (h.fzKept_grow hg) _ _ hv, h1⟩

/-- A new row of the table. -/
theorem SR.allocRow (h : SR X0 T0 w0 X lam env L T a w) (esz : Nat) {cells : List AV} {us : List Value} (e : TypeId) (hv : vrs X w cells us) (h1 : ∀ u ∈ us, u.oneCell' = true) :
    SR X0 T0 w0 (X.addRow ⟨w.heap.size, 0, cells.length, esz⟩) lam env L (T.put X.N (.row esz cells)) a (w.alloc (.cells us.toArray e)) := by
  have hg := World.grownBy_alloc w (.cells us.toArray e) none
  have h' := h.grow hg
  have hlen := hv.length
  refine h'.addRow ⟨w.heap.size, 0, cells.length, esz⟩ (fun h0 => absurd h.step.size (by simp only at h0; omega)) (fun hf => ?_) (fun hl => ?_) (fun l c hc e => ?_) ⟨us.toArray, e, us, heap_alloc_new w _, vrs.mono (.refl X) (h.fzKept_grow hg) _ _ hv, h1, fun j u hu => ?_, by simp, by simp [hlen]⟩
  · exact Nat.lt_irrefl _ (h.rel.fzlt _ hf)
  · exact Nat.lt_irrefl _ (h.rel.live_lt hl)
  · have := h.rel.loc_lt hc; simp only at e; omega
  · simpa using hu

/-- A new block that nobody will write. -/
theorem SR.allocFz (h : SR X0 T0 w0 X lam env L T a w) (hg : w.grownBy w' none) {b : Nat} (hb : w.heap.size ≤ b) (hb' : b < w'.heap.size) :
    SR X0 T0 w0 (X.addFz b) lam env L T a w' := by
  have h' := h.grow hg
  have h0 := h.step.size
  refine h'.addFz hb' (by omega) (fun hl => ?_) (fun l c hc e => ?_)
  · have := h.rel.live_lt hl; omega
  · have := h.rel.loc_lt hc; omega

/-- Cells, some of which are written. -/
def stCells (cells : List AV) (o : Nat) (xs : List AV) : List AV := cells.take o ++ xs ++ cells.drop (o + xs.length)

theorem stCells_length {cells : List AV} {o : Nat} {xs : List AV} (h : o + xs.length ≤ cells.length) : (stCells cells o xs).length = cells.length := by
  simp [stCells]; omega

theorem vrs.stCells {cells xs : List AV} {us vs : List Value} (h : vrs X w cells us) (k : vrs X w xs vs) (o : Nat) : vrs X w (Aw.stCells cells o xs) (us.take o ++ vs ++ us.drop (o + vs.length)) := by
  unfold Aw.stCells
  rw [← k.length]
  exact ((h.take o).append k).append (h.drop _)

theorem SR.storeLoc (h : SR X0 T0 w0 X lam env L T a w) {l o : Nat} {cells xs : List AV} {vs : List Value} (hl : aget L l = some cells) (ho : o + xs.length ≤ cells.length) (hv : vrs X w xs vs) (h1 : ∀ u ∈ vs, u.oneCell' = true) :
    ∃ w', (storeCells ⟨lam l, o, none⟩ vs).run P w = .ok () w' ∧ SR X0 T0 w0 X lam env (aset L l (stCells cells o xs)) T a w' := by
  obtain ⟨e, us, h2, h3, h4⟩ := h.rel.loc l cells hl
  have e1 := h3.length
  have e2 := hv.length
  have hr := run_storeCells_at P (lam l) o e vs 0 us.toArray w h2 (by simp; omega) h1
  simp only [Nat.add_zero] at hr
  refine ⟨_, hr, ?_⟩
  have hg := grownBy_setRow w (lam l) (us.toArray.toList.take o ++ vs ++ us.toArray.toList.drop (o + vs.length)).toArray
  refine h.setLoc hl hg ⟨e, us.take o ++ vs ++ us.drop (o + vs.length), by simpa using setRow_heap w (lam l) us.toArray _ e (0, 0) h2, ?_, fun u hu => ?_⟩
  · exact vrs.mono (.refl X) (fun b hf => hg.block b (h.rel.fzlt b hf) (fun e => by injection e with e; subst e; exact h.rel.loc_fz l cells hl hf)) _ _ (h3.stCells hv o)
  · simp only [List.mem_append] at hu
    rcases hu with (hu | hu) | hu
    · exact h4 u (List.mem_of_mem_take hu)
    · exact h1 u hu
    · exact h4 u (List.mem_of_mem_drop hu)

theorem getElem?_splice {α : Type} (cur vs : List α) (o : Nat) (ho : o + vs.length ≤ cur.length) (j : Nat) :
    (cur.take o ++ vs ++ cur.drop (o + vs.length))[j]? = if j < o then cur[j]? else if j < o + vs.length then vs[j - o]? else cur[j]? := by
  have hl : (cur.take o).length = o := by rw [List.length_take]; omega
  by_cases h1 : j < o
  · rw [if_pos h1, List.append_assoc, List.getElem?_append_left (by omega), List.getElem?_take, if_pos h1]
  · rw [if_neg h1]
    by_cases h2 : j < o + vs.length
    · rw [if_pos h2, List.append_assoc, List.getElem?_append_right (by omega), hl, List.getElem?_append_left (by omega)]
    · rw [if_neg h2, List.getElem?_append_right (by simp; omega), List.getElem?_drop]
      congr 1
      simp; omega

theorem SR.storeRow (h : SR X0 T0 w0 X lam env L T a w) {id esz o : Nat} {cells xs : List AV} {vs : List Value} (hl : T id = .row esz cells) (ho : o + xs.length ≤ cells.length) (hv : vrs X w xs vs) (h1 : ∀ u ∈ vs, u.oneCell' = true) :
    ∃ w', (storeCells ⟨(X.β id).blk, (X.β id).base + o, none⟩ vs).run P w = .ok () w' ∧ SR X0 T0 w0 X lam env L (T.put id (.row esz (stCells cells o xs))) a w' := by
  obtain ⟨cur, e, us, h2, h3, h4, h5, h6, h7, h8⟩ := h.rel.row id esz cells hl
  have hid : T id ≠ .unused := by simp [hl]
  have e1 := h3.length
  have e2 := hv.length
  have hr := run_storeCells_at P (X.β id).blk ((X.β id).base + o) e vs 0 cur w h2 (by omega) h1
  simp only [Nat.add_zero] at hr
  refine ⟨_, hr, ?_⟩
  have hg := grownBy_setRow w (X.β id).blk (cur.toList.take ((X.β id).base + o) ++ vs ++ cur.toList.drop ((X.β id).base + o + vs.length)).toArray
  have hlc : (X.β id).base + o + vs.length ≤ cur.toList.length := by simp; omega
  refine h.setRow hid hg ⟨_, e, us.take o ++ vs ++ us.drop (o + vs.length), setRow_heap w (X.β id).blk cur _ e (0, 0) h2, ?_, fun u hu => ?_, fun j u hu => ?_, ?_, ?_, h8⟩
  · exact vrs.mono (.refl X) (h.rel.fzKept_row hid hg) _ _ (h3.stCells hv o)
  · simp only [List.mem_append] at hu
    rcases hu with (hu | hu) | hu
    · exact h4 u (List.mem_of_mem_take hu)
    · exact h1 u hu
    · exact h4 u (List.mem_of_mem_drop hu)
  · rw [getElem?_splice us vs o (by omega)] at hu
    rw [List.getElem?_toArray, getElem?_splice cur.toList vs _ hlc]
    by_cases c1 : j < o
    · rw [if_pos c1] at hu
      rw [if_pos (by omega)]
      simpa using h5 j u hu
    · rw [if_neg c1] at hu
      rw [if_neg (by omega)]
      by_cases c2 : j < o + vs.length
      · rw [if_pos c2] at hu
        rw [if_pos (by omega), show (X.β id).base + j - ((X.β id).base + o) = j - o by omega]
        exact hu
      · rw [if_neg c2] at hu
        rw [if_neg (by omega)]
        simpa using h5 j u hu
  · rw [stCells_length ho]; exact h6
  · simp; omega

/-! ### append -/

/-- What stands at a slice. -/
def slCells (T : Tab) (esz : Nat) : AV → Option (List AV)
  | .fz n cells _ => if cells.length = n * esz then some cells else none
  | .sl id o n _ => match T id with
    | .row z cells => if z = esz ∧ o + n * esz ≤ cells.length then some ((cells.drop o).take (n * esz)) else none
    | _ => none
  | .s l => if esz = 1 then some (l.map fun b => .i .u8 b.toNat) else none
  | _ => none

def slLen : AV → Nat
  | .fz n _ _ => n
  | .sl _ _ n _ => n
  | .s l => l.length
  | _ => 0

theorem vrs_bytes : ∀ l : List UInt8, vrs X w (l.map fun b => .i .u8 b.toNat) (l.map fun b => .int .u8 b.toNat)
  | [] => rfl
  | b :: l => ⟨_, _, rfl, by simp [vr], vrs_bytes l⟩

/-- What is loaded of a slice or a text. -/
theorem firstCells_sound {L : Loc} (hr : Rel X T L lam w) {esz : Nat} {x : AV} {u : Value} {cells : List AV} (hx : vr X w x u) (h : slCells T esz x = some cells) (hw : w.heap = w'.heap) :
    ∃ us, vrs X w cells us ∧ (∀ v ∈ us, v.oneCell' = true) ∧ us.length = slLen x * esz ∧ (Builtin.firstCells esz (slLen x) u).run P w' = .ok us.toArray w' ∧ (Builtin.lenOf u).run P w' = .ok (slLen x) w' := by
  have hc : ∀ ad, w'.cell? ad = w.cell? ad := fun ad => by simp [World.cell?, hw]
  cases x <;> simp only [slCells] at h <;> first
    | (cases h; done)
    | skip
  · rename_i l
    split at h
    · rename_i he
      subst he
      injection h with h; subst h
      simp only [vr] at hx
      subst hx
      refine ⟨_, vrs_bytes l, by simp [Value.oneCell'], by simp [slLen], ?_, by simp [Builtin.lenOf, slLen, ByteArray.size]⟩
      have hs : (⟨l.toArray⟩ : ByteArray).extract 0 l.length = ⟨l.toArray⟩ := by
        apply ByteArray.ext
        rw [ByteArray.data_extract]
        apply Array.ext'
        simp
      simp [Builtin.firstCells, slLen, hs]
    · cases h
  · rename_i n cs cap
    split at h
    · rename_i he
      injection h with h; subst h
      simp only [vr] at hx
      obtain ⟨us, h1, hf⟩ := hx
      have hl := h1.length
      rcases hf with ⟨rfl, rfl, rfl, _⟩ | ⟨ad, c, rfl, h2, h3, h4, h5⟩
      · exact ⟨[], h1, by simp, by simp [slLen], by simp [Builtin.firstCells], by simp [Builtin.lenOf, slLen]⟩
      · refine ⟨us, h1, ?_, by simp [slLen, hl, he], ?_, by simp [Builtin.lenOf, slLen]⟩
        · rcases h5 with rfl | ⟨_, h6, _⟩
          · simp
          · exact h6
        · refine run_firstCells_some w' esz n ad n c us (by rw [hl, he]) fun j v hv => ?_
          have h2 : ad.spot = none := h2.resolve_left fun e => by subst e; simp at hv
          rw [addr_eta h2, Addr.add_none, hc]
          rcases h5 with rfl | ⟨_, _, h6⟩
          · simp at hv
          · exact h6 j v hv
    · cases h
  · rename_i id o n cap
    split at h
    · rename_i z cs hT
      split at h
      · rename_i he
        injection h with h; subst h
        simp only [vr] at hx
        obtain ⟨_, c, rfl, h3, h4, h5, h6⟩ := hx
        obtain ⟨us, h7, h8, h9⟩ := (hr.row id z cs hT).lies
        have hl := h7.length
        have hlen : ((us.drop o).take (n * esz)).length = n * esz := by rw [List.length_take, List.length_drop]; omega
        refine ⟨(us.drop o).take (n * esz), (h7.drop o).take _, fun v hv => h8 v (List.mem_of_mem_drop (List.mem_of_mem_take hv)), by rw [hlen]; rfl, ?_, by simp [Builtin.lenOf, slLen]⟩
        refine run_firstCells_some w' esz n _ n c _ hlen fun j v hv => ?_
        rw [Addr.add_none, hc]
        exact (h9.part o (n * esz)).cell hv
      · cases h
    · cases h

end
end Go.Aw
