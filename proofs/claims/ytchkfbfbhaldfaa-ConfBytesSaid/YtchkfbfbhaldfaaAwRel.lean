/-
  The table of a run, the local variables, and what it is for a world to be as they say.
-/
import Derived.Test.YtchkfbfbhaldfaaAwVal
namespace Go.Aw
set_option linter.all false
open Go

inductive Slot where
  | unused
  | row (esz : Nat) (cells : List AV)
  | mapo (es : List (AV × AV))
  deriving Inhabited

abbrev Tab := Nat → Slot
def Tab.nil : Tab := fun _ => .unused
def Tab.put (T : Tab) (id : Nat) (s : Slot) : Tab := fun j => if j = id then s else T j

theorem Tab.put_same (T : Tab) (id : Nat) (s : Slot) : T.put id s id = s := by simp [Tab.put]
theorem Tab.put_ne (T : Tab) {id j : Nat} (s : Slot) (h : j ≠ id) : T.put id s j = T j := by simp [Tab.put, h]

def aget {α : Type} : List (Nat × α) → Nat → Option α
  | [], _ => none
  | (j, x) :: r, k => if j = k then some x else aget r k
def aset {α : Type} (l : List (Nat × α)) (k : Nat) (x : α) : List (Nat × α) := (k, x) :: l
def adel {α : Type} : List (Nat × α) → Nat → List (Nat × α)
  | [], _ => []
  | (j, y) :: r, k => if j = k then adel r k else (j, y) :: adel r k

theorem aget_aset {α : Type} (k : Nat) (x : α) (j : Nat) (l : List (Nat × α)) : aget (aset l k x) j = if k = j then some x else aget l j := rfl

theorem aget_adel {α : Type} (k j : Nat) : ∀ l : List (Nat × α), aget (adel l k) j = if k = j then none else aget l j
  | [] => by simp [adel, aget]
  | (i, y) :: r => by
    have ih := aget_adel k j r
    simp only [adel]
    by_cases h : i = k
    · subst h
      simp only [if_true, ih, aget]
      split <;> simp_all
    · simp only [h, if_false, aget, ih]
      by_cases h2 : i = j
      · subst h2
        have : ¬ k = i := fun e => h e.symm
        simp [this]
      · simp [h2]

abbrev Env := List (Nat × AV)
abbrev Loc := List (Nat × List AV)

/-- What a temporary holds. -/
def evr (X : Cx) (lam : Nat → Nat) (w : World) : AV → Value → Prop
  | .lp l o, v => v = .pointer (some ⟨lam l, o, none⟩)
  | x, v => vr X w x v

theorem evr_of_vr {X : Cx} {lam : Nat → Nat} {w : World} {x : AV} {v : Value} (h : vr X w x v) : evr X lam w x v := by
  cases x <;> first | exact h | (simp [vr] at h)

def AV.isLp : AV → Bool
  | .lp _ _ => true
  | _ => false

theorem vr_of_evr {X : Cx} {lam : Nat → Nat} {w : World} {x : AV} {v : Value} (h : evr X lam w x v) (hx : x.isLp = false) : vr X w x v := by
  cases x <;> first | exact h | (simp [AV.isLp] at hx)

def RowAt (X : Cx) (w : World) (id esz : Nat) (cells : List AV) : Prop :=
  ∃ cur e us, w.heap[(X.β id).blk]? = some (.cells cur e (0, 0)) ∧ vrs X w cells us ∧ (∀ u ∈ us, u.oneCell' = true) ∧
    (∀ (j : Nat) u, us[j]? = some u → cur[(X.β id).base + j]? = some u) ∧ (X.β id).base + cells.length ≤ (X.β id).lim ∧ (X.β id).lim ≤ cur.size ∧ (X.β id).esz = esz

def LocAt (X : Cx) (w : World) (b : Nat) (cells : List AV) : Prop :=
  ∃ e us, w.heap[b]? = some (.cells us.toArray e (0, 0)) ∧ vrs X w cells us ∧ (∀ u ∈ us, u.oneCell' = true)

def MapAt (X : Cx) (w : World) (id : Nat) (es : List (AV × AV)) : Prop :=
  ∃ ms clock, w.heap[(X.β id).blk]? = some (.map ms clock) ∧ vrs X w (es.map (·.1)) (ms.toList.map (·.key)) ∧ vrs X w (es.map (·.2)) (ms.toList.map (·.val))

def Live (X : Cx) (T : Tab) (b : Nat) : Prop := ∃ id, T id ≠ .unused ∧ (X.β id).blk = b

structure Rel (X : Cx) (T : Tab) (L : Loc) (lam : Nat → Nat) (w : World) : Prop where
  fresh : ∀ id, X.N ≤ id → T id = .unused
  fzlt : ∀ b, X.fz b → b < w.heap.size
  row : ∀ id esz cells, T id = .row esz cells → RowAt X w id esz cells
  map : ∀ id es, T id = .mapo es → MapAt X w id es
  live_fz : ∀ id, T id ≠ .unused → ¬ X.fz (X.β id).blk
  live_inj : ∀ id id', T id ≠ .unused → T id' ≠ .unused → (X.β id).blk = (X.β id').blk → id = id'
  loc : ∀ l cells, aget L l = some cells → LocAt X w (lam l) cells
  loc_fz : ∀ l cells, aget L l = some cells → ¬ X.fz (lam l)
  loc_inj : ∀ l l' c c', aget L l = some c → aget L l' = some c' → lam l = lam l' → l = l'
  loc_live : ∀ l cells, aget L l = some cells → ¬ Live X T (lam l)

theorem Rel.live_lt {X : Cx} {T : Tab} {L : Loc} {lam : Nat → Nat} {w : World} (h : Rel X T L lam w) {b : Nat} (hb : Live X T b) : b < w.heap.size := by
  obtain ⟨id, hid, rfl⟩ := hb
  cases ht : T id with
  | unused => exact absurd ht hid
  | row esz cells => obtain ⟨cur, e, us, hc, _⟩ := h.row id esz cells ht; exact (Array.getElem?_eq_some_iff.1 hc).1
  | mapo es => obtain ⟨ms, c, hc, _⟩ := h.map id es ht; exact (Array.getElem?_eq_some_iff.1 hc).1

theorem Rel.loc_lt {X : Cx} {T : Tab} {L : Loc} {lam : Nat → Nat} {w : World} (h : Rel X T L lam w) {l : Nat} {cells : List AV} (hl : aget L l = some cells) : lam l < w.heap.size := by
  obtain ⟨e, us, hc, _⟩ := h.loc l cells hl
  exact (Array.getElem?_eq_some_iff.1 hc).1

theorem Rel.id_lt {X : Cx} {T : Tab} {L : Loc} {lam : Nat → Nat} {w : World} (h : Rel X T L lam w) {id : Nat} (hid : T id ≠ .unused) : id < X.N :=
  Nat.lt_of_not_le fun hl => hid (h.fresh id hl)

structure Step (X : Cx) (T : Tab) (w : World) (X' : Cx) (T' : Tab) (w' : World) : Prop where
  le : X.Le X'
  os : w'.os = w.os
  tape : w'.tape = w.tape
  output : w'.output = w.output
  size : w.heap.size ≤ w'.heap.size
  kept : ∀ b, b < w.heap.size → ¬ Live X T b → w'.heap[b]? = w.heap[b]?
  fznew : ∀ b, b < w.heap.size → X'.fz b → X.fz b ∨ Live X T b
  livenew : ∀ b, b < w.heap.size → Live X' T' b → Live X T b
  idnew : ∀ id, id < X.N → T id = .unused → T' id = .unused

theorem Step.refl (X : Cx) (T : Tab) (w : World) : Step X T w X T w :=
  ⟨.refl X, rfl, rfl, rfl, Nat.le_refl _, fun _ _ _ => rfl, fun _ _ h => .inl h, fun _ _ h => h, fun _ _ h => h⟩

theorem Step.trans {X X1 X2 : Cx} {T T1 T2 : Tab} {w w1 w2 : World} (h : Step X T w X1 T1 w1) (k : Step X1 T1 w1 X2 T2 w2) : Step X T w X2 T2 w2 where
  le := h.le.trans k.le
  os := k.os.trans h.os
  tape := k.tape.trans h.tape
  output := k.output.trans h.output
  size := Nat.le_trans h.size k.size
  kept b hb hl := (k.kept b (Nat.lt_of_lt_of_le hb h.size) (fun hl1 => hl (h.livenew b hb hl1))).trans (h.kept b hb hl)
  fznew b hb hf := by
    rcases k.fznew b (Nat.lt_of_lt_of_le hb h.size) hf with h1 | h1
    · exact h.fznew b hb h1
    · exact .inr (h.livenew b hb h1)
  livenew b hb hl := h.livenew b hb (k.livenew b (Nat.lt_of_lt_of_le hb h.size) hl)
  idnew id hid hT := k.idnew id (Nat.lt_of_lt_of_le hid h.le.n) (h.idnew id hid hT)

theorem Step.fzKept {X X' : Cx} {T T' : Tab} {L : Loc} {lam : Nat → Nat} {w w' : World} (h : Step X T w X' T' w') (hr : Rel X T L lam w) : FzKept X w w' := by
  intro b hb
  refine h.kept b (hr.fzlt b hb) ?_
  rintro ⟨id, hid, rfl⟩
  exact hr.live_fz id hid hb

theorem RowAt.mono {X X' : Cx} {w w' : World} {id esz : Nat} {cells : List AV} (h : RowAt X w id esz cells) (hx : X.Le X') (hw : FzKept X w w') (hid : id < X.N)
    (hb : w'.heap[(X.β id).blk]? = w.heap[(X.β id).blk]?) : RowAt X' w' id esz cells := by
  obtain ⟨cur, e, us, h1, h2, h3, h4, h5, h6, h7⟩ := h
  unfold RowAt
  rw [hx.β id hid]
  exact ⟨cur, e, us, by rw [hb]; exact h1, vrs.mono hx hw _ _ h2, h3, h4, h5, h6, h7⟩

theorem MapAt.mono {X X' : Cx} {w w' : World} {id : Nat} {es : List (AV × AV)} (h : MapAt X w id es) (hx : X.Le X') (hw : FzKept X w w') (hid : id < X.N)
    (hb : w'.heap[(X.β id).blk]? = w.heap[(X.β id).blk]?) : MapAt X' w' id es := by
  obtain ⟨ms, clock, h1, h2, h3⟩ := h
  unfold MapAt
  rw [hx.β id hid]
  exact ⟨ms, clock, by rw [hb]; exact h1, vrs.mono hx hw _ _ h2, vrs.mono hx hw _ _ h3⟩

theorem LocAt.mono {X X' : Cx} {w w' : World} {b : Nat} {cells : List AV} (h : LocAt X w b cells) (hx : X.Le X') (hw : FzKept X w w')
    (hb : w'.heap[b]? = w.heap[b]?) : LocAt X' w' b cells := by
  obtain ⟨e, us, h1, h2, h3⟩ := h
  exact ⟨e, us, by rw [hb]; exact h1, vrs.mono hx hw _ _ h2, h3⟩

theorem evr.mono {X X' : Cx} {lam lam' : Nat → Nat} {w w' : World} {x : AV} {v : Value} (h : evr X lam w x v) (hx : X.Le X') (hw : FzKept X w w')
    (hl : ∀ l o, x = .lp l o → lam' l = lam l) : evr X' lam' w' x v := by
  cases x with
  | lp l o => simp only [evr] at h ⊢; rw [hl l o rfl]; exact h
  | _ => exact vr.mono hx hw _ _ h

/-- The state of a run in a function's body: from the world in which the function began. -/
structure SR (X0 : Cx) (T0 : Tab) (w0 : World) (X : Cx) (lam : Nat → Nat) (env : Env) (L : Loc) (T : Tab) (a : Act) (w : World) : Prop where
  rel : Rel X T L lam w
  step : Step X0 T0 w0 X T w
  locnew : ∀ l cells, aget L l = some cells → w0.heap.size ≤ lam l
  env : ∀ s x, aget env s = some x → ∃ v, a.tmps[s]? = some v ∧ evr X lam w x v
  defers : a.defers = []

/-- A temporary is written. -/
theorem SR.put {X0 : Cx} {T0 : Tab} {w0 : World} {X : Cx} {lam : Nat → Nat} {env : Env} {L : Loc} {T : Tab} {a : Act} {w : World}
    (h : SR X0 T0 w0 X lam env L T a w) {d : Nat} (hd : d < a.tmps.size) {x : AV} {v : Value} (hv : evr X lam w x v) :
    SR X0 T0 w0 X lam (aset env d x) L T (a.put (some d) v) w := by
  refine ⟨h.rel, h.step, h.locnew, fun s y hs => ?_, h.defers⟩
  rw [aget_aset] at hs
  by_cases e : d = s
  · subst e
    simp at hs
    subst hs
    exact ⟨v, by simp [Act.put, hd], hv⟩
  · simp only [e, if_false] at hs
    obtain ⟨u, hu, hr⟩ := h.env s y hs
    exact ⟨u, by simp [Act.put, e, hu], hr⟩

/-- A temporary is forgotten. -/
theorem SR.del {X0 : Cx} {T0 : Tab} {w0 : World} {X : Cx} {lam : Nat → Nat} {env : Env} {L : Loc} {T : Tab} {a : Act} {w : World}
    (h : SR X0 T0 w0 X lam env L T a w) (d : Option Nat) (v : Value) :
    SR X0 T0 w0 X lam (match d with | some d => adel env d | none => env) L T (a.put d v) w := by
  cases d with
  | none => exact h
  | some d =>
    refine ⟨h.rel, h.step, h.locnew, fun s y hs => ?_, h.defers⟩
    simp only at hs
    rw [aget_adel] at hs
    by_cases e : d = s
    · simp [e] at hs
    · simp only [e, if_false] at hs
      obtain ⟨u, hu, hr⟩ := h.env s y hs
      exact ⟨u, by simp [Act.put, e, hu], hr⟩

/-- Less is known of the temporaries and of the variables. -/
theorem SR.weaken {X0 : Cx} {T0 : Tab} {w0 : World} {X : Cx} {lam : Nat → Nat} {env env' : Env} {L L' : Loc} {T : Tab} {a : Act} {w : World}
    (h : SR X0 T0 w0 X lam env L T a w) (he : ∀ s x, aget env' s = some x → aget env s = some x) (hl : ∀ l c, aget L' l = some c → aget L l = some c) :
    SR X0 T0 w0 X lam env' L' T a w := by
  obtain ⟨r, s, ln, ev, df⟩ := h
  exact ⟨⟨r.fresh, r.fzlt, r.row, r.map, r.live_fz, r.live_inj, fun l c hc => r.loc l c (hl l c hc), fun l c hc => r.loc_fz l c (hl l c hc),
    fun l l' c c' h1 h2 => r.loc_inj l l' c c' (hl l c h1) (hl l' c' h2), fun l c hc => r.loc_live l c (hl l c hc)⟩, s, fun l c hc => ln l c (hl l c hc), fun t x hx => ev t x (he t x hx), df⟩

end Go.Aw
