/-
  Maps in the table.
-/
import Derived.Test.YtchkfbfbhaldfaaAwEff
import Derived.MapKept
namespace Go.Aw
open Go
set_option linter.all false

section
variable {P : Program} {X0 : Cx} {T0 : Tab} {w0 : World} {X : Cx} {lam : Nat → Nat} {env : Env} {L : Loc} {T : Tab} {a : Act} {w w' : World}

/-- A map of the table's own. -/
theorem SR.addMap (h : SR X0 T0 w0 X lam env L T a w) (k : Blk) {clock : Nat} (h0 : k.blk < w0.heap.size → Live X0 T0 k.blk) (hf : ¬ X.fz k.blk)
    (hl : ¬ Live X T k.blk) (hloc : ∀ l c, aget L l = some c → lam l ≠ k.blk) (hmap : w.heap[k.blk]? = some (.map #[] clock)) :
    SR X0 T0 w0 (X.addRow k) lam env L (T.put X.N (.mapo [])) a w := by
  have hk : FzKept X w w := fun _ _ => rfl
  have hx := X.le_addRow k
  have hN : (X.addRow k).β X.N = k := by simp [Cx.addRow]
  have hold : ∀ id, T id ≠ .unused → (X.addRow k).β id = X.β id := fun id hid => by simp [Cx.addRow, Nat.ne_of_lt (h.rel.id_lt hid)]
  refine ⟨⟨fun id hid => ?_, h.rel.fzlt, fun id esz cs hT => ?_, fun id es hT => ?_, fun id hid => ?_, fun id id' h1 h2 h3 => ?_, fun l c hc => ?_, h.rel.loc_fz, h.rel.loc_inj, fun l c hc hlv => ?_⟩,
    ⟨h.step.le.trans hx, h.step.os, h.step.tape, h.step.output, h.step.size, h.step.kept, h.step.fznew, fun c hc hlv => ?_, fun id hid hT => ?_⟩, h.locnew, fun s x hs => ?_, h.defers⟩
  · have : X.N + 1 ≤ id := hid
    rw [Tab.put_ne _ _ (by omega)]
    exact h.rel.fresh id (by omega)
  · by_cases e : id = X.N
    · subst e; rw [Tab.put_same] at hT; cases hT
    · rw [Tab.put_ne _ _ e] at hT
      exact (h.rel.row id esz cs hT).mono hx hk (h.rel.id_lt (by simp [hT])) rfl
  · by_cases e : id = X.N
    · subst e
      rw [Tab.put_same] at hT
      cases hT
      unfold MapAt
      rw [hN]
      exact ⟨#[], clock, hmap, by simp [vrs], by simp [vrs]⟩
    · rw [Tab.put_ne _ _ e] at hT
      exact (h.rel.map id es hT).mono hx hk (h.rel.id_lt (by simp [hT])) rfl
  · by_cases e : id = X.N
    · subst e; rw [hN]; exact hf
    · rw [Tab.put_ne _ _ e] at hid
      rw [hold id hid]; exact h.rel.live_fz id hid
  · by_cases e : id = X.N <;> by_cases e' : id' = X.N
    · omega
    · subst e
      rw [Tab.put_ne _ _ e'] at h2
      rw [hN, hold id' h2] at h3
      exact absurd ⟨id', h2, h3.symm⟩ hl
    · subst e'
      rw [Tab.put_ne _ _ e] at h1
      rw [hN, hold id h1] at h3
      exact absurd ⟨id, h1, h3⟩ hl
    · rw [Tab.put_ne _ _ e] at h1
      rw [Tab.put_ne _ _ e'] at h2
      rw [hold id h1, hold id' h2] at h3
      exact h.rel.live_inj id id' h1 h2 h3
  · exact (h.rel.loc l c hc).mono hx hk rfl
  · rcases live_addRow hlv with h1 | h1
    · exact h.rel.loc_live l c hc h1
    · exact hloc l c hc h1
  · rcases live_addRow hlv with h1 | h1
    · exact h.step.livenew c hc h1
    · subst h1; exact h0 hc
  · have : X0.N ≤ X.N := h.step.le.n
    rw [Tab.put_ne _ _ (by omega)]
    exact h.step.idnew id hid hT
  · obtain ⟨v, hv, hr⟩ := h.env s x hs
    exact ⟨v, hv, hr.mono hx hk (fun _ _ _ => rfl)⟩

/-- A new map. -/
theorem SR.allocMap (h : SR X0 T0 w0 X lam env L T a w) :
    SR X0 T0 w0 (X.addRow ⟨w.heap.size, 0, 0, 0⟩) lam env L (T.put X.N (.mapo [])) a (w.alloc (.map #[] 0)) := by
  have hg := World.grownBy_alloc w (.map #[] 0) none
  have h' := h.grow hg
  refine h'.addMap ⟨w.heap.size, 0, 0, 0⟩ (clock := 0) (fun h0 => absurd h.step.size (by simp only at h0; omega)) (fun hf => ?_) (fun hl => ?_) (fun l c hc e => ?_) (heap_alloc_new w _)
  · exact Nat.lt_irrefl _ (h.rel.fzlt _ hf)
  · exact Nat.lt_irrefl _ (h.rel.live_lt hl)
  · have := h.rel.loc_lt hc; simp only at e; omega

/-- A map of the table is written. -/
theorem SR.setMap (h : SR X0 T0 w0 X lam env L T a w) {id : Nat} (hid : T id ≠ .unused) (hg : w.grownBy w' (some (X.β id).blk)) {es : List (AV × AV)}
    (hmap : MapAt X w' id es) : SR X0 T0 w0 X lam env L (T.put id (.mapo es)) a w' := by
  have hx := Cx.Le.refl X
  have hk := h.rel.fzKept_row hid hg
  have hne : ∀ j, T.put id (.mapo es) j ≠ .unused → T j ≠ .unused := fun j hj => by
    by_cases e : j = id
    · subst e; exact hid
    · rw [Tab.put_ne _ _ e] at hj; exact hj
  have hlv : ∀ b, Live X (T.put id (.mapo es)) b → Live X T b := fun b ⟨j, hj, hb⟩ => ⟨j, hne j hj, hb⟩
  have hblk : ∀ j, T j ≠ .unused → j ≠ id → w'.heap[(X.β j).blk]? = w.heap[(X.β j).blk]? := fun j hj hji => by
    refine hg.block _ (h.rel.live_lt ⟨j, hj, rfl⟩) ?_
    intro e
    injection e with e
    exact hji (h.rel.live_inj j id hj hid e)
  refine ⟨⟨fun j hj => ?_, fun b hf => Nat.lt_of_lt_of_le (h.rel.fzlt b hf) hg.size, fun j esz' cs hT => ?_, fun j es' hT => ?_, fun j hj => h.rel.live_fz j (hne j hj), fun j j' h1 h2 h3 => h.rel.live_inj j j' (hne j h1) (hne j' h2) h3, fun l c hc => ?_, h.rel.loc_fz, h.rel.loc_inj, fun l c hc hl => h.rel.loc_live l c hc (hlv _ hl)⟩,
    h.step.trans ⟨hx, hg.os, hg.tape, hg.output, hg.size, fun b hb hl => ?_, fun _ _ hf => .inl hf, fun b _ hl => hlv b hl, fun j hj hT => ?_⟩, h.locnew, fun s x hs => ?_, h.defers⟩
  · have := h.rel.id_lt hid
    rw [Tab.put_ne _ _ (by omega)]; exact h.rel.fresh j hj
  · by_cases e : j = id
    · subst e; rw [Tab.put_same] at hT; cases hT
    · rw [Tab.put_ne _ _ e] at hT
      exact (h.rel.row j esz' cs hT).mono hx hk (h.rel.id_lt (by simp [hT])) (hblk j (by simp [hT]) e)
  · by_cases e : j = id
    · subst e; rw [Tab.put_same] at hT; cases hT; exact hmap
    · rw [Tab.put_ne _ _ e] at hT
      exact (h.rel.map j es' hT).mono hx hk (h.rel.id_lt (by simp [hT])) (hblk j (by simp [hT]) e)
  · refine (h.rel.loc l c hc).mono hx hk (hg.block _ (h.rel.loc_lt hc) ?_)
    intro e
    injection e with e
    exact h.rel.loc_live l c hc ⟨id, hid, e.symm⟩
  · exact hg.block b hb (fun e => by injection e with e; exact hl ⟨id, hid, e.symm⟩)
  · by_cases e : j = id
    · subst e; exact absurd hT hid
    · rw [Tab.put_ne _ _ e]; exact hT
  · obtain ⟨v, hv, hr⟩ := h.env s x hs
    exact ⟨v, hv, hr.mono hx hk (fun _ _ _ => rfl)⟩

/-! ### Keys -/
inductive MK where
  | i (k : IntKind)
  | s
  deriving DecidableEq

def MK.ofDesc : TypeDesc → Option MK
  | .int k => some (.i k)
  | .string => some .s
  | _ => none

/-- A key that is fully known. -/
def isKeyAv : MK → AV → Bool
  | .i k, .i j _ => decide (j = k)
  | .s, .s _ => true
  | _, _ => false

def keyEq : AV → AV → Bool
  | .i _ a, .i _ b => decide (a = b)
  | .s a, .s b => decide (a = b)
  | _, _ => false

/-- What a map has for a key: 'none' where some key of it is not known. -/
def mget (m : MK) (k : AV) : List (AV × AV) → Option (Option AV)
  | [] => some none
  | (a, v) :: es => if isKeyAv m a = true then (if keyEq k a = true then some (some v) else mget m k es) else none

def mput (k y : AV) : List (AV × AV) → List (AV × AV)
  | [] => [(k, y)]
  | (a, v) :: es => if keyEq k a = true then (k, y) :: es else (a, v) :: mput k y es

def keyV : AV → Value
  | .i k n => .int k n
  | .s l => .string ⟨l.toArray⟩
  | _ => .nilFunc

theorem key_vr {m : MK} {k : AV} {v : Value} (hk : isKeyAv m k = true) (h : vr X w k v) : v = keyV k := by
  cases m <;> cases k <;> simp [isKeyAv] at hk <;> simp only [vr] at h <;> exact h
theorem key_is {d : TypeDesc} {m : MK} {k : AV} (hd : MK.ofDesc d = some m) (hk : isKeyAv m k = true) : MapKept.IsKey d (keyV k) := by
  cases d <;> simp [MK.ofDesc] at hd <;> subst hd <;> cases k <;> simp [isKeyAv] at hk <;> simp [MapKept.IsKey, keyV, hk]
theorem keyEq_iff {m : MK} {k a : AV} (hk : isKeyAv m k = true) (ha : isKeyAv m a = true) : keyEq k a = true ↔ keyV k = keyV a := by
  cases m <;> cases k <;> simp [isKeyAv] at hk <;> cases a <;> simp [isKeyAv] at ha <;> simp [keyEq, keyV, hk, ha]

theorem mget_find {d : TypeDesc} {m : MK} {k : AV} (hd : MK.ofDesc d = some m) (hk : isKeyAv m k = true) : ∀ (es : List (AV × AV)) (ms : List MapEntry) (i : Nat) (r : Option AV),
    vrs X w (es.map (·.1)) (ms.map (·.key)) → vrs X w (es.map (·.2)) (ms.map (·.val)) → mget m k es = some r →
    (r = none ∧ Instr.findNow d (keyV k) ms i = some none) ∨ ∃ j v u e, r = some v ∧ vr X w v u ∧ Instr.findNow d (keyV k) ms i = some (some (i + j, u)) ∧ ms[j]? = some e ∧ e.key = keyV k
  | [], ms, i, r, h1, h2, hg => by
    simp only [List.map_nil, vrs, List.map_eq_nil_iff] at h1
    subst h1
    simp only [mget, Option.some.injEq] at hg
    exact .inl ⟨hg.symm, rfl⟩
  | (a, v) :: es, ms, i, r, h1, h2, hg => by
    simp only [List.map_cons, vrs] at h1 h2
    obtain ⟨u1, us1, e1, k1, k2⟩ := h1
    obtain ⟨u2, us2, e2, k3, k4⟩ := h2
    cases ms with
    | nil => simp at e1
    | cons e ms =>
      simp only [List.map_cons, List.cons.injEq] at e1 e2
      obtain ⟨rfl, rfl⟩ := e1
      obtain ⟨rfl, rfl⟩ := e2
      simp only [mget] at hg
      split at hg
      · rename_i ha
        have hke := key_vr ha k1
        obtain ⟨q, hq, hiff⟩ := MapKept.sameNow_of_keys (key_is hd hk) (key_is hd ha)
        split at hg
        · rename_i he
          have hkk := (keyEq_iff hk ha).1 he
          have hqt : q = true := hiff.2 hkk
          injection hg with hg
          refine .inr ⟨0, v, e.val, e, hg.symm, k3, ?_, rfl, by rw [hke, hkk]⟩
          simp [Instr.findNow, hke, hq, hqt]
        · rename_i he
          have hqf : q = false := by
            cases q with
            | false => rfl
            | true => exact absurd ((keyEq_iff hk ha).2 (hiff.1 rfl)) he
          rcases mget_find hd hk es ms (i + 1) r k2 k4 hg with ⟨r1, r2⟩ | ⟨j, v', u, e', r1, r2, r3, r4, r5⟩
          · exact .inl ⟨r1, by simp [Instr.findNow, hke, hq, hqf, r2]⟩
          · refine .inr ⟨j + 1, v', u, e', r1, r2, ?_, by simpa using r4, r5⟩
            simp [Instr.findNow, hke, hq, hqf, r3]; omega
      · cases hg

/-- A map's entries, one of them written. -/
theorem mput_found {d : TypeDesc} {m : MK} {k y : AV} {val : Value} (hd : MK.ofDesc d = some m) (hk : isKeyAv m k = true) (hy : vr X w y val) : ∀ (es : List (AV × AV)) (ms : List MapEntry) (r : Option AV) (i j : Nat) (u : Value),
    vrs X w (es.map (·.1)) (ms.map (·.key)) → vrs X w (es.map (·.2)) (ms.map (·.val)) → mget m k es = some r → Instr.findNow d (keyV k) ms i = some (some (i + j, u)) →
    vrs X w ((mput k y es).map (·.1)) ((ms.modify j fun e => { e with key := keyV k, val := val }).map (·.key)) ∧ vrs X w ((mput k y es).map (·.2)) ((ms.modify j fun e => { e with key := keyV k, val := val }).map (·.val))
  | [], ms, r, i, j, u, h1, h2, hg, hf => by
    simp only [List.map_nil, vrs, List.map_eq_nil_iff] at h1
    subst h1
    simp [Instr.findNow] at hf
  | (a, v) :: es, ms, r, i, j, u, h1, h2, hg, hf => by
    simp only [List.map_cons, vrs] at h1 h2
    obtain ⟨u1, us1, e1, k1, k2⟩ := h1
    obtain ⟨u2, us2, e2, k3, k4⟩ := h2
    cases ms with
    | nil => simp at e1
    | cons e ms =>
      simp only [List.map_cons, List.cons.injEq] at e1 e2
      obtain ⟨rfl, rfl⟩ := e1
      obtain ⟨rfl, rfl⟩ := e2
      simp only [mget] at hg
      split at hg
      · rename_i ha
        have hke := key_vr ha k1
        obtain ⟨q, hq, hiff⟩ := MapKept.sameNow_of_keys (key_is hd hk) (key_is hd ha)
        have hkv : vr X w k (keyV k) := by
          cases m <;> cases k <;> simp [isKeyAv] at hk <;> simp [vr, keyV]
        by_cases he : keyEq k a = true
        · have hkk := (keyEq_iff hk ha).1 he
          have hqt : q = true := hiff.2 hkk
          simp [Instr.findNow, hke, hq, hqt] at hf
          obtain ⟨hf, _⟩ := hf
          subst hf
          simp only [mput, he, if_true, List.modify_zero_cons, List.map_cons, vrs]
          exact ⟨⟨_, _, rfl, hkv, k2⟩, ⟨_, _, rfl, hy, k4⟩⟩
        · rw [if_neg he] at hg
          have hqf : q = false := by
            cases q with
            | false => rfl
            | true => exact absurd ((keyEq_iff hk ha).2 (hiff.1 rfl)) he
          simp [Instr.findNow, hke, hq, hqf] at hf
          cases j with
          | zero =>
            exfalso
            rcases mget_find hd hk es ms (i + 1) r k2 k4 hg with ⟨_, r2⟩ | ⟨j', _, _, _, _, _, r3, _⟩
            · rw [hf] at r2; cases r2
            · rw [hf] at r3; injection r3 with r3; injection r3 with r3; injection r3 with r3; omega
          | succ j =>
            have ih := mput_found hd hk hy es ms r (i + 1) j u k2 k4 hg (by rw [hf]; congr 3; omega)
            simp only [mput, he, if_false, List.modify_succ_cons, List.map_cons, vrs]
            exact ⟨⟨_, _, rfl, k1, ih.1⟩, ⟨_, _, rfl, k3, ih.2⟩⟩
      · cases hg

theorem mput_new {m : MK} {k y : AV} {val : Value} (hk : isKeyAv m k = true) (hy : vr X w y val) : ∀ (es : List (AV × AV)) (ms : List MapEntry) (born : Nat),
    vrs X w (es.map (·.1)) (ms.map (·.key)) → vrs X w (es.map (·.2)) (ms.map (·.val)) → mget m k es = some none →
    vrs X w ((mput k y es).map (·.1)) ((ms ++ [({ key := keyV k, val := val, born := born } : MapEntry)]).map (·.key)) ∧ vrs X w ((mput k y es).map (·.2)) ((ms ++ [({ key := keyV k, val := val, born := born } : MapEntry)]).map (·.val))
  | [], ms, born, h1, h2, hg => by
    have hkv : vr X w k (keyV k) := by
      cases m <;> cases k <;> simp [isKeyAv] at hk <;> simp [vr, keyV]
    simp only [List.map_nil, vrs, List.map_eq_nil_iff] at h1
    subst h1
    simp [mput, vrs, hkv, hy]
  | (a, v) :: es, ms, born, h1, h2, hg => by
    simp only [List.map_cons, vrs] at h1 h2
    obtain ⟨u1, us1, e1, k1, k2⟩ := h1
    obtain ⟨u2, us2, e2, k3, k4⟩ := h2
    cases ms with
    | nil => simp at e1
    | cons e ms =>
      simp only [List.map_cons, List.cons.injEq] at e1 e2
      obtain ⟨rfl, rfl⟩ := e1
      obtain ⟨rfl, rfl⟩ := e2
      simp only [mget] at hg
      split at hg
      · split at hg
        · cases hg
        · rename_i he
          have ih := mput_new hk hy es ms born k2 k4 hg
          simp only [mput, he, if_false, List.map_cons, vrs, List.cons_append]
          exact ⟨⟨_, _, rfl, k1, ih.1⟩, ⟨_, _, rfl, k3, ih.2⟩⟩
      · cases hg
end
end Go.Aw
