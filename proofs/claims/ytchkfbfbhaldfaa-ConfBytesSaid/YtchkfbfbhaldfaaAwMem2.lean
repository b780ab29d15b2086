/-
  Operations that read memory, on: parts of slices, of texts, of structs; results of several.
-/
import Derived.Test.YtchkfbfbhaldfaaAwMem
namespace Go.Aw
set_option linter.all false
open Go

section
variable {P : Program} {X : Cx} {lam : Nat → Nat} {w : World}

/-- The model's operands of a part are these. -/
def bndR (x : Option AV) (v : Option Value) : Prop :=
  match x, v with
  | none, none => True
  | some (.i k j), some v => v = .int k j
  | _, _ => False

theorem sliceBound_run {k : IntKind} {j : Int} {y : Nat} {c : BoundsCode} (h0 : 0 ≤ j) (h : j ≤ y) : (Instr.sliceBound (.int k j) y c).run P w = .ok j.toNat w := by
  simp [Instr.sliceBound, asIntOf, h0, h]

theorem sliceBounds_none {sl : Bool} {len cap : Nat} {lo hi : Option AV} {lv hv : Option Value} {l h : Nat} (hl : bndR lo lv) (hh : bndR hi hv) (e1 : bnd 0 lo = some l) (e2 : bnd len hi = some h)
    (h1 : l ≤ h) (h2 : h ≤ cap) (h3 : len ≤ cap) : (Instr.sliceBounds sl len cap lv hv none).run P w = .ok (l, h, cap) w := by
  cases hi with
  | none =>
    cases hv with
    | some v => simp [bndR] at hh
    | none =>
      simp only [bnd] at e2; injection e2 with e2; subst e2
      cases lo with
      | none =>
        cases lv with
        | some v => simp [bndR] at hl
        | none => simp only [bnd] at e1; injection e1 with e1; subst e1; simp [Instr.sliceBounds]
      | some x =>
        cases lv with
        | none => cases x <;> simp [bndR] at hl
        | some v =>
          cases x <;> simp only [bndR, bnd] at hl e1 <;> first | (cases hl; done) | skip
          subst hl
          split at e1
          · rename_i h0
            injection e1 with e1
            have := sliceBound_run (P := P) (w := w) (k := by assumption) (y := len) (c := .sliceB) h0 (by omega)
            simp [Instr.sliceBounds, this, e1]
          · cases e1
  | some y =>
    cases hv with
    | none => cases y <;> simp [bndR] at hh
    | some v' =>
      cases y <;> simp only [bndR, bnd] at hh e2 <;> first | (cases hh; done) | skip
      subst hh
      split at e2
      · rename_i kk jj h0'
        injection e2 with e2
        have hb : ∀ c, (Instr.sliceBound (.int kk jj) cap c).run P w = .ok h w := fun c => by rw [sliceBound_run h0' (by omega), e2]
        cases lo with
        | none =>
          cases lv with
          | some v => simp [bndR] at hl
          | none => simp only [bnd] at e1; injection e1 with e1; subst e1; simp [Instr.sliceBounds, hb]
        | some x =>
          cases lv with
          | none => cases x <;> simp [bndR] at hl
          | some v =>
            cases x <;> simp only [bndR, bnd] at hl e1 <;> first | (cases hl; done) | skip
            subst hl
            split at e1
            · rename_i k j h0
              injection e1 with e1
              have := sliceBound_run (P := P) (w := w) (k := k) (y := h) (c := .sliceB) h0 (by omega)
              simp [Instr.sliceBounds, hb, this, e1]
            · cases e1
      · cases e2

theorem sliceBounds_some {sl : Bool} {len cap : Nat} {lo hi : Option AV} {lv hv : Option Value} {l h m : Nat} {k : IntKind} {j : Int} (hl : bndR lo lv) (hh : bndR hi hv) (e1 : bnd 0 lo = some l) (e2 : bnd len hi = some h)
    (hhi : hi ≠ none) (hj : 0 ≤ j) (hm : j.toNat = m) (h1 : l ≤ h) (h2 : h ≤ m) (h3 : m ≤ cap) : (Instr.sliceBounds sl len cap lv hv (some (.int k j))).run P w = .ok (l, h, m) w := by
  have hb0 : ∀ c, (Instr.sliceBound (.int k j) cap c).run P w = .ok m w := fun c => by rw [sliceBound_run hj (by omega), hm]
  cases hi with
  | none => exact absurd rfl hhi
  | some y =>
    cases hv with
    | none => cases y <;> simp [bndR] at hh
    | some v' =>
      cases y <;> simp only [bndR, bnd] at hh e2 <;> first | (cases hh; done) | skip
      subst hh
      split at e2
      · rename_i kk jj h0'
        injection e2 with e2
        have hb : ∀ c, (Instr.sliceBound (.int kk jj) m c).run P w = .ok h w := fun c => by rw [sliceBound_run h0' (by omega), e2]
        cases lo with
        | none =>
          cases lv with
          | some v => simp [bndR] at hl
          | none => simp only [bnd] at e1; injection e1 with e1; subst e1; simp [Instr.sliceBounds, hb0, hb]
        | some x =>
          cases lv with
          | none => cases x <;> simp [bndR] at hl
          | some v =>
            cases x <;> simp only [bndR, bnd] at hl e1 <;> first | (cases hl; done) | skip
            subst hl
            split at e1
            · rename_i k' j' h0
              injection e1 with e1
              have := sliceBound_run (P := P) (w := w) (k := k') (y := h) (c := .slice3C) h0 (by omega)
              simp [Instr.sliceBounds, hb0, hb, this, e1]
            · cases e1
      · cases e2


theorem capOk_sub {cap : Option Nat} {c l : Nat} (h : capOk cap c) : capOk (cap.map (· - l)) (c - l) := by
  intro k hk
  cases cap with
  | none => simp at hk
  | some c' => simp at hk; rw [h c' rfl]; exact hk

theorem fzSlice_part {us : List Value} {a : Addr} (hs : Sp a us) (h5 : FzRow X w a us) {l h m esz : Nat} {cap' : Option Nat} (h1 : l ≤ h) (h2 : h ≤ m) (hc : capOk cap' (m - l)) :
    fzSlice X w (h - l) cap' ((us.drop (l * esz)).take ((h - l) * esz)) (.slice (some (if m = l then a else a.add (l * esz))) (h - l) (m - l)) := by
  refine .inr ⟨_, _, rfl, ?_, by omega, hc, ?_⟩
  · split
    · rename_i e
      have : h - l = 0 := by omega
      rw [this]
      exact .inl (by simp)
    · exact (hs.drop _).take _
  · split
    · rename_i e
      have : h - l = 0 := by omega
      rw [this]
      exact .inl (by simp)
    · exact (h5.drop _ hs).take _

theorem slc_sound {T : Tab} {L : Loc} (hr : Rel X T L lam w) {esz : Nat} {lo hi mx : Option AV} {lv hv mv : Option Value} {x r : AV} {u : Value} {t e : TypeId} {i : TypeInfo} (hx : vr X w x u) (hl : bndR lo lv) (hh : bndR hi hv)
    (hm : bndR mx mv) (ht : P.underlying t = some (.slice e)) (hi' : P.info? e = some i) (hsz : i.size = esz) (h : slcAv esz T lo hi mx x = some r) :
    ∃ q, (Instr.sliceAt t u lv hv mv).run P w = .ok q w ∧ vr X w r q := by
  cases x <;> simp only [slcAv] at h <;> first
    | (cases h; done)
    | skip
  · rename_i n cells cap
    simp only [vr] at hx
    obtain ⟨us, h1, hf⟩ := hx
    cases e1 : bnd 0 lo with
    | none => simp [e1] at h
    | some l =>
    cases e2 : bnd n hi with
    | none => simp [e1, e2] at h
    | some hh' =>
    cases mx with
    | none =>
      cases mv with
      | some v => simp [bndR] at hm
      | none =>
      simp only [e1, e2] at h
      split at h
      · rename_i hc
        injection h with h; subst h
        rcases hf with ⟨rfl, rfl, rfl, h4⟩ | ⟨a, c, rfl, h2, h3, h4, h5⟩
        · have hl0 : l = 0 := by omega
          have hh0 : hh' = 0 := by omega
          subst hl0; subst hh0
          have := sliceBounds_none (P := P) (w := w) (sl := true) (len := 0) (cap := 0) hl hh e1 e2 (by omega) (by omega) (by omega)
          refine ⟨.slice none 0 0, ?_, ?_⟩
          · simp [Instr.sliceAt, Instr.slice, run_underlying ht, this, sizeOf, typeInfo, hi']
          · simp only [vr]
            exact ⟨[], by simp [vrs], .inl ⟨rfl, rfl, rfl, by simpa using capOk_sub (l := 0) h4⟩⟩
        · have := sliceBounds_none (P := P) (w := w) (sl := true) (len := n) (cap := c) hl hh e1 e2 hc.1 (by omega) h3
          refine ⟨.slice (some (if c = l then a else a.add (l * esz))) (hh' - l) (c - l), ?_, ?_⟩
          · simp [Instr.sliceAt, Instr.slice, run_underlying ht, this, sizeOf, typeInfo, hi', hsz]
            split <;> rfl
          · simp only [vr]
            exact ⟨_, (h1.drop _).take _, fzSlice_part h2 h5 hc.1 (by omega) (capOk_sub h4)⟩
      · cases h
    | some mxv =>
      cases mv with
      | none => cases mxv <;> simp [bndR] at hm
      | some v =>
      cases mxv <;> simp only [bndR] at hm <;> first | (cases hm; done) | skip
      rename_i k j
      subst hm
      simp only [e1, e2] at h
      split at h
      · rename_i hc
        injection h with h; subst h
        have hhi : hi ≠ none := by rintro rfl; simp at hc
        rcases hf with ⟨rfl, rfl, rfl, h4⟩ | ⟨a, c, rfl, h2, h3, h4, h5⟩
        · have hl0 : l = 0 := by omega
          have hh0 : hh' = 0 := by omega
          have hj0 : j.toNat = 0 := by omega
          subst hl0; subst hh0
          have := sliceBounds_some (P := P) (w := w) (sl := true) (len := 0) (cap := 0) (k := k) hl hh e1 e2 hhi hc.2.2.2.1 hj0 (by omega) (by omega) (by omega)
          refine ⟨.slice none 0 0, ?_, ?_⟩
          · simp [Instr.sliceAt, Instr.slice, run_underlying ht, this, sizeOf, typeInfo, hi']
          · simp only [vr]
            exact ⟨[], by simp [vrs], .inl ⟨rfl, rfl, rfl, fun k hk => by injection hk with hk; omega⟩⟩
        · have := sliceBounds_some (P := P) (w := w) (sl := true) (len := n) (cap := c) (k := k) hl hh e1 e2 hhi hc.2.2.2.1 rfl hc.1 hc.2.1 (by omega)
          refine ⟨.slice (some (if j.toNat = l then a else a.add (l * esz))) (hh' - l) (j.toNat - l), ?_, ?_⟩
          · simp [Instr.sliceAt, Instr.slice, run_underlying ht, this, sizeOf, typeInfo, hi', hsz]
            split <;> rfl
          · simp only [vr]
            exact ⟨_, (h1.drop _).take _, fzSlice_part h2 h5 hc.1 hc.2.1 (fun k hk => by injection hk)⟩
      · cases h
  · rename_i id o n cap
    simp only [vr] at hx
    obtain ⟨h1, c, rfl, h3, h4, h5, h6⟩ := hx
    split at h
    · rename_i z cells hT
      split at h
      · rename_i hz
        subst hz
        have hbz : (X.β id).esz = z := by obtain ⟨_, _, _, _, _, _, _, _, _, h7⟩ := hr.row id z cells hT; exact h7
        rw [hbz] at h5 h6
        cases e1 : bnd 0 lo with
        | none => simp [e1] at h
        | some l =>
        cases e2 : bnd n hi with
        | none => simp [e1, e2] at h
        | some hh' =>
        have key : ∀ (m : Nat) (cap' : Option Nat), l ≤ hh' → hh' ≤ m → m ≤ c → capOk cap' (m - l) → (l < hh' ∨ l = 0 → cap' = none → m = c ∧ cap = none) → ∀ r', (if l < hh' ∨ l = 0 then some (AV.sl id (o + l * z) (hh' - l) cap') else some (.fz 0 [] cap')) = some r' →
            vr X w r' (.slice (some (if m = l then (⟨(X.β id).blk, (X.β id).base + o, none⟩ : Addr) else (⟨(X.β id).blk, (X.β id).base + o, none⟩ : Addr).add (l * z))) (hh' - l) (m - l)) := by
          intro m cap' b1 b2 b3 b4 b5 r' hr'
          split at hr'
          · rename_i hcond
            injection hr' with hr'; subst hr'
            have hadd : (if m = l then (⟨(X.β id).blk, (X.β id).base + o, none⟩ : Addr) else (⟨(X.β id).blk, (X.β id).base + o, none⟩ : Addr).add (l * z)) = ⟨(X.β id).blk, (X.β id).base + (o + l * z), none⟩ := by
              split
              · rename_i e
                have : l = 0 := by omega
                subst this; simp
              · rw [Addr.add_none, Nat.add_assoc]
            rw [hadd]
            simp only [vr, hbz]
            have e0 : l * z + (m - l) * z = m * z := by rw [← Nat.add_mul]; congr 1; omega
            have e1 : m * z ≤ c * z := Nat.mul_le_mul_right _ b3
            refine ⟨h1, _, rfl, by omega, b4, by omega, fun hn => ?_⟩
            obtain ⟨e2, e3⟩ := b5 hcond hn
            subst e2
            have := h6 e3
            omega
          · rename_i hcond
            injection hr' with hr'; subst hr'
            have hz : hh' - l = 0 := by omega
            rw [hz]
            simp only [vr]
            exact ⟨[], rfl, .inr ⟨_, _, rfl, .inl rfl, Nat.zero_le _, b4, .inl rfl⟩⟩
        cases mx with
        | none =>
          cases mv with
          | some v => simp [bndR] at hm
          | none =>
          simp only [e1, e2] at h
          split at h
          · rename_i hc
            have hcc : hh' ≤ c := by
              rcases hc.2 with hc2 | hc2
              · omega
              · cases cap with
                | some c' => rw [h4 c' rfl]; simpa [slHi] using hc2
                | none =>
                  simp only [slHi, Bool.and_eq_true, decide_eq_true_eq] at hc2
                  have := h6 rfl
                  obtain ⟨_, _, _, _, _, _, _, h7, _⟩ := hr.row id z cells hT
                  have h9 : hh' * z ≤ c * z := by omega
                  exact Nat.le_of_mul_le_mul_right h9 (by omega)
            have := sliceBounds_none (P := P) (w := w) (sl := true) (len := n) (cap := c) hl hh e1 e2 hc.1 hcc h3
            refine ⟨.slice (some (if c = l then (⟨(X.β id).blk, (X.β id).base + o, none⟩ : Addr) else (⟨(X.β id).blk, (X.β id).base + o, none⟩ : Addr).add (l * z))) (hh' - l) (c - l), ?_, ?_⟩
            · simp [Instr.sliceAt, Instr.slice, run_underlying ht, this, sizeOf, typeInfo, hi', hsz]
              split <;> rfl
            · by_cases hcond : l < hh' ∨ l = 0
              · rw [if_pos hcond] at h
                exact key c (cap.map (· - l)) hc.1 hcc (Nat.le_refl _) (capOk_sub h4) (fun _ hn => ⟨rfl, by cases cap with | none => rfl | some x => simp at hn⟩) r (by rw [if_pos hcond]; exact h)
              · rw [if_neg hcond] at h
                exact key c none hc.1 hcc (Nat.le_refl _) (fun k hk => by cases hk) (fun hcc => absurd hcc hcond) r (by rw [if_neg hcond]; exact h)
          · cases h
        | some mxv =>
          cases mv with
          | none => cases mxv <;> simp [bndR] at hm
          | some v =>
          cases mxv <;> simp only [bndR] at hm <;> first | (cases hm; done) | skip
          rename_i k j
          subst hm
          simp only [e1, e2] at h
          split at h
          · rename_i hc
            have hhi : hi ≠ none := by rintro rfl; simp at hc
            have := sliceBounds_some (P := P) (w := w) (sl := true) (len := n) (cap := c) (k := k) hl hh e1 e2 hhi hc.2.2.2.1 rfl hc.1 hc.2.1 (by omega)
            refine ⟨.slice (some (if j.toNat = l then (⟨(X.β id).blk, (X.β id).base + o, none⟩ : Addr) else (⟨(X.β id).blk, (X.β id).base + o, none⟩ : Addr).add (l * z))) (hh' - l) (j.toNat - l), ?_, ?_⟩
            · simp [Instr.sliceAt, Instr.slice, run_underlying ht, this, sizeOf, typeInfo, hi', hsz]
              split <;> rfl
            · exact key j.toNat (some (j.toNat - l)) hc.1 hc.2.1 (by omega) (fun k hk => by injection hk) (fun _ hn => by cases hn) r h
          · cases h
      · cases h
    · cases h

theorem slcStr_sound {lo hi : Option AV} {lv hv : Option Value} {x r : AV} {u : Value} {t : TypeId} (hx : vr X w x u) (hl : bndR lo lv) (hh : bndR hi hv)
    (ht : P.underlying t = some .string) (h : slcStr lo hi x = some r) : ∃ q, (Instr.sliceAt t u lv hv none).run P w = .ok q w ∧ vr X w r q := by
  cases x <;> simp only [slcStr] at h <;> first
    | (cases h; done)
    | skip
  rename_i b
  simp only [vr] at hx
  subst hx
  cases e1 : bnd 0 lo with
  | none => simp [e1] at h
  | some l =>
  cases e2 : bnd b.length hi with
  | none => simp [e1, e2] at h
  | some hh' =>
  simp only [e1, e2] at h
  split at h
  · rename_i hc
    injection h with h; subst h
    have := sliceBounds_none (P := P) (w := w) (sl := false) (len := b.length) (cap := b.length) hl hh e1 e2 hc.1 hc.2 (Nat.le_refl _)
    refine ⟨.string ⟨((b.drop l).take (hh' - l)).toArray⟩, ?_, by simp only [vr]⟩
    have hsz : (⟨b.toArray⟩ : ByteArray).size = b.length := by simp [ByteArray.size]
    simp [Instr.sliceAt, Instr.slice, run_underlying ht, hsz, this]
    apply ByteArray.ext
    rw [ByteArray.data_extract]
    apply Array.ext'
    simp
  · cases h

theorem idxStr_sound {x y r : AV} {u v : Value} {t : TypeId} (hx : vr X w x u) (hy : vr X w y v) (ht : P.underlying t = some .string) (h : idxStr y x = some r) :
    ∃ q, (Instr.index t u v).run P w = .ok q w ∧ vr X w r q := by
  cases x <;> simp only [idxStr] at h <;> first
    | (cases h; done)
    | skip
  rename_i b
  cases y <;> simp only at h <;> first
    | (cases h; done)
    | skip
  rename_i k j
  split at h
  · rename_i hj
    simp only [vr] at hx hy
    subst hx; subst hy
    cases hb : b[j.toNat]? with
    | none => simp [hb] at h
    | some c =>
      simp [hb] at h
      subst h
      have hlt : j.toNat < b.length := (List.getElem?_eq_some_iff.1 hb).1
      have hg : (⟨b.toArray⟩ : ByteArray)[j.toNat]? = some c := by
        rw [getElem?_pos (h := by simpa [ByteArray.size] using hlt)]
        have := (List.getElem?_eq_some_iff.1 hb).2
        simp [ByteArray.getElem_eq_getElem_data, this]
      exact ⟨.int .u8 c.toNat, by simp [Instr.index, asIntOf, run_underlying ht, hj, hg], by simp only [vr]⟩
  · cases h

theorem fld_sound {off : Nat} {sz : Option Nat} {x r : AV} {u : Value} {t : TypeId} {fs : Array Field} {f : Field} {k : Nat} (hx : vr X w x u) (ht : P.underlying t = some (.struct fs)) (hf : fs[k]? = some f) (ho : f.offset = off)
    (hl : LdT P f.type sz) (h : fldAv off sz x = some r) : ∃ q, (Instr.field t u k).run P w = .ok q w ∧ vr X w r q := by
  cases x <;> simp only [fldAv] at h <;> first
    | (cases h; done)
    | skip
  rename_i cells
  simp only [vr] at hx
  obtain ⟨us, h1, h2, rfl⟩ := hx
  subst ho
  have hl := hl w
  cases sz with
  | none =>
    simp only [ldCells] at h
    obtain ⟨v, hv, hr⟩ := h1.get (plainO_some h).1
    simp only at hl
    exact ⟨v, by simp [Instr.field, run_underlying ht, hf, asAgg, part, hl, hv], hr⟩
  | some n =>
    simp only [ldCells] at h
    split at h
    · rename_i hle
      injection h with h; subst h
      simp only at hl
      refine ⟨.agg ((us.drop f.offset).take n).toArray, ?_, ?_⟩
      · simp only [Instr.field, Sem.run_bind, run_underlying ht, Result.andThen_ok, hf, asAgg, Sem.run_pure, part, hl.1, if_true, hl.2]
        congr 2
        apply Array.ext'
        simp [List.take_drop]
      · simp only [vr]
        exact ⟨_, (h1.drop _).take n, fun u hu => h2 u (List.mem_of_mem_drop (List.mem_of_mem_take hu)), rfl⟩
    · cases h

theorem idx_sound {esz n : Nat} {sz : Option Nat} {x y r : AV} {u v : Value} {t e : TypeId} {i : TypeInfo} (hx : vr X w x u) (hy : vr X w y v) (ht : P.underlying t = some (.array n e)) (hi : P.info? e = some i) (hsz : i.size = esz)
    (hl : LdT P e sz) (h : idxAv esz sz n y x = some r) : ∃ q, (Instr.index t u v).run P w = .ok q w ∧ vr X w r q := by
  cases x <;> simp only [idxAv] at h <;> first
    | (cases h; done)
    | skip
  rename_i cells
  cases y <;> simp only at h <;> first | (cases h; done) | skip
  rename_i k j
  split at h
  · rename_i hj
    simp only [vr] at hx hy
    obtain ⟨us, h1, h2, rfl⟩ := hx
    subst hy
    subst hsz
    have hl := hl w
    cases sz with
    | none =>
      simp only [ldCells] at h
      obtain ⟨v, hv, hr⟩ := h1.get (plainO_some h).1
      simp only at hl
      exact ⟨v, by simp [Instr.index, asIntOf, run_underlying ht, hj, sizeOf, typeInfo, hi, part, hl, hv], hr⟩
    | some n =>
      simp only [ldCells] at h
      split at h
      · rename_i hle
        injection h with h; subst h
        simp only at hl
        have hrun : (part e us.toArray (j.toNat * i.size)).run P w = .ok (.agg ((us.drop (j.toNat * i.size)).take n).toArray) w := by
          simp only [part, Sem.run_bind, hl.1, Result.andThen_ok, if_true, hl.2, Sem.run_pure]
          congr 2
          apply Array.ext'
          simp [List.take_drop]
        refine ⟨.agg ((us.drop (j.toNat * i.size)).take n).toArray, ?_, ?_⟩
        · simp [Instr.index, asIntOf, run_underlying ht, hj, sizeOf, typeInfo, hi, hrun]
        · simp only [vr]
          exact ⟨_, (h1.drop _).take n, fun u hu => h2 u (List.mem_of_mem_drop (List.mem_of_mem_take hu)), rfl⟩
      · cases h
  · cases h

theorem cap_sound {x r : AV} {u : Value} {t e ty : TypeId} (hx : vr X w x u) (ht : P.underlying t = some (.slice e)) (h : capAv x = some r) : ∃ q, (Builtin.cap_ #[t] ty #[u]).run P w = .ok q w ∧ vr X w r q := by
  cases x <;> simp only [capAv] at h <;> first | (cases h; done) | skip
  · rename_i n cells cap
    cases cap with
    | none => cases h
    | some c =>
    injection h with h; subst h
    simp only [vr] at hx
    obtain ⟨us, _, hf⟩ := hx
    rcases hf with ⟨rfl, _, _, h4⟩ | ⟨a, c', rfl, _, _, h4, _⟩
    · have := h4 c rfl; subst this
      exact ⟨.int .i64 0, by simp [Builtin.cap_, run_underlying ht, goInt], rfl⟩
    · have := h4 c rfl; subst this
      exact ⟨.int .i64 c', by simp [Builtin.cap_, run_underlying ht, goInt], rfl⟩
  · rename_i id o n cap
    cases cap with
    | none => cases h
    | some c =>
    injection h with h; subst h
    simp only [vr] at hx
    obtain ⟨_, c', rfl, _, h4, _⟩ := hx
    have := h4 c rfl; subst this
    exact ⟨.int .i64 c', by simp [Builtin.cap_, run_underlying ht, goInt], rfl⟩

theorem ext_sound {i : Nat} {x r : AV} {u : Value} (hx : vr X w x u) (h : extAv i x = some r) : ∃ q, (Instr.extract u i).run P w = .ok q w ∧ vr X w r q := by
  cases x <;> simp only [extAv] at h <;> first
    | (cases h; done)
    | skip
  rename_i l
  simp only [vr] at hx
  obtain ⟨us, h1, rfl⟩ := hx
  obtain ⟨v, hv, hr⟩ := h1.get (plainO_some h).1
  exact ⟨v, by simp [Instr.extract, hv], hr⟩

end
end Go.Aw
