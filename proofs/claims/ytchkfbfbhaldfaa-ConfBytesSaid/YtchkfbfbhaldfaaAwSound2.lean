/-
  The program's operations do what is said of them: those that change nothing, on.
-/
import Derived.Test.YtchkfbfbhaldfaaAwSound
import Derived.Laws.Small
import Derived.Laws.Build
import Derived.Laws.BytesString
import Derived.Lib.ConvBytes
namespace Go.Aw
set_option linter.all false
open Go

section
variable {P : Program} {X0 : Cx} {T0 : Tab} {w0 : World} {X : Cx} {lam : Nat → Nat} {env : Env} {L : Loc} {T : Tab} {a : Act} {w w' : World}

/-- The value of one that an operation yields. -/
theorem run_v {s : Sem Value} {v : Value} (h : s.run P w = .ok v w') : (do pure (Next.value (← s)) : Sem Next).run P w = .ok (.value v) w' := by
  simp [h]

theorem setAll_sound : ∀ {xs : List AV} {vs : List Value}, vrs X w xs vs → ∀ {cells : List AV} {us : Array Value}, vrs X w cells us.toList → ∀ (o : Nat),
    vrs X w (setAll cells o xs) ((vs.zipIdx o).foldl (fun cs p => cs.setIfInBounds p.2 p.1) us).toList
  | [], vs, h, cells, us, hc, o => by simp [vrs] at h; subst h; simpa [setAll] using hc
  | x :: xs, vs, h, cells, us, hc, o => by
    simp only [vrs] at h
    obtain ⟨v, vs', rfl, h1, h2⟩ := h
    simp only [setAll, List.zipIdx_cons, List.foldl_cons]
    refine setAll_sound h2 (cells := cells.set o x) (us := us.setIfInBounds o v) ?_ (o + 1)
    rw [Array.toList_setIfInBounds]
    exact hc.set h1 o

theorem setAll_length : ∀ {xs cells : List AV} (o : Nat), (setAll cells o xs).length = cells.length
  | [], _, _ => rfl
  | x :: xs, cells, o => by simp [setAll, setAll_length]

theorem foldl_zip_shift (off : Nat) : ∀ (vs : List Value) (k : Nat) (us : Array Value),
    (vs.zipIdx k).foldl (fun cs p => cs.setIfInBounds (off + p.2) p.1) us = (vs.zipIdx (off + k)).foldl (fun cs p => cs.setIfInBounds p.2 p.1) us
  | [], _, _ => rfl
  | v :: vs, k, us => by
    simp only [List.zipIdx_cons, List.foldl_cons]
    rw [foldl_zip_shift off vs (k + 1)]; rfl

theorem oneCell_foldl : ∀ (vs : List Value) (k : Nat) (us : Array Value), (∀ u ∈ vs, u.oneCell' = true) → (∀ u ∈ us.toList, u.oneCell' = true) →
    ∀ u ∈ ((vs.zipIdx k).foldl (fun cs p => cs.setIfInBounds p.2 p.1) us).toList, u.oneCell' = true
  | [], _, _, _, h => h
  | v :: vs, k, us, h1, h => by
    simp only [List.zipIdx_cons, List.foldl_cons]
    refine oneCell_foldl vs (k + 1) _ (fun u hu => h1 u (List.mem_cons_of_mem _ hu)) fun u hu => ?_
    rw [Array.toList_setIfInBounds] at hu
    rcases List.mem_or_eq_of_mem_set hu with hu | rfl
    · exact h u hu
    · exact h1 _ (List.mem_cons_self ..)

theorem partsT_sound (h : SR X0 T0 w0 X lam env L T a w) {place : Nat → Option (Nat × Nat)} : ∀ {ps : List (Nat × Operand)} {qs : List (Nat × Nat × Operand)}, partsT place ps = some qs →
    ∀ {cells r : List AV} {us : Array Value}, vrs X w cells us.toList → (∀ u ∈ us.toList, u.oneCell' = true) → bldAv env cells qs = some r →
    ∃ vs, Instr.fill place us (ps.map fun (i, x) => (i, a.eval x)) = some vs ∧ vrs X w r vs.toList ∧ (∀ u ∈ vs.toList, u.oneCell' = true)
  | [], qs, hp, cells, r, us, hc, h1, hb => by
    simp only [partsT] at hp; injection hp with hp; subst hp
    simp only [bldAv] at hb; injection hb with hb; subst hb
    exact ⟨us, rfl, hc, h1⟩
  | (i, x) :: ps, qs, hp, cells, r, us, hc, h1, hb => by
    simp only [partsT] at hp
    cases hpl : place i with
    | none => simp [hpl] at hp
    | some q =>
    obtain ⟨off, sz⟩ := q
    cases hr : partsT place ps with
    | none => simp [hpl, hr] at hp
    | some l =>
    simp only [hpl, hr] at hp
    injection hp with hp; subst hp
    simp only [bldAv] at hb
    cases hx : opdV env x with
    | none => simp [hx] at hb
    | some y =>
    simp only [hx] at hb
    split at hb
    · rename_i hcnd
      obtain ⟨c1, c2, c3⟩ := hcnd
      have hv := opdV_sound h hx
      obtain ⟨s1, s2, s3⟩ := sto_cells hv c1
      have hcl := hc.length
      have e1 : ((a.eval x).cells.zipIdx.foldl (fun cs (c, j) => cs.setIfInBounds (off + j) c) us) = ((a.eval x).cells.toList.zipIdx off).foldl (fun cs p => cs.setIfInBounds p.2 p.1) us := by
        rw [← Array.foldl_toList, Array.toList_zipIdx]
        have := foldl_zip_shift off (a.eval x).cells.toList 0 us
        simpa using this
      obtain ⟨vs, f1, f2, f3⟩ := partsT_sound h hr (us := ((a.eval x).cells.toList.zipIdx off).foldl (fun cs p => cs.setIfInBounds p.2 p.1) us) (setAll_sound s1 hc off) (oneCell_foldl _ _ _ s2 h1) hb
      refine ⟨vs, ?_, f2, f3⟩
      simp only [List.map_cons, Instr.fill, hpl]
      rw [if_neg, e1]
      · exact f1
      · simp only [Bool.or_eq_true, decide_eq_true_eq, not_or, ne_eq, Decidable.not_not]
        rw [s3]
        have : cells.length = us.size := by rw [← hcl]; simp
        omega
    · cases hb

theorem bytes_loop {us : List Value} : ∀ {xs : List AV} {l : List UInt8}, vrs X w xs us → bytesAv xs = some l → ∃ ns : List Int, us = ns.map (Value.int .u8) ∧ ns.map (fun n => UInt8.ofNat n.toNat) = l := by
  induction us with
  | nil =>
    intro xs l h hb
    cases xs with
    | nil => simp only [bytesAv] at hb; injection hb with hb; subst hb; exact ⟨[], rfl, rfl⟩
    | cons x xs => simp only [vrs] at h; obtain ⟨u, us', h0, _⟩ := h; cases h0
  | cons u us ih =>
    intro xs l h hb
    cases xs with
    | nil => simp [vrs] at h
    | cons x xs =>
      simp only [vrs] at h
      obtain ⟨u', us', h0, h1, h2⟩ := h
      injection h0 with e1 e2; subst e1; subst e2
      simp only [bytesAv] at hb
      cases hx : byteAv x with
      | none => simp [hx] at hb
      | some b =>
      cases hr : bytesAv xs with
      | none => simp [hx, hr] at hb
      | some r =>
      simp only [hx, hr] at hb
      injection hb with hb; subst hb
      obtain ⟨ns, e1, e2⟩ := ih h2 hr
      unfold byteAv at hx
      split at hx
      · rename_i n
        injection hx with hx; subst hx
        simp only [vr] at h1
        subst h1
        exact ⟨n :: ns, by simp [e1], by simp [e2]⟩
      · cases hx

theorem b2s_sound (hr : Rel X T L lam w) {x : AV} {u : Value} {cells : List AV} {l : List UInt8} (hx : vr X w x u) (hc : slCells T 1 x = some cells) (hs : ∀ l, x ≠ .s l) (hb : bytesAv cells = some l) :
    (Conv.bytesToString u).run P w = .ok (.string ⟨l.toArray⟩) w := by
  obtain ⟨us, h1, h2, h3, h4, h5⟩ := firstCells_sound (P := P) (w' := w) hr hx hc rfl
  obtain ⟨ns, e1, e2⟩ := bytes_loop h1 hb
  have hu : u = .slice none 0 0 ∧ us = [] ∨ ∃ ad c, u = .slice (some ad) (slLen x) c := by
    cases x <;> simp only [slCells] at hc <;> first | (cases hc; done) | skip
    · exact absurd rfl (hs _)
    · simp only [vr] at hx
      obtain ⟨us', k1, k2⟩ := hx
      rcases k2 with ⟨rfl, rfl, rfl, _⟩ | ⟨ad, c, rfl, _⟩
      · left; exact ⟨rfl, List.eq_nil_of_length_eq_zero (by rw [h3]; rfl)⟩
      · right; exact ⟨ad, c, rfl⟩
    · simp only [vr] at hx
      obtain ⟨_, c, rfl, _⟩ := hx
      right; exact ⟨_, c, rfl⟩
  rcases hu with ⟨rfl, rfl⟩ | ⟨ad, c, rfl⟩
  · have : ns = [] := by cases ns <;> simp at e1 ⊢
    subst this
    simp at e2
    subst e2
    simp [Conv.bytesToString]
    rfl
  · have hl : (loadCells ad (slLen x)).run P w = .ok (ns.map (Value.int .u8)).toArray w := by
      simpa [Builtin.firstCells, ← e1] using h4
    rw [run_bytesToString w ad (slLen x) c ns hl, foldl_push_bytes]
    congr 2
    apply ByteArray.ext
    simp [← e2]

theorem eq_unf (t : TypeId) (x y : Value) : Op.equal t x y = Op.equalIn (9999 + 1) t x y := rfl

theorem eqIn_ptr1 (d : Nat) {t e : TypeId} (ht : P.underlying t = some (.pointer e)) (q : Option Addr) : (Op.equalIn (d + 1) t (.pointer none) (.pointer q)).run P w = .ok q.isNone w := by
  simp only [Op.equalIn, Sem.run_bind, run_underlying ht, Result.andThen_ok, Sem.run_pure]
theorem eqIn_ptr2 (d : Nat) {t e : TypeId} (ht : P.underlying t = some (.pointer e)) (q : Addr) : (Op.equalIn (d + 1) t (.pointer (some q)) (.pointer none)).run P w = .ok false w := by
  simp only [Op.equalIn, Sem.run_bind, run_underlying ht, Result.andThen_ok, Sem.run_pure]
theorem eqIn_ifc0 (d : Nat) {t : TypeId} {ms : Array (String × TypeId)} (ht : P.underlying t = some (.interface ms)) : (Op.equalIn (d + 1) t .nilIface .nilIface).run P w = .ok true w := by
  simp only [Op.equalIn, Sem.run_bind, run_underlying ht, Result.andThen_ok, Sem.run_pure]
theorem eqIn_ifc1 (d : Nat) {t : TypeId} {ms : Array (String × TypeId)} (ht : P.underlying t = some (.interface ms)) (k : TypeId) (v : Value) : (Op.equalIn (d + 1) t .nilIface (.iface k v)).run P w = .ok false w := by
  simp only [Op.equalIn, Sem.run_bind, run_underlying ht, Result.andThen_ok, Sem.run_pure]
theorem eqIn_ifc2 (d : Nat) {t : TypeId} {ms : Array (String × TypeId)} (ht : P.underlying t = some (.interface ms)) (k : TypeId) (v : Value) : (Op.equalIn (d + 1) t (.iface k v) .nilIface).run P w = .ok false w := by
  simp only [Op.equalIn, Sem.run_bind, run_underlying ht, Result.andThen_ok, Sem.run_pure]

theorem eq_ptr1 {t e : TypeId} (ht : P.underlying t = some (.pointer e)) (q : Option Addr) : (Op.equal t (.pointer none) (.pointer q)).run P w = .ok q.isNone w := by
  rw [eq_unf]; exact eqIn_ptr1 9999 ht q
theorem eq_ptr2 {t e : TypeId} (ht : P.underlying t = some (.pointer e)) (q : Addr) : (Op.equal t (.pointer (some q)) (.pointer none)).run P w = .ok false w := by
  rw [eq_unf]; exact eqIn_ptr2 9999 ht q
theorem eq_ifc0 {t : TypeId} {ms : Array (String × TypeId)} (ht : P.underlying t = some (.interface ms)) : (Op.equal t .nilIface .nilIface).run P w = .ok true w := by
  rw [eq_unf]; exact eqIn_ifc0 9999 ht
theorem eq_ifc1 {t : TypeId} {ms : Array (String × TypeId)} (ht : P.underlying t = some (.interface ms)) (k : TypeId) (v : Value) : (Op.equal t .nilIface (.iface k v)).run P w = .ok false w := by
  rw [eq_unf]; exact eqIn_ifc1 9999 ht k v
theorem eq_ifc2 {t : TypeId} {ms : Array (String × TypeId)} (ht : P.underlying t = some (.interface ms)) (k : TypeId) (v : Value) : (Op.equal t (.iface k v) .nilIface).run P w = .ok false w := by
  rw [eq_unf]; exact eqIn_ifc2 9999 ht k v

theorem eqGuard_const {op : BinOp} {t : TypeId} {e1 e2 : Operand} (hc : (isConst e1 || isConst e2) = true) (ho : op = .eql ∨ op = .neq) : (eqGuard op t e1 e2 .nilIface .nilIface).run P w = .ok () w := by
  rcases ho with rfl | rfl <;> cases e1 <;> cases e2 <;> first
    | (simp [isConst] at hc; done)
    | rfl

theorem eqAv_sound {k : EqK} {op : BinOp} {neg : Bool} {t : TypeId} {x y : AV} {u v : Value} {r : Bool} {e1 e2 : Operand} (hx : vr X w x u) (hy : vr X w y v) (h : eqAv k x y = some r)
    (ho : (op = .eql ∧ neg = false) ∨ (op = .neq ∧ neg = true))
    (ht : match k with
      | .bool => P.underlying t = some .bool
      | .ptr => ∃ e, P.underlying t = some (.pointer e)
      | .ifc => (∃ ms, P.underlying t = some (.interface ms)) ∧ (isConst e1 || isConst e2) = true
      | .agg ks => (∃ fs, P.underlying t = some (.struct fs)) ∧ P.eqGuardType P.depth t = false ∧ flatK P 20 t = some ks) :
    ((do eqGuard op t e1 e2 u v; binOp op t u v) : Sem Value).run P w = .ok (.bool (if neg then !r else r)) w := by
  have fin : (eqGuard op t e1 e2 u v).run P w = .ok () w → (∀ k n, u ≠ .int k n) → (∀ s, u ≠ .string s) → (∀ k b, u ≠ .float k b) → (∀ k b c, u ≠ .complex k b c) → (Op.equal t u v).run P w = .ok r w →
      ((do eqGuard op t e1 e2 u v; binOp op t u v) : Sem Value).run P w = .ok (.bool (if neg then !r else r)) w := by
    intro hg h1 h2 h3 h4 he
    rcases ho with ⟨rfl, rfl⟩ | ⟨rfl, rfl⟩ <;>
    · simp only [Sem.run_bind, hg, Result.andThen_ok]
      cases u <;> first
        | (exact absurd rfl (h1 _ _))
        | (exact absurd rfl (h2 _))
        | (exact absurd rfl (h3 _ _))
        | (exact absurd rfl (h4 _ _ _))
        | (simp [binOp, he]; done)
  cases k with
  | bool =>
    cases x <;> cases y <;> simp only [eqAv] at h <;> first | (cases h; done) | skip
    rename_i p q
    injection h with h; subst h
    simp only [vr] at hx hy
    subst hx; subst hy
    simp only at ht
    refine fin (by unfold eqGuard; split <;> rfl) (by simp) (by simp) (by simp) (by simp) ?_
    rw [eq_unf, run_equalIn_bool' w 9999 t p q ht]
    cases p <;> cases q <;> rfl
  | ptr =>
    obtain ⟨e, ht⟩ := ht
    have gd : ∀ p q, (eqGuard op t e1 e2 (.pointer p) (.pointer q)).run P w = .ok () w := fun p q => by unfold eqGuard; split <;> rfl
    cases x <;> cases y <;> simp only [eqAv] at h <;> first | (cases h; done) | skip
    all_goals
      injection h with h; subst h
      simp only [vr] at hx hy
    · subst hx; subst hy
      exact fin (gd _ _) (by simp) (by simp) (by simp) (by simp) (eq_ptr1 ht _)
    · subst hx; obtain ⟨_, rfl⟩ := hy
      exact fin (gd _ _) (by simp) (by simp) (by simp) (by simp) (eq_ptr1 ht _)
    · subst hx; obtain ⟨us, ad, _, rfl, _⟩ := hy
      exact fin (gd _ _) (by simp) (by simp) (by simp) (by simp) (eq_ptr1 ht _)
    · subst hy; obtain ⟨_, rfl⟩ := hx
      exact fin (gd _ _) (by simp) (by simp) (by simp) (by simp) (eq_ptr2 ht _)
    · subst hy; obtain ⟨us, ad, _, rfl, _⟩ := hx
      exact fin (gd _ _) (by simp) (by simp) (by simp) (by simp) (eq_ptr2 ht _)
  | ifc =>
    obtain ⟨⟨ms, ht⟩, hc⟩ := ht
    cases x <;> cases y <;> simp only [eqAv] at h <;> first | (cases h; done) | skip
    all_goals
      injection h with h; subst h
      simp only [vr] at hx hy
    · obtain ⟨q, _, rfl⟩ := hx; subst hy
      exact fin (by unfold eqGuard; split <;> rfl) (by simp) (by simp) (by simp) (by simp) (eq_ifc2 ht _ _)
    · subst hx; obtain ⟨q, _, rfl⟩ := hy
      exact fin (by unfold eqGuard; split <;> rfl) (by simp) (by simp) (by simp) (by simp) (eq_ifc1 ht _ _)
    · subst hx; subst hy
      refine fin ?_ (by simp) (by simp) (by simp) (by simp) (eq_ifc0 ht)
      exact eqGuard_const hc (by rcases ho with ⟨rfl, _⟩ | ⟨rfl, _⟩ <;> simp)
  | agg ks =>
    obtain ⟨⟨fs, ht⟩, hg, hf⟩ := ht
    cases x <;> cases y <;> simp only [eqAv] at h <;> first | (cases h; done) | skip
    simp only [vr] at hx hy
    obtain ⟨us, h1, h2, rfl⟩ := hx
    obtain ⟨vs, h3, h4, rfl⟩ := hy
    refine fin (run_eqGuard_agg w op t e1 e2 _ _ hg) (by simp) (by simp) (by simp) (by simp) ?_
    have := flatK_eq 20 hf h1 h3 h 9980
    simp only [valOf, ht] at this
    exact this

end
end Go.Aw
