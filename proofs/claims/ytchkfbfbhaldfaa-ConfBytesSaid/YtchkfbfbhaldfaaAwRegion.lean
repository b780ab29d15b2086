/-
  A region of operations: in the order of the text, or in any that its edges allow.
-/
import Derived.Test.YtchkfbfbhaldfaaAwSwap
namespace Go.Aw
set_option linter.all false
open Go

/-- An operation of a region, and what is said of it. -/
structure OkOp (P : Program) (H : Hint) (n : Nat) (ops : Array Oper) (o : Oper) (s : SOp) : Prop where
  op : trOp P H o = some s.op
  dst : s.dst = o.dst
  lt : ∀ k, o.dst = some k → k < n
  gd : match o.guard with
    | none => s.gd = none
    | some (j, want) => ∃ k, (ops[j]?).bind (·.dst) = some k ∧ s.gd = some (k, want)

section
variable {P : Program} {H : Hint} {X0 : Cx} {T0 : Tab} {w0 : World} {X : Cx} {lam : Nat → Nat} {env : Env} {L : Loc} {T : Tab} {a : Act} {w : World} {ops : Array Oper} {Q : Exit → Act → World → Prop}

theorem gstep_none (s : SOp) (h : s.gd = none) (K : Env → Loc → Tab → Prop) (e : Env) (L : Loc) (T : Tab) : gstep P s K e L T = ostep P s.op s.dst s.rc K e L T := by
  unfold gstep ostep
  rw [h]
  cases hk : s.op.kind <;> simp only [gvev, gdd]

theorem gstep_some (s : SOp) {k : Nat} {want : Bool} (h : s.gd = some (k, want)) (K : Env → Loc → Tab → Prop) (e : Env) (L : Loc) (T : Tab) (H : gstep P s K e L T) :
    (aget e k = some (.b want) ∧ ostep P s.op s.dst s.rc K e L T) ∨ ((∃ x, aget e k = some x ∧ (x = .b (!want) ∨ x = .tup [])) ∧ K (eset e s.dst (.tup [])) L T) := by
  unfold gstep at H
  rw [h] at H
  have fin : ∀ {α : Type} {y nn z : α} (r : α), gdd e (some (k, want)) y nn z = r → (aget e k = some (.b want) ∧ r = y) ∨ ((∃ x, aget e k = some x ∧ (x = .b (!want) ∨ x = .tup [])) ∧ r = nn) ∨ r = z := by
    intro α y nn z r hr
    subst hr
    simp only [gdd]
    split
    · rename_i x hx
      split
      · rename_i hw; subst hw; exact .inl ⟨hx, rfl⟩
      · rename_i hw
        refine .inr (.inl ⟨⟨_, hx, .inl ?_⟩, rfl⟩)
        cases x <;> cases want <;> simp_all
    · rename_i hx; exact .inr (.inl ⟨⟨_, hx, .inr rfl⟩, rfl⟩)
    · exact .inr (.inr rfl)
  unfold ostep
  cases hk : s.op.kind with
  | val =>
    simp only [hk, gvev] at H
    rcases fin _ (rfl : gdd e (some (k, want)) (vev s.op e L T) (some (.tup [])) none = _) with ⟨h1, h2⟩ | ⟨h1, h2⟩ | h2
    · rw [h2] at H; exact .inl ⟨h1, H⟩
    · rw [h2] at H; exact .inr ⟨h1, H⟩
    · rw [h2] at H; exact H.elim
  | leff =>
    simp only [hk] at H
    rcases fin _ (rfl : gdd e (some (k, want)) (lev s.op s.dst e L) (some (eset e s.dst (.tup []), L)) none = _) with ⟨h1, h2⟩ | ⟨h1, h2⟩ | h2
    · rw [h2] at H; exact .inl ⟨h1, H⟩
    · rw [h2] at H; exact .inr ⟨h1, H⟩
    · rw [h2] at H; exact H.elim
  | teff =>
    simp only [hk] at H
    rcases fin _ (rfl : gdd e (some (k, want)) _ _ False = _) with ⟨h1, h2⟩ | ⟨h1, h2⟩ | h2
    · rw [h2] at H; exact .inl ⟨h1, H⟩
    · rw [h2] at H; exact .inr ⟨h1, H.2⟩
    · rw [h2] at H; exact H.elim
  | snil =>
    simp only [hk] at H
    rcases fin _ (rfl : gdd e (some (k, want)) _ _ False = _) with ⟨h1, h2⟩ | ⟨h1, h2⟩ | h2
    · rw [h2] at H
      refine .inl ⟨h1, ?_⟩
      unfold ostep at H
      rw [hk] at H
      exact H
    · rw [h2] at H; exact .inr ⟨h1, H⟩
    · rw [h2] at H; exact H.elim

theorem gstep_sound {n : Nat} {i : Nat} {o : Oper} {s : SOp} (hi : ops[i]? = some o) (ho : OkOp P H n ops o s) (h : SR X0 T0 w0 X lam env L T a w) (hn : a.tmps.size = n) {K : Env → Loc → Tab → Prop} (hk : gstep P s K env L T) :
    wpOp P ops Q i (Nx X0 T0 w0 n K) a w := by
  subst hn
  unfold wpOp
  simp only [hi]
  have hgd := ho.gd
  cases hg : o.guard with
  | none =>
    rw [hg] at hgd
    rw [gstep_none s hgd, ho.dst] at hk
    have hw : Region.wanted o (yielded ops a.tmps) = true := by simp [Region.wanted, hg]
    rw [if_pos hw]
    exact .inl (ostep_sound h ho.op ho.lt hk)
  | some q =>
    obtain ⟨j, want⟩ := q
    rw [hg] at hgd
    obtain ⟨k, hj, hgd⟩ := hgd
    have hy : ∀ x, aget env k = some x → ∃ v, a.tmps[k]? = some v ∧ evr X lam w x v := fun x hx => h.env k x hx
    rcases gstep_some s hgd K env L T hk with ⟨h1, h2⟩ | ⟨⟨x, h1, h2⟩, h3⟩
    · obtain ⟨v, hv, hr⟩ := hy _ h1
      simp only [evr, vr] at hr
      subst hr
      have hw : Region.wanted o (yielded ops a.tmps) = true := by simp [Region.wanted, hg, yielded, hj, hv]
      rw [if_pos hw]
      rw [ho.dst] at h2
      exact .inl (ostep_sound h ho.op ho.lt h2)
    · obtain ⟨v, hv, hr⟩ := hy _ h1
      have hw : Region.wanted o (yielded ops a.tmps) = false := by
        rcases h2 with rfl | rfl
        · simp only [evr, vr] at hr
          subst hr
          cases want <;> simp [Region.wanted, hg, yielded, hj, hv]
        · simp only [evr, vr, vrs] at hr
          obtain ⟨us, rfl, rfl⟩ := hr
          simp [Region.wanted, hg, yielded, hj, hv]
      rw [if_neg (by rw [hw]; decide)]
      rw [ho.dst] at h3
      exact Nx.undef h ho.lt h3

/-- What is asked behind a region. -/
def Behind (X0 : Cx) (T0 : Tab) (w0 : World) (n : Nat) (K : Env → Loc → Tab → Prop) (Q : Exit → Act → World → Prop) : Prop := ∀ a w, Nx X0 T0 w0 n K a w → Q .normal a w

def OkL (P : Program) (H : Hint) (n : Nat) (ops : Array Oper) : List Nat → List SOp → Prop
  | [], [] => True
  | i :: is, s :: ss => (∃ o, ops[i]? = some o ∧ OkOp P H n ops o s) ∧ OkL P H n ops is ss
  | _, _ => False

theorem ops_text {n : Nat} {K : Env → Loc → Tab → Prop} (hQ : Behind X0 T0 w0 n K Q) : ∀ (is : List Nat) (ss : List SOp), OkL P H n ops is ss →
    ∀ {a w}, Nx X0 T0 w0 n (opsG P ss K) a w → wpOps P ops Q is a w
  | [], [], _, a, w, h => hQ a w h
  | [], _ :: _, hf, _, _, _ => hf.elim
  | _ :: _, [], hf, _, _, _ => hf.elim
  | i :: is, s :: ss, ⟨⟨o, hi, ho⟩, hf⟩, a, w, ⟨X, lam, env, L, T, hk, hsr, hn⟩ => by
    rw [wpOps_cons]
    exact wpOp_mono (fun a w h => ops_text hQ is ss hf h) (gstep_sound hi ho hsr hn hk)

theorem apartB_ (y x : SOp) : (notIn y.dst x.looks && notIn x.dst y.looks && (y.dst != x.dst || y.dst.isNone)) = true → Apart y x := by
  intro h
  simp only [Bool.and_eq_true, Bool.or_eq_true, bne_iff_ne, ne_eq, Option.isNone_iff_eq_none] at h
  exact ⟨notIn_spec h.1.1, notIn_spec h.1.2, h.2⟩

def swapsB (y x : SOp) (rc : RC) : Bool :=
  match y.op.kind, x.op.kind with
  | .val, .val => true
  | .val, .leff => x.lw.isNone || y.op.lpd != x.lw
  | .leff, .val => y.lw.isNone || x.op.lpd != y.lw
  | .val, .teff => !y.op.readsT || rc.any (fun p => some p.1 == y.dst)
  | .leff, .teff => true
  | .leff, .leff => (match y.op, x.op with | .lalloc _, .lalloc _ => true | _, _ => false) && y.gd.isNone && x.gd.isNone && y.dst.isSome
  | _, _ => false

def swapB (y x : SOp) (rc : RC) : Bool :=
  notIn y.dst x.looks && notIn x.dst y.looks && (y.dst != x.dst || y.dst.isNone) && notIn y.dst y.looks && swapsB y x rc

/-- All that is to be asked for again is of these operations. -/
def RcFrom (C : List SOp) (rc : RC) : Prop := ∀ p ∈ rc, ∃ z ∈ C, z.dst = some p.1 ∧ p.2 = (z.op, z.gd)

theorem swapB_spec {C : List SOp} {y x : SOp} {rc : RC} (h : swapB y x rc = true) (hx : x.rc = rc) (hC : RcFrom C rc) (hd : ∀ z ∈ C, z.dst ≠ none → z.dst = y.dst → z.op = y.op ∧ z.gd = y.gd) :
    Apart y x ∧ (∀ k, y.dst = some k → k ∉ y.looks) ∧ Swaps y x := by
  unfold swapB at h
  simp only [Bool.and_eq_true] at h
  obtain ⟨⟨h1, h2⟩, h3⟩ := h
  refine ⟨apartB_ y x (by simpa only [Bool.and_eq_true] using h1), notIn_spec h2, ?_⟩
  unfold swapsB at h3
  split at h3
  · rename_i k1 k2; exact .vv k1 k2
  · rename_i k1 k2
    refine .vl k1 k2 fun l hl e => ?_
    simp [hl, e] at h3
  · rename_i k1 k2
    refine .lv k1 k2 fun l hl e => ?_
    simp [hl, e] at h3
  · rename_i k1 k2
    refine .vt k1 k2 ?_
    simp only [Bool.or_eq_true, Bool.not_eq_true'] at h3
    rcases h3 with h3 | h3
    · exact .inl h3
    · right
      obtain ⟨p, hp, hpd⟩ := List.any_eq_true.1 h3
      have hpd : some p.1 = y.dst := by simpa using hpd
      obtain ⟨z, hz, hz1, hz2⟩ := hC p hp
      obtain ⟨e1, e2⟩ := hd z hz (by rw [hz1]; simp) (by rw [hz1, hpd])
      refine ⟨p.1, hpd.symm, ?_⟩
      rw [← e1, ← e2, hx]
      have : (p.1, z.op, z.gd) = p := by rw [← hz2]
      rw [this]; exact hp
  · rename_i k1 k2; exact .lt k1 k2
  · simp only [Bool.and_eq_true] at h3
    obtain ⟨⟨⟨h4, h5⟩, h6⟩, h7⟩ := h3
    split at h4
    · rename_i zy zx e1 e2
      exact .ll zy zx e1 e2 (by simpa using h5) (by simpa using h6) (by intro e; simp [e] at h7)
    · cases h4
  · cases h3

/-- May an operation go ahead of these, which are listed ahead of it? What is then still asked for again. -/
def mvRc (x : SOp) : List SOp → RC → Option RC
  | [], rc => some rc
  | y :: pre, rc => match mvRc x pre rc with
    | some r => if swapB y x r then some (nextRc y r) else none
    | none => none

theorem nextRc_sub {y : SOp} {r r' : RC} (h : ∀ p ∈ r, p ∈ r') : ∀ p ∈ nextRc y r, p ∈ nextRc y r' := by
  intro p hp
  unfold nextRc at hp ⊢
  split
  · rename_i hk; rw [if_pos hk] at hp; exact hp
  · rename_i hk
    rw [if_neg hk] at hp
    rw [rcKeep, List.mem_filter] at hp ⊢
    exact ⟨h p hp.1, hp.2⟩

theorem swapB_mono {y x : SOp} {r r' : RC} (h : ∀ p ∈ r, p ∈ r') (hs : swapB y x r = true) : swapB y x r' = true := by
  unfold swapB at hs ⊢
  simp only [Bool.and_eq_true] at hs ⊢
  refine ⟨hs.1, ?_⟩
  have h3 := hs.2
  cases hy : y.op.kind <;> cases hx : x.op.kind <;> simp only [swapsB, hy, hx] at h3 ⊢ <;> first
    | exact h3
    | skip
  simp only [Bool.or_eq_true] at h3 ⊢
  rcases h3 with h3 | h3
  · exact .inl h3
  · obtain ⟨p, hp, hpd⟩ := List.any_eq_true.1 h3
    exact .inr (List.any_eq_true.2 ⟨p, h p hp, hpd⟩)

theorem mvRc_sublist {x : SOp} {rc : RC} : ∀ {l l' : List SOp}, l'.Sublist l → ∀ {r}, mvRc x l rc = some r → ∃ r', mvRc x l' rc = some r' ∧ ∀ p ∈ r, p ∈ r'
  | _, _, .slnil, r, h => ⟨r, h, fun _ hp => hp⟩
  | y :: l, l', .cons _ hs, r, h => by
    simp only [mvRc] at h
    split at h
    · rename_i r1 h1
      split at h
      · injection h with h; subst h
        obtain ⟨r', h2, h3⟩ := mvRc_sublist hs h1
        refine ⟨r', h2, fun p hp => h3 p ?_⟩
        unfold nextRc at hp
        split at hp
        · cases hp
        · exact (List.mem_filter.1 hp).1
      · cases h
    · cases h
  | y :: l, _, .cons_cons _ hs, r, h => by
    simp only [mvRc] at h
    split at h
    · rename_i r1 h1
      split at h
      · rename_i hsw
        injection h with h; subst h
        obtain ⟨r', h2, h3⟩ := mvRc_sublist hs h1
        refine ⟨nextRc y r', ?_, nextRc_sub h3⟩
        simp only [mvRc, h2, swapB_mono h3 hsw, if_true]
      · cases h
    · cases h

/-- An operation goes ahead. -/
theorem move_front {C : List SOp} {x : SOp} {K : Env → Loc → Tab → Prop} (hK : ExtK K) (post : List SOp) (hC : RcFrom C x.rc) : ∀ (pre : List SOp), (∀ y ∈ pre, y ∈ C) →
    (∀ y ∈ C, ∀ z ∈ C, z.dst ≠ none → z.dst = y.dst → z.op = y.op ∧ z.gd = y.gd) → ∀ {r}, mvRc x pre x.rc = some r →
    (∀ p ∈ r, p ∈ x.rc) ∧ ∀ {env L T}, opsG P (pre ++ x :: post) K env L T → gstep P { x with rc := r } (opsG P (pre ++ post) K) env L T
  | [], _, _, r, h => by
    simp only [mvRc] at h; injection h with h; subst h
    exact ⟨fun _ hp => hp, fun H => H⟩
  | y :: pre, hm, hd, r, h => by
    simp only [mvRc] at h
    split at h
    · rename_i r1 h1
      split at h
      · rename_i hsw
        injection h with h; subst h
        obtain ⟨hsub, hih⟩ := move_front hK post hC pre (fun z hz => hm z (List.mem_cons_of_mem _ hz)) hd h1
        refine ⟨fun p hp => ?_, fun H => ?_⟩
        · unfold nextRc at hp
          split at hp
          · cases hp
          · exact hsub p (List.mem_filter.1 hp).1
        · have hy := hm y (List.mem_cons_self ..)
          have hs2 : swapB y { x with rc := r1 } r1 = true := hsw
          obtain ⟨s1, s2, s3⟩ := swapB_spec (C := C) (y := y) (x := { x with rc := r1 }) hs2 rfl (fun p hp => hC p (hsub p hp)) (fun z hz => hd y hy z hz)
          have H2 : gstep P y (gstep P { x with rc := r1 } (opsG P (pre ++ post) K)) _ _ _ :=
            gstep_mono (fun _ => rfl) (fun _ => rfl) (fun e e' L L' T he hl hk => opsG_ext_step hK (pre ++ post) he hl (hih hk)) H
          exact swap s1 s2 s3 (opsG_ext hK _) H2
      · cases h
    · cases h
where
  opsG_ext_step {x : SOp} {K : Env → Loc → Tab → Prop} (hK : ExtK K) (l : List SOp) {e e' : Env} {L L' : Loc} {T : Tab} (he : EqE e e') (hl : EqL L L') (h : gstep P x (opsG P l K) e L T) : gstep P x (opsG P l K) e' L' T :=
    gstep_mono he hl (fun _ _ _ _ _ h1 h2 h3 => opsG_ext hK l _ _ _ _ _ h1 h2 h3) h

end
end Go.Aw
