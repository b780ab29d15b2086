/-
  A function's text, and what it does.
-/
import Derived.Test.YtchkfbfbhaldfaaAwDraw
namespace Go.Aw
set_option linter.all false
open Go

inductive SC where
  | skip
  | ops (l : List SOp)
  | seq (a b : SC)
  | cond (c : Operand) (a b : SC)
  | block (id : Nat) (b : SC)
  | loop (b : SC)
  | exit (id : Nat)
  | ret
  | keep (ts ls : List Nat)
  deriving Inhabited

def keepL {α : Type} : List Nat → List (Nat × α) → List (Nat × α)
  | [], _ => []
  | t :: ts, e => match aget e t with
    | some x => (t, x) :: keepL ts e
    | none => keepL ts e

theorem keepL_eq {α : Type} {e e' : List (Nat × α)} (h : ∀ s, aget e s = aget e' s) : ∀ ts, keepL ts e = keepL ts e'
  | [] => rfl
  | t :: ts => by simp only [keepL, h t, keepL_eq h ts]

theorem aget_keepL {α : Type} {e : List (Nat × α)} {s : Nat} {x : α} : ∀ {ts : List Nat}, aget (keepL ts e) s = some x → aget e s = some x
  | [], h => by simp [keepL, aget] at h
  | t :: ts, h => by
    simp only [keepL] at h
    split at h
    · rename_i y hy
      simp only [aget] at h
      split at h
      · rename_i e1; subst e1; injection h with h; subst h; exact hy
      · exact aget_keepL h
    · exact aget_keepL h

inductive XE where
  | normal
  | exit (id : Nat)
  | ret
  deriving DecidableEq

abbrev RPost := XE → Env → Loc → Tab → Prop

def thenR (K : Env → Loc → Tab → Prop) (R : RPost) : RPost
  | .normal => K
  | .exit id => R (.exit id)
  | .ret => R .ret

def blkR (id : Nat) (R : RPost) : RPost
  | .normal => R .normal
  | .exit id' => if id' = id then R .normal else R (.exit id')
  | .ret => R .ret

def AW (P : Program) : SC → RPost → Env → Loc → Tab → Prop
  | .skip, R => R .normal
  | .ops l, R => opsG P l (R .normal)
  | .seq a b, R => AW P a (thenR (AW P b R) R)
  | .cond c a b, R => fun e L T => match opdV e c with
    | some (.b x) => if x = true then AW P a R e L T else AW P b R e L T
    | _ => False
  | .block id c, R => AW P c (blkR id R)
  | .loop c, R => fun e L T => ∀ I : Env → Loc → Tab → Prop, (∀ e L T, AW P c (thenR I R) e L T → I e L T) → I e L T
  | .exit id, R => R (.exit id)
  | .ret, R => R .ret
  | .keep ts ls, R => fun e L T => R .normal (keepL ts e) (keepL ls L) T

def MonoE (R R' : RPost) : Prop := ∀ x e e' L L' T, EqE e e' → EqL L L' → R x e L T → R' x e' L' T
def ExtR (R : RPost) : Prop := MonoE R R

theorem ExtR.k {R : RPost} (h : ExtR R) (x : XE) : ExtK (R x) := fun e e' L L' T he hl hk => h x e e' L L' T he hl hk

theorem AW_mono {P : Program} : ∀ (c : SC) {R R' : RPost}, MonoE R R' → ∀ {e e' : Env} {L L' : Loc} {T : Tab}, EqE e e' → EqL L L' → AW P c R e L T → AW P c R' e' L' T
  | .skip, _, _, hR, _, _, _, _, _, he, hl, h => hR _ _ _ _ _ _ he hl h
  | .ops l, R, R', hR, _, _, _, _, _, he, hl, h => ops hR l he hl h
  | .seq a b, R, R', hR, _, _, _, _, _, he, hl, h => AW_mono a (R := thenR (AW P b R) R) (R' := thenR (AW P b R') R') (fun x e e' L L' T he hl h => by
      cases x with
      | normal => exact AW_mono b hR he hl h
      | exit id => exact hR _ _ _ _ _ _ he hl h
      | ret => exact hR _ _ _ _ _ _ he hl h) he hl h
  | .cond c a b, R, R', hR, e, e', _, _, _, he, hl, h => by
    simp only [AW] at h ⊢
    rw [opdV_ag (he.ag _)] at h
    split at h
    · split at h
      · rename_i hx; simp only [hx, if_true]; exact AW_mono a hR he hl h
      · rename_i hx; simp only [hx]; exact AW_mono b hR he hl h
    · exact h.elim
  | .block id c, R, R', hR, _, _, _, _, _, he, hl, h => AW_mono c (R := blkR id R) (R' := blkR id R') (fun x e e' L L' T he hl h => by
      cases x with
      | normal => exact hR _ _ _ _ _ _ he hl h
      | exit id' =>
        simp only [blkR] at h ⊢
        split at h
        · rename_i hx; rw [if_pos hx]; exact hR _ _ _ _ _ _ he hl h
        · rename_i hx; rw [if_neg hx]; exact hR _ _ _ _ _ _ he hl h
      | ret => exact hR _ _ _ _ _ _ he hl h) he hl h
  | .loop c, R, R', hR, e, e', L, L', T, he, hl, h => by
    intro I hI
    refine h (fun e L T => ∀ e' L', EqE e e' → EqL L L' → I e' L' T) (fun e1 L1 T1 h1 e2 L2 he2 hl2 => hI _ _ _ ?_) e' L' he hl
    refine AW_mono c (R := thenR _ R) (R' := thenR I R') (fun x e e' L L' T he hl h => ?_) he2 hl2 h1
    cases x with
    | normal => exact h e' L' he hl
    | exit id => exact hR _ _ _ _ _ _ he hl h
    | ret => exact hR _ _ _ _ _ _ he hl h
  | .exit id, _, _, hR, _, _, _, _, _, he, hl, h => hR _ _ _ _ _ _ he hl h
  | .ret, _, _, hR, _, _, _, _, _, he, hl, h => hR _ _ _ _ _ _ he hl h
  | .keep ts ls, _, _, hR, _, _, _, _, _, he, hl, h => by
    simp only [AW] at h ⊢
    rw [← keepL_eq he ts, ← keepL_eq hl ls]
    exact hR _ _ _ _ _ _ (fun _ => rfl) (fun _ => rfl) h
where
  ops {R R' : RPost} (hR : MonoE R R') : ∀ (l : List SOp) {e e' : Env} {L L' : Loc} {T : Tab}, EqE e e' → EqL L L' → opsG P l (R .normal) e L T → opsG P l (R' .normal) e' L' T
    | [], _, _, _, _, _, he, hl, h => hR _ _ _ _ _ _ he hl h
    | _ :: l, _, _, _, _, _, he, hl, h => gstep_mono he hl (fun _ _ _ _ _ h1 h2 h3 => ops hR l h1 h2 h3) h

theorem AW_ext {P : Program} (c : SC) {R : RPost} (hR : ExtR R) : ExtK (AW P c R) := fun _ _ _ _ _ he hl h => AW_mono c hR he hl h

theorem EqE.refl (e : Env) : EqE e e := fun _ => rfl
theorem EqL.refl (L : Loc) : EqL L L := fun _ => rfl

/-- A loop is one round, and the loop again. -/
theorem AW_loop {P : Program} {c : SC} {R : RPost} {e : Env} {L : Loc} {T : Tab} (hR : ExtR R) (h : AW P c (thenR (AW P (.loop c) R) R) e L T) : AW P (.loop c) R e L T := by
  intro I hI
  refine hI _ _ _ (AW_mono c (R := thenR (AW P (.loop c) R) R) (R' := thenR I R) (fun x e e' L L' T he hl h => ?_) (EqE.refl e) (EqL.refl L) h)
  cases x with
  | normal =>
    have h' := AW_ext (.loop c) hR e e' L L' T he hl h
    exact h' I hI
  | exit id => exact hR _ _ _ _ _ _ he hl h
  | ret => exact hR _ _ _ _ _ _ he hl h

/-- Less is known of the temporaries and of the variables: said ahead of any piece. -/
theorem thenR_ext {K : Env → Loc → Tab → Prop} {R : RPost} (hK : ExtK K) (hR : ExtR R) : ExtR (thenR K R) := fun x e e' L L' T he hl h => by
  cases x with
  | normal => exact hK _ _ _ _ _ he hl h
  | exit id => exact hR _ _ _ _ _ _ he hl h
  | ret => exact hR _ _ _ _ _ _ he hl h

theorem blkR_ext {id : Nat} {R : RPost} (hR : ExtR R) : ExtR (blkR id R) := fun x e e' L L' T he hl h => by
  cases x with
  | normal => exact hR _ _ _ _ _ _ he hl h
  | exit id' =>
    simp only [blkR] at h ⊢
    split at h
    · rename_i hx; rw [if_pos hx]; exact hR _ _ _ _ _ _ he hl h
    · rename_i hx; rw [if_neg hx]; exact hR _ _ _ _ _ _ he hl h
  | ret => exact hR _ _ _ _ _ _ he hl h

/-! ### From the program's text -/
def dstOk (d : Option Nat) (n : Nat) : Bool := match d with | some k => decide (k < n) | none => true

theorem dstOk_spec {d : Option Nat} {n k : Nat} (h : dstOk d n = true) (hk : d = some k) : k < n := by
  subst hk; simpa [dstOk] using h

def sopAt (P : Program) (H : Hint) (n : Nat) (ops : Array Oper) (i : Nat) : Option SOp :=
  (ops[i]?).bind fun o => (trOp P H o).bind fun s =>
    if dstOk o.dst n = true then
      match o.guard with
      | none => some ⟨o.dst, s, none, []⟩
      | some (j, want) => ((ops[j]?).bind (·.dst)).map fun k => ⟨o.dst, s, some (k, want), []⟩
    else none

def sopsAt (P : Program) (H : Hint) (n : Nat) (ops : Array Oper) : List Nat → Option (List SOp)
  | [] => some []
  | i :: l => (sopAt P H n ops i).bind fun s => (sopsAt P H n ops l).map (s :: ·)

def rcAt (P : Program) (H : Hint) (n : Nat) (ops : Array Oper) : List Nat → Option RC
  | [] => some []
  | j :: l => (sopAt P H n ops j).bind fun z => z.dst.bind fun k => (rcAt P H n ops l).map ((k, z.op, z.gd) :: ·)

def entsAt (P : Program) (H : Hint) (n : Nat) (ops : Array Oper) : List (Nat × List Nat) → Option (List Ent)
  | [] => some []
  | (i, js) :: l => (sopAt P H n ops i).bind fun s => (rcAt P H n ops js).bind fun rc => (entsAt P H n ops l).map ((i, { s with rc := rc }) :: ·)

def drawT (P : Program) (H : Hint) (n : Nat) (ops : Array Oper) (ord : List (Nat × List Nat)) : Option SC :=
  (entsAt P H n ops ord).bind fun C =>
    let A := ancs ops C []
    if (ord.length == ops.size && nodupB (ord.map (·.1)) && (List.range ops.size).all (fun i => (ord.map (·.1)).contains i) && ord.all (fun p => p.2.all fun j => decide (j < ops.size)) &&
        ancOk ops A C && chk ops A [] C && nodupB (C.filterMap fun x => x.2.dst)) = true then some (.ops (C.map (·.2))) else none

def firstId : Code → Nat
  | .region id _ _ => id
  | .seq a b => match firstId a with
    | 0 => firstId b
    | k => k
  | .cond _ a b => match firstId a with
    | 0 => firstId b
    | k => k
  | .block _ b | .loop b => firstId b
  | _ => 0

def keptB (o : Option (List Nat × List Nat)) (s : SC) : SC :=
  match o with
  | none => s
  | some (ts, ls) => .seq s (.keep ts ls)

def keptL (o : Option (List Nat × List Nat)) (s : SC) : SC :=
  match o with
  | none => .loop s
  | some (ts, ls) => .seq (.keep ts ls) (.loop (.seq s (.keep ts ls)))

def tr (P : Program) (H : Hint) (n : Nat) : Code → Option SC
  | .skip => some .skip
  | .region id ops draw => (if draw then (aget H.ord id).bind (drawT P H n ops) else (sopsAt P H n ops (List.range ops.size)).map .ops).map (keptB (aget H.keep id))
  | .seq a b => (tr P H n a).bind fun x => (tr P H n b).map fun y => .seq x y
  | .cond c a b => (tr P H n a).bind fun x => (tr P H n b).map fun y => .cond c x y
  | .block id b => (tr P H n b).map (.block id)
  | .loop b => (tr P H n b).map (keptL (aget H.lkeep (firstId b)))
  | .exit id => some (.exit id)
  | .ret => some .ret
  | _ => none

section
variable {P : Program} {H : Hint} {X0 : Cx} {T0 : Tab} {w0 : World} {X : Cx} {lam : Nat → Nat} {env : Env} {L : Loc} {T : Tab} {a : Act} {w : World} {ops : Array Oper}

theorem sopAt_spec {n i : Nat} {s : SOp} (h : sopAt P H n ops i = some s) : s.rc = [] ∧ ∃ o, ops[i]? = some o ∧ OkOp P H n ops o s := by
  unfold sopAt at h
  obtain ⟨o, ho, h⟩ := bind_some h
  obtain ⟨q, hq, h⟩ := bind_some h
  split at h
  · rename_i hd
    have hlt : ∀ k, o.dst = some k → k < n := fun k hk => dstOk_spec hd hk
    split at h
    · rename_i hg
      injection h with h; subst h
      exact ⟨rfl, o, ho, hq, rfl, hlt, by rw [hg]⟩
    · rename_i j want hg
      obtain ⟨k, hk, rfl⟩ := map_some h
      exact ⟨rfl, o, ho, hq, rfl, hlt, by rw [hg]; exact ⟨k, hk, rfl⟩⟩
  · cases h

theorem sopsAt_spec {n : Nat} : ∀ {is : List Nat} {ss : List SOp}, sopsAt P H n ops is = some ss → OkL P H n ops is ss
  | [], ss, h => by simp only [sopsAt] at h; injection h with h; subst h; trivial
  | i :: is, ss, h => by
    simp only [sopsAt] at h
    obtain ⟨s, hs, h⟩ := bind_some h
    obtain ⟨r, hr, rfl⟩ := map_some h
    exact ⟨(sopAt_spec hs).2, sopsAt_spec hr⟩

theorem rcAt_spec {n : Nat} : ∀ {js : List Nat} {rc : RC}, rcAt P H n ops js = some rc → ∀ p ∈ rc, ∃ j ∈ js, ∃ z, sopAt P H n ops j = some z ∧ z.dst = some p.1 ∧ p.2 = (z.op, z.gd)
  | [], rc, h, p, hp => by simp only [rcAt] at h; injection h with h; subst h; cases hp
  | j :: js, rc, h, p, hp => by
    simp only [rcAt] at h
    obtain ⟨z, hz, h⟩ := bind_some h
    obtain ⟨k, hk, h⟩ := bind_some h
    obtain ⟨r, hr, rfl⟩ := map_some h
    rcases List.mem_cons.1 hp with rfl | hp
    · exact ⟨j, List.mem_cons_self .., z, hz, hk, rfl⟩
    · obtain ⟨j', hj', q⟩ := rcAt_spec hr p hp
      exact ⟨j', List.mem_cons_of_mem _ hj', q⟩

theorem entsAt_spec {n : Nat} : ∀ {ord : List (Nat × List Nat)} {C : List Ent}, entsAt P H n ops ord = some C → C.map (·.1) = ord.map (·.1) ∧
    ∀ x ∈ C, ∃ s, sopAt P H n ops x.1 = some s ∧ x.2.op = s.op ∧ x.2.dst = s.dst ∧ x.2.gd = s.gd ∧ ∃ js, (x.1, js) ∈ ord ∧ rcAt P H n ops js = some x.2.rc
  | [], C, h => by simp only [entsAt] at h; injection h with h; subst h; exact ⟨rfl, fun x hx => by cases hx⟩
  | (i, js) :: ord, C, h => by
    simp only [entsAt] at h
    obtain ⟨s, hs, h⟩ := bind_some h
    obtain ⟨rc, hrc, h⟩ := bind_some h
    obtain ⟨r, hr, rfl⟩ := map_some h
    obtain ⟨h1, h2⟩ := entsAt_spec hr
    refine ⟨by simp [h1], fun x hx => ?_⟩
    rcases List.mem_cons.1 hx with rfl | hx
    · exact ⟨s, hs, rfl, rfl, rfl, js, List.mem_cons_self .., hrc⟩
    · obtain ⟨s', q1, q2, q3, q4, js', q5, q6⟩ := h2 x hx
      exact ⟨s', q1, q2, q3, q4, js', List.mem_cons_of_mem _ q5, q6⟩

theorem nodup_filterMap_eq {C : List Ent} (h : (C.filterMap fun x => x.2.dst).Nodup) : ∀ x ∈ C, ∀ y ∈ C, x.2.dst ≠ none → x.2.dst = y.2.dst → x.2 = y.2 := by
  induction C with
  | nil => intro x hx; cases hx
  | cons q C ih =>
    have hmem : ∀ y ∈ C, ∀ k, y.2.dst = some k → k ∈ C.filterMap fun x => x.2.dst := fun y hy k hk => List.mem_filterMap.2 ⟨y, hy, hk⟩
    intro x hx y hy hne he
    cases hz : q.2.dst with
    | none =>
      rw [List.filterMap_cons_none (by rw [hz])] at h
      rcases List.mem_cons.1 hx with e1 | hx
      · rw [e1] at hne; exact absurd hz hne
      · rcases List.mem_cons.1 hy with e2 | hy
        · rw [e2, hz] at he; exact absurd he hne
        · exact ih h x hx y hy hne he
    | some k =>
      rw [List.filterMap_cons_some (by rw [hz])] at h
      have hnd := List.nodup_cons.1 h
      rcases List.mem_cons.1 hx with e1 | hx
      · rcases List.mem_cons.1 hy with e2 | hy
        · rw [e1, e2]
        · rw [e1, hz] at he
          exact absurd (hmem y hy k he.symm) hnd.1
      · rcases List.mem_cons.1 hy with e2 | hy
        · rw [e2, hz] at he
          exact absurd (hmem x hx k he) hnd.1
        · exact ih hnd.2 x hx y hy hne he

theorem drawT_spec {n : Nat} {ord : List (Nat × List Nat)} {sc : SC} (h : drawT P H n ops ord = some sc) : ∃ A C, sc = .ops (C.map (·.2)) ∧ DrawOk P H n ops A C := by
  unfold drawT at h
  obtain ⟨C, hC, h⟩ := bind_some h
  simp only at h
  split at h
  · rename_i hc
    injection h with h; subst h
    simp only [Bool.and_eq_true] at hc
    obtain ⟨⟨⟨⟨⟨⟨c1, c2⟩, c3⟩, c4⟩, c5⟩, c6⟩, c7⟩ := hc
    obtain ⟨h1, h2⟩ := entsAt_spec hC
    have hall : ∀ i, i < ops.size → ∃ s, (i, s) ∈ C := fun i hi => by
      have := List.all_eq_true.1 c3 i (List.mem_range.2 hi)
      have : i ∈ C.map (·.1) := by rw [h1]; simpa using this
      obtain ⟨x, hx, rfl⟩ := List.mem_map.1 this
      exact ⟨x.2, hx⟩
    have hds := nodup_filterMap_eq (nodupB_spec c7)
    refine ⟨_, C, rfl, ⟨fun x hx => ?_, by rw [h1]; exact nodupB_spec c2, hall, c5, c6, fun x hx p hp => ?_, fun y hy z hz hne he => ?_⟩⟩
    · obtain ⟨s, hs, e1, e2, e3, _⟩ := h2 x hx
      obtain ⟨_, o, ho, hok⟩ := sopAt_spec hs
      refine ⟨o, ho, by rw [e1]; exact hok.op, by rw [e2]; exact hok.dst, hok.lt, ?_⟩
      have := hok.gd
      rw [e3]
      exact this
    · obtain ⟨s, hs, e1, e2, e3, js, hjs, hrc⟩ := h2 x hx
      obtain ⟨j, hj, z, hz, hz1, hz2⟩ := rcAt_spec hrc p hp
      have hjlt : j < ops.size := by
        have := List.all_eq_true.1 (List.all_eq_true.1 c4 _ hjs) j hj
        simpa using this
      obtain ⟨s', hs'⟩ := hall j hjlt
      obtain ⟨s2, hs2, e4, e5, e6, _⟩ := h2 _ hs'
      simp only at hs2 e4 e5 e6
      rw [hz] at hs2
      injection hs2 with hs2
      subst hs2
      exact ⟨s', List.mem_map_of_mem hs', by rw [e5, hz1], by rw [hz2, e4, e6]⟩
    · obtain ⟨y', hy', rfl⟩ := List.mem_map.1 hy
      obtain ⟨z', hz', rfl⟩ := List.mem_map.1 hz
      have := hds z' hz' y' hy' hne he
      rw [this]; exact ⟨rfl, rfl⟩
  · cases h

/-- What is asked behind a piece, of the model's own ends. -/
def lift (X0 : Cx) (T0 : Tab) (w0 : World) (n : Nat) (R : RPost) : Exit → Act → World → Prop
  | .normal, a, w => Nx X0 T0 w0 n (R .normal) a w
  | .exit id, a, w => Nx X0 T0 w0 n (R (.exit id)) a w
  | .ret, a, w => Nx X0 T0 w0 n (R .ret) a w
  | _, _, _ => False

theorem SR.eqE (h : SR X0 T0 w0 X lam env L T a w) {env' : Env} {L' : Loc} (he : EqE env env') (hl : EqL L L') : SR X0 T0 w0 X lam env' L' T a w :=
  h.weaken (fun s x hx => by rw [he s]; exact hx) (fun l c hc => by rw [hl l]; exact hc)

theorem Nx.elim {n : Nat} {K : Env → Loc → Tab → Prop} (h : Nx X0 T0 w0 n K a w) : ∃ X lam env L T, K env L T ∧ SR X0 T0 w0 X lam env L T a w ∧ a.tmps.size = n := h

theorem Nx.keep {n : Nat} {K : Env → Loc → Tab → Prop} {ts ls : List Nat} {a : Act} {w : World} (h : Nx X0 T0 w0 n (fun e L T => K (keepL ts e) (keepL ls L) T) a w) : Nx X0 T0 w0 n K a w := by
  obtain ⟨X, lam, env, L, T, hk, hsr, hn⟩ := h
  exact ⟨X, lam, _, _, T, hk, hsr.weaken (fun _ _ h => aget_keepL h) (fun _ _ h => aget_keepL h), hn⟩

theorem lift_thenKeep {n : Nat} {R : RPost} {ts ls : List Nat} {e : Exit} {a : Act} {w : World} (h : lift X0 T0 w0 n (thenR (AW P (.keep ts ls) R) R) e a w) : lift X0 T0 w0 n R e a w := by
  cases e <;> first
    | exact h
    | exact Nx.keep h

theorem loop_sound {c : Code} {sc : SC} {n : Nat} (hc : ∀ {R : RPost}, ExtR R → ∀ {a w}, Nx X0 T0 w0 n (AW P sc R) a w → c.wp P (lift X0 T0 w0 n R) a w) {R : RPost} (hR : ExtR R) {a : Act} {w : World} (hk : Nx X0 T0 w0 n (AW P (.loop sc) R) a w) :
    (Code.loop c).wp P (lift X0 T0 w0 n R) a w := by
  obtain ⟨X, lam, env, L, T, hk, hsr, hn⟩ := hk
  intro b k cs
  have key := hk (fun env L T => ∀ X lam a w, SR X0 T0 w0 X lam env L T a w → a.tmps.size = n → ∀ (b : Frame) (k : List Item) (cs : List Frame),
    ∃ e a' w', lift X0 T0 w0 n R e a' w' ∧ Arrives P (lone (b.at a (.code c :: .inLoop c :: k)) cs w) b k cs e a' w') ?_
  · obtain ⟨e, a', w', hq, harr⟩ := key X lam a w hsr hn b k cs
    exact ⟨e, a', w', hq, .of_steps (.one step_loop) harr⟩
  · intro env L T hI X lam a w hsr hn b k cs
    have hext : ExtK (fun env L T => ∀ X lam a w, SR X0 T0 w0 X lam env L T a w → a.tmps.size = n → ∀ (b : Frame) (k : List Item) (cs : List Frame),
        ∃ e a' w', lift X0 T0 w0 n R e a' w' ∧ Arrives P (lone (b.at a (.code c :: .inLoop c :: k)) cs w) b k cs e a' w') :=
      fun e e' L L' T he hl hh X lam a w hs => hh X lam a w (hs.eqE (fun s => (he s).symm) (fun l => (hl l).symm))
    obtain ⟨e, a₁, w₁, hq, harr⟩ := hc (thenR_ext hext hR) ⟨X, lam, env, L, T, hI, hsr, hn⟩ b (.inLoop c :: k) cs
    cases e with
    | normal =>
      obtain ⟨X1, lam1, env1, L1, T1, hk1, hsr1, hn1⟩ := hq
      obtain ⟨e₂, a₂, w₂, hq₂, harr₂⟩ := hk1 X1 lam1 a₁ w₁ hsr1 hn1 b k cs
      exact ⟨e₂, a₂, w₂, hq₂, .of_steps (Steps.trans harr (.one step_inLoop)) harr₂⟩
    | exit id => exact ⟨.exit id, a₁, w₁, hq, .pass (x := .inLoop c) rfl (fun _ _ => .inl (by simp)) harr⟩
    | ret => exact ⟨.ret, a₁, w₁, hq, .pass (x := .inLoop c) rfl (fun _ _ => .inl (by simp)) harr⟩
    | goto l => exact hq.elim
    | panic ch => exact hq.elim
    | outgrown => exact hq.elim

theorem AW_sound (hm : P.follows .mixedOrders = true) {n : Nat} : ∀ (c : Code) {sc : SC}, tr P H n c = some sc → ∀ {R : RPost}, ExtR R → ∀ {a w}, Nx X0 T0 w0 n (AW P sc R) a w → c.wp P (lift X0 T0 w0 n R) a w
  | .skip, sc, h, R, _, a, w, hk => by
    simp only [tr] at h; injection h with h; subst h
    exact wp_skip hk
  | .region id ops draw, sc, h, R, hR, a, w, hk => by
    simp only [tr] at h
    obtain ⟨sc', h2, e2⟩ := map_some h
    clear h
    subst e2
    have key : ∀ {R : RPost}, ExtR R → Nx X0 T0 w0 n (AW P sc' R) a w → (Code.region id ops draw).wp P (lift X0 T0 w0 n R) a w := by
      intro R hR hk
      cases draw with
      | true =>
        simp only [if_true] at h2
        obtain ⟨ord, _, h2⟩ := bind_some h2
        obtain ⟨A, C, rfl, hC⟩ := drawT_spec h2
        exact wp_region_drawn hC hm (hR.k .normal) (fun a w h => h) hk
      | false =>
        simp only [Bool.false_eq_true, if_false] at h2
        obtain ⟨ss, hs, rfl⟩ := map_some h2
        exact wp_region (ops_text (fun a w h => h) _ _ (sopsAt_spec hs) hk)
    cases ho : aget H.keep id with
    | none =>
      simp only [ho, keptB] at hk
      exact key hR hk
    | some p =>
      obtain ⟨ts, ls⟩ := p
      simp only [ho, keptB] at hk
      exact wp_mono (key (R := thenR (AW P (.keep ts ls) R) R) (thenR_ext (AW_ext (.keep ts ls) hR) hR) hk) fun e a w he => lift_thenKeep he
  | .seq x y, sc, h, R, hR, a, w, hk => by
    simp only [tr] at h
    obtain ⟨sx, hx, h⟩ := bind_some h
    obtain ⟨sy, hy, rfl⟩ := map_some h
    refine wp_seq (wp_mono (AW_sound hm x hx (R := thenR (AW P sy R) R) (thenR_ext (AW_ext sy hR) hR) hk) fun e a w he => ?_)
    cases e <;> first
      | exact AW_sound hm y hy hR he
      | exact he
  | .cond c x y, sc, h, R, hR, a, w, ⟨X, lam, env, L, T, hk, hsr, hn⟩ => by
    simp only [tr] at h
    obtain ⟨sx, hx, h⟩ := bind_some h
    obtain ⟨sy, hy, rfl⟩ := map_some h
    simp only [AW] at hk
    cases hc : opdV env c with
    | none => simp [hc] at hk
    | some cv =>
    cases cv <;> simp only [hc] at hk <;> first | (exact hk.elim) | skip
    rename_i b
    have hv := opdV_sound hsr hc
    simp only [vr] at hv
    cases b with
    | true =>
      simp only [if_true] at hk
      exact wp_cond_true hv (AW_sound hm x hx hR ⟨X, lam, env, L, T, hk, hsr, hn⟩)
    | false =>
      simp only [Bool.false_eq_true, if_false] at hk
      exact wp_cond_false hv (AW_sound hm y hy hR ⟨X, lam, env, L, T, hk, hsr, hn⟩)
  | .block id c, sc, h, R, hR, a, w, hk => by
    simp only [tr] at h
    obtain ⟨sc', hc, rfl⟩ := map_some h
    refine wp_block (wp_mono (AW_sound hm c hc (R := blkR id R) (blkR_ext hR) hk) fun e a w he => ?_)
    cases e with
    | exit id' =>
      simp only [lift, blkR] at he
      simp only [Exit.inBlock]
      split
      · rename_i e; rw [if_pos e] at he; exact he
      · rename_i e; rw [if_neg e] at he; exact he
    | _ => exact he
  | .loop c, sc, h, R, hR, a, w, hk => by
    simp only [tr] at h
    obtain ⟨sc', hc, rfl⟩ := map_some h
    cases ho : aget H.lkeep (firstId c) with
    | none =>
      simp only [ho, keptL] at hk
      exact loop_sound (fun hR => AW_sound hm c hc hR) hR hk
    | some p =>
      obtain ⟨ts, ls⟩ := p
      simp only [ho, keptL] at hk
      refine loop_sound (sc := .seq sc' (.keep ts ls)) (fun {R} hR {a w} h => ?_) hR (Nx.keep hk)
      exact wp_mono (AW_sound hm c hc (R := thenR (AW P (.keep ts ls) R) R) (thenR_ext (AW_ext (.keep ts ls) hR) hR) h) fun e a w he => lift_thenKeep he
  | .exit id, sc, h, R, _, a, w, hk => by
    simp only [tr] at h; injection h with h; subst h
    exact wp_exit hk
  | .ret, sc, h, R, _, a, w, hk => by
    simp only [tr] at h; injection h with h; subst h
    exact wp_ret hk
  | .rangeFunc _ _ _ _, _, h, _, _, _, _, _ => by simp [tr] at h
  | .scope _, _, h, _, _, _, _, _ => by simp [tr] at h
  | .label _, _, h, _, _, _, _, _ => by simp [tr] at h
  | .goto _, _, h, _, _, _, _, _ => by simp [tr] at h
  | .refuse _, _, h, _, _, _, _, _ => by simp [tr] at h

end
end Go.Aw
