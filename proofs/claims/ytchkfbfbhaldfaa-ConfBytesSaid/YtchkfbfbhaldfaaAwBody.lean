/-
  A function, from its text: called so, it returns so.
-/
import Derived.Test.YtchkfbfbhaldfaaAwCode
namespace Go.Aw
set_option linter.all false
open Go

def resT1 (P : Program) (H : Hint) : ResultVar → Option SO
  | .tmp t => some (.mv (.tmp t))
  | .cell a t => (ldT P t).map fun sz => match lpOf H (.tmp a) with
    | some l => .lld l sz (.tmp a)
    | none => .ld sz (.tmp a)

def resT (P : Program) (H : Hint) : List ResultVar → Option (List SO)
  | [] => some []
  | r :: l => (resT1 P H r).bind fun x => (resT P H l).map (x :: ·)

def resAvs : List SO → Env → Loc → Tab → Option (List AV)
  | [], _, _, _ => some []
  | o :: l, e, L, T => (vev o e L T).bind fun x => (resAvs l e L T).map (x :: ·)

def oneOr : List AV → AV
  | [x] => x
  | l => .tup l

/-- Less is said of a value. -/
def Wk (x y : AV) : Prop := ∀ X w v, vr X w x v → vr X w y v

/-- As much, or less, is known of a place in the table. -/
def SlotLe (s' s : Slot) : Prop := s' = .unused ∨ s' = s ∨ ∃ z cs k, s = .row z cs ∧ s' = .row z (cs.take k)

/-- At the end: rows are handed on for good, others are forgotten. -/
def finL (r : AV) (Q : AV → Tab → Prop) (T : Tab) : Prop :=
  ∃ S T' r', S.Nodup ∧ (∀ id ∈ S, T id ≠ .unused) ∧ (∀ id, SlotLe (T' id) (kill T S id)) ∧ Wk (frzt T S r) r' ∧ Q r' T'

def fin (x : Option (List AV)) (Q : AV → Tab → Prop) (T : Tab) : Prop :=
  match x with
  | none => False
  | some l => finL (oneOr l) Q T

def FinR (rs : List SO) (Q : AV → Tab → Prop) (e : Env) (L : Loc) (T : Tab) : Prop := fin (resAvs rs e L T) Q T

def FinX (rs : List SO) (Q : AV → Tab → Prop) : RPost
  | .normal => FinR rs Q
  | .ret => FinR rs Q
  | .exit _ => fun _ _ _ => False

def aenv : Nat → List AV → Env
  | _, [] => []
  | n, x :: l => (n, x) :: aenv (n + 1) l

theorem aget_aenv : ∀ (l : List AV) (n s : Nat) (x : AV), aget (aenv n l) s = some x → n ≤ s ∧ l[s - n]? = some x
  | [], n, s, x, h => by simp [aenv, aget] at h
  | y :: l, n, s, x, h => by
    simp only [aenv, aget] at h
    split at h
    · rename_i e; subst e; injection h with h; subst h; simp
    · rename_i e
      obtain ⟨h1, h2⟩ := aget_aenv l (n + 1) s x h
      refine ⟨by omega, ?_⟩
      rw [show s - n = (s - (n + 1)) + 1 by omega]
      simpa using h2

section
variable {P : Program} {H : Hint} {X0 : Cx} {T0 : Tab} {w0 : World} {X : Cx} {lam : Nat → Nat} {env : Env} {L : Loc} {T : Tab} {a : Act} {w : World}

/-- Rows of the table are forgotten, or what stands at their end. -/
theorem SR.sub (h : SR X0 T0 w0 X lam env L T a w) {T' : Tab} (hs : ∀ id, SlotLe (T' id) (T id)) : SR X0 T0 w0 X lam env L T' a w := by
  have hun : ∀ j, T j = .unused → T' j = .unused := fun j hj => by
    rcases hs j with e | e | ⟨z, cs, k, e, e'⟩
    · exact e
    · rw [e, hj]
    · rw [hj] at e; cases e
  have hne : ∀ j, T' j ≠ .unused → T j ≠ .unused := fun j hj e => hj (hun j e)
  have hlv : ∀ b, Live X T' b → Live X T b := fun b ⟨j, hj, hb⟩ => ⟨j, hne j hj, hb⟩
  refine ⟨⟨fun j hj => hun j (h.rel.fresh j hj), h.rel.fzlt, fun j esz cs hT => ?_, fun j es hT => ?_, fun j hj => h.rel.live_fz j (hne j hj), fun j j' h1 h2 h3 => h.rel.live_inj j j' (hne j h1) (hne j' h2) h3, h.rel.loc, h.rel.loc_fz, h.rel.loc_inj, fun l c hc hl => h.rel.loc_live l c hc (hlv _ hl)⟩,
    ⟨h.step.le, h.step.os, h.step.tape, h.step.output, h.step.size, h.step.kept, h.step.fznew, fun c hc hl => h.step.livenew c hc (hlv c hl), fun j hj hT => hun j (h.step.idnew j hj hT)⟩, h.locnew, h.env, h.defers⟩
  · rcases hs j with e | e | ⟨z, cs', k, e, e'⟩
    · rw [e] at hT; cases hT
    · rw [e] at hT; exact h.rel.row j esz cs hT
    · rw [e'] at hT
      injection hT with hz hcs
      subst hz; subst hcs
      obtain ⟨cur, ee, us, h1, h2, h3, h4, h5, h6, h7⟩ := h.rel.row j z cs' e
      refine ⟨cur, ee, us.take k, h1, h2.take k, fun u hu => h3 u (List.mem_of_mem_take hu), fun j' u hu => h4 j' u ?_, ?_, h6, h7⟩
      · rw [List.getElem?_take] at hu
        split at hu
        · exact hu
        · cases hu
      · rw [List.length_take]; omega
  · rcases hs j with e | e | ⟨z, cs', k, e, e'⟩
    · rw [e] at hT; cases hT
    · rw [e] at hT; exact h.rel.map j es hT
    · rw [e'] at hT; cases hT

theorem resAvs_ext {e e' : Env} (he : EqE e e') {L L' : Loc} (hl : EqL L L') (T : Tab) : ∀ l, resAvs l e L T = resAvs l e' L' T
  | [] => rfl
  | o :: l => by simp only [resAvs, vev_ext he hl T, resAvs_ext he hl T l]

theorem finX_ext (rs : List SO) (Q : AV → Tab → Prop) : ExtR (FinX rs Q) := fun x e e' L L' T he hl h => by
  have key : FinR rs Q e L T → FinR rs Q e' L' T := fun h => by
    unfold FinR at h ⊢; rw [← resAvs_ext he hl T rs]; exact h
  cases x with
  | normal => exact key h
  | ret => exact key h
  | exit _ => exact h

def resV (a : Act) : ResultVar → Sem Value
  | .tmp t => pure (a.tmps.getD t undef)
  | .cell b t => do loadVar t (← asAddr (a.tmps.getD b undef))

theorem loadVar_of_loadAt {t : TypeId} {u q : Value} (h : (Instr.loadAt t u).run P w = .ok q w) : ((do loadVar t (← asAddr u)) : Sem Value).run P w = .ok q w := by
  unfold Instr.loadAt at h
  cases u <;> first
    | (simp [Instr.sureAddr, stuck, Sem.run_bind] at h; done)
    | skip
  rename_i p
  cases p with
  | none => simp [Instr.sureAddr, stuck, Sem.run_bind] at h
  | some ad => exact h

theorem resT1_sound (h : SR X0 T0 w0 X lam env L T a w) {r : ResultVar} {o : SO} (hr : resT1 P H r = some o) {x : AV} (hx : vev o env L T = some x) :
    ∃ v, (resV a r).run P w = .ok v w ∧ vr X w x v := by
  cases r with
  | tmp t =>
    simp only [resT1] at hr; injection hr with hr; subst hr
    exact ⟨_, rfl, opdV_sound h (o := .tmp t) hx⟩
  | cell b t =>
    simp only [resT1] at hr
    obtain ⟨sz, hsz, hr⟩ := map_some hr
    have ht := ldT_spec hsz
    cases hl : lpOf H (.tmp b) with
    | none =>
      simp only [hl] at hr; subst hr
      simp only [vev, pev] at hx
      obtain ⟨y, hy, hx⟩ := bind_some hx
      obtain ⟨q, hq, hv⟩ := ld_sound h.rel (evr_of_vr (lam := lam) (opdV_sound h hy)) ht hx
      exact ⟨q, loadVar_of_loadAt hq, hv⟩
    | some l =>
      simp only [hl] at hr; subst hr
      simp only [vev, pev] at hx
      obtain ⟨y, hy, hx⟩ := bind_some hx
      obtain ⟨q, hq, hv⟩ := lld_sound h.rel (opdL_sound h hy) ht hx
      exact ⟨q, loadVar_of_loadAt hq, hv⟩

theorem resT_sound (h : SR X0 T0 w0 X lam env L T a w) : ∀ {rs : List ResultVar} {os : List SO}, resT P H rs = some os → ∀ {xs : List AV}, resAvs os env L T = some xs →
    ∃ vs, (rs.mapM (resV a)).run P w = .ok vs w ∧ vrs X w xs vs
  | [], os, hr, xs, hx => by
    simp only [resT] at hr; injection hr with hr; subst hr
    simp only [resAvs] at hx; injection hx with hx; subst hx
    exact ⟨[], rfl, rfl⟩
  | r :: rs, os, hr, xs, hx => by
    simp only [resT] at hr
    obtain ⟨o, ho, hr⟩ := bind_some hr
    obtain ⟨os', hos, rfl⟩ := map_some hr
    simp only [resAvs] at hx
    obtain ⟨x, hx1, hx⟩ := bind_some hx
    obtain ⟨xs', hxs, rfl⟩ := map_some hx
    obtain ⟨v, h1, h2⟩ := resT1_sound h ho hx1
    obtain ⟨vs, h3, h4⟩ := resT_sound h hos hxs
    refine ⟨v :: vs, ?_, v, vs, rfl, h2, h4⟩
    simp only [List.mapM_cons, Sem.run_bind, h1, h3, Result.andThen_ok, Sem.run_pure]

theorem results_sound (h : SR X0 T0 w0 X lam env L T a w) {fn : Func} {os : List SO} (hr : resT P H fn.results.toList = some os) {xs : List AV} (hx : resAvs os env L T = some xs) :
    ∃ v, (results fn a.tmps).run P w = .ok v w ∧ vr X w (oneOr xs) v := by
  obtain ⟨vs, h1, h2⟩ := resT_sound h hr hx
  have hlen := h2.length
  have hrun : (results fn a.tmps).run P w = .ok (if hs : vs.toArray.size = 1 then vs.toArray[0] else .tuple vs.toArray) w := by
    have e : results fn a.tmps = (do let vs ← fn.results.mapM (resV a); pure (if h : vs.size = 1 then vs[0] else .tuple vs)) := rfl
    rw [e, Array.mapM_eq_mapM_toList]
    simp only [Sem.run_bind, Sem.run_map, h1, Result.andThen_ok, Sem.run_pure]
  refine ⟨_, hrun, ?_⟩
  match xs, vs, h2, hlen with
  | [], [], h2, _ => simpa [oneOr, vr] using h2
  | [x], [v], h2, _ =>
    simp only [vrs] at h2
    obtain ⟨u, us', e, h3, h4⟩ := h2
    injection e with e1 e2
    subst e1
    simpa [oneOr] using h3
  | x :: y :: l, v :: u :: us, h2, _ =>
    simp only [oneOr, vr]
    exact ⟨v :: u :: us, h2, by simp⟩

/-- What a function's text is. -/
structure FnTxt (P : Program) (f : FuncId) (n : Nat) (sc : SC) (rs : List SO) : Prop where
  mk :: (is : ∃ fn c H, P.funcs[f]? = some fn ∧ fn.body = some c ∧ fn.ntmps = n ∧ tr P H n c = some sc ∧ resT P H fn.results.toList = some rs)

def fnT (P : Program) (H : Hint) (f : FuncId) : Option (Nat × SC × List SO) :=
  (P.funcs[f]?).bind fun fn => fn.body.bind fun c => (tr P H fn.ntmps c).bind fun sc => (resT P H fn.results.toList).map fun rs => (fn.ntmps, sc, rs)

theorem FnTxt.of (H : Hint) {f : FuncId} {n : Nat} {sc : SC} {rs : List SO} (h : fnT P H f = some (n, sc, rs)) : FnTxt P f n sc rs := by
  unfold fnT at h
  obtain ⟨fn, h1, h⟩ := bind_some h
  obtain ⟨c, h2, h⟩ := bind_some h
  obtain ⟨s, h3, h⟩ := bind_some h
  obtain ⟨r, h4, h⟩ := map_some h
  injection h with e1 h
  injection h with e2 e3
  subst e1; subst e2; subst e3
  exact ⟨fn, c, H, h1, h2, rfl, h3, h4⟩

theorem acalls_of (hm : P.follows .mixedOrders = true) {f : FuncId} {n : Nat} {sc : SC} {rs : List SO} (ht : FnTxt P f n sc rs) {args : List AV} {T : Tab} {Q : AV → Tab → Prop} (hl : args.length ≤ n)
    (h : AW P sc (FinX rs Q) (aenv 0 args) [] T) : ACalls P f args T Q := by
  obtain ⟨fn, c, H, h1, h2, rfl, h3, h4⟩ := ht.is
  intro X lam w cargs hr hv
  have hlen := hv.length
  refine calls_of_wp h1 h2 (wp_mono (AW_sound (X0 := X) (T0 := T) (w0 := w) hm c h3 (finX_ext rs Q) ⟨X, lam, aenv 0 args, [], T, h, ⟨hr, .refl X T w, fun l c hc => by simp [aget] at hc, fun s x hs => ?_, rfl⟩, by simp; omega⟩) ?_)
  · obtain ⟨_, hs⟩ := aget_aenv args 0 s x hs
    obtain ⟨u, hu, hx⟩ := hv.get hs
    have : s < cargs.length := (List.getElem?_eq_some_iff.1 hu).1
    refine ⟨u, ?_, evr_of_vr hx⟩
    simp only [Nat.sub_zero] at hu
    rw [Array.getElem?_append_left (by simpa using this)]
    simpa using hu
  · have key : ∀ a w', Nx X T w fn.ntmps (FinR rs Q) a w' → a.defers = [] ∧ ∃ v, (results fn a.tmps).run P w' = .ok v w' ∧ CPost X T w Q (.returned v) w' := by
      rintro a w' ⟨X', lam', env, L, T', hk, hsr, _⟩
      refine ⟨hsr.defers, ?_⟩
      unfold FinR at hk
      cases hl : resAvs rs env L T' with
      | none => rw [hl] at hk; exact hk.elim
      | some l =>
        rw [hl] at hk
        obtain ⟨S, T'', r', k1, k2, k3, kw, k4⟩ := hk
        obtain ⟨v, r1, r2⟩ := results_sound hsr h4 hl
        have s1 := ((hsr.freezes S k1 k2).sub k3).weaken (env' := []) (L' := []) (fun _ _ hx => by simp [aget] at hx) (fun _ _ hx => by simp [aget] at hx)
        exact ⟨v, r1, v, _, T'', _, lam', rfl, k4, kw _ _ _ (frzt_sound hsr.rel r2), s1.rel, s1.step⟩
    intro e a w' he
    cases e <;> first
      | exact key a w' he
      | exact he.elim
      | (obtain ⟨_, _, _, _, _, hk, _⟩ := he; exact hk.elim)
end
end Go.Aw
