/-
  Operations whose order is open.
-/
import Derived.Test.YtchkfbfbhaldfaaAwOp
namespace Go.Aw
set_option linter.all false
open Go

def oslots : Operand → List Nat
  | .tmp t => [t]
  | _ => []

def ooslots : Option Operand → List Nat
  | some o => oslots o
  | none => []

/-- The temporaries that an operation reads. -/
def SO.looks : SO → List Nat
  | .bad | .mkm => []
  | .lku _ _ _ x y => oslots x ++ oslots y
  | .mup _ x y z => oslots x ++ oslots y ++ oslots z
  | .apz _ _ _ x y => oslots x ++ oslots y
  | .hbs _ _ _ ps => ps.flatMap fun p => oslots p.2.2
  | .cap x | .cvm x | .mv x | .un _ x | .cvi _ x | .b2s x | .s2b x | .cvs x | .ifc _ x | .fadr _ _ x | .fld _ _ x | .ext _ x | .len _ x | .nilck _ x | .ld _ x | .lld _ _ x | .lbox x | .hbox _ x | .fbox x | .clr _ _ x | .snil _ x => oslots x
  | .pick c x y => oslots c ++ oslots x ++ oslots y
  | .bin _ x y | .eq _ _ x y | .iadr _ _ _ x y | .idxs x y | .idxa _ _ _ x y | .mnx _ x y | .st _ x y | .lst _ _ x y | .app _ _ x y | .mksl _ _ _ x y => oslots x ++ oslots y
  | .mkfn _ f c => f.flatMap oslots ++ c.flatMap oslots
  | .slc _ x a b c => oslots x ++ ooslots a ++ ooslots b ++ ooslots c
  | .slcs x a b => oslots x ++ ooslots a ++ ooslots b
  | .bld _ ps | .bsl _ _ _ ps => ps.flatMap fun p => oslots p.2.2
  | .lalloc _ | .halloc _ _ => []
  | .call _ args => args.flatMap oslots
  | .callv x args => oslots x ++ args.flatMap oslots

def SOp.looks (o : SOp) : List Nat := o.op.looks ++ (match o.gd with | some (s, _) => [s] | none => [])

/-- The local variable whose places an operation handles. -/
def SO.lpd : SO → Option Nat
  | .fadr l _ _ | .iadr l _ _ _ _ | .nilck l _ => l
  | .lld l _ _ | .lst l _ _ _ => some l
  | _ => none

/-- Does an operation that yields a value read the table? -/
def SO.readsT : SO → Bool
  | .ld _ _ | .slc _ _ _ _ _ | .b2s _ => true
  | _ => false

def Ag (S : List Nat) (e e' : Env) : Prop := ∀ s ∈ S, aget e s = aget e' s

theorem Ag.left {S S' : List Nat} {e e' : Env} (h : Ag (S ++ S') e e') : Ag S e e' := fun s hs => h s (List.mem_append_left _ hs)
theorem Ag.right {S S' : List Nat} {e e' : Env} (h : Ag (S ++ S') e e') : Ag S' e e' := fun s hs => h s (List.mem_append_right _ hs)
theorem Ag.symm {S : List Nat} {e e' : Env} (h : Ag S e e') : Ag S e' e := fun s hs => (h s hs).symm

theorem opd_ag {o : Operand} {e e' : Env} (h : Ag (oslots o) e e') : opd e o = opd e' o := by
  cases o <;> first | rfl | exact h _ (List.mem_singleton.2 rfl)
theorem opdV_ag {o : Operand} {e e' : Env} (h : Ag (oslots o) e e') : opdV e o = opdV e' o := by simp only [opdV, opd_ag h]
theorem opdL_ag {l : Option Nat} {o : Operand} {e e' : Env} (h : Ag (oslots o) e e') : opdL e l o = opdL e' l o := by cases l <;> simp only [opdL, opd_ag h, opdV_ag h]
theorem opdVs_ag {e e' : Env} : ∀ {l : List Operand}, Ag (l.flatMap oslots) e e' → opdVs e l = opdVs e' l
  | [], _ => rfl
  | o :: l, h => by
    simp only [List.flatMap_cons] at h
    simp only [opdVs, opdV_ag h.left, opdVs_ag h.right]
theorem optOpd_ag {o : Option Operand} {e e' : Env} (h : Ag (ooslots o) e e') : optOpd e o = optOpd e' o := by
  cases o <;> first | rfl | simp only [optOpd, opdV_ag h]
theorem bldAv_ag {e e' : Env} : ∀ {ps : List (Nat × Nat × Operand)} {c : List AV}, Ag (ps.flatMap fun p => oslots p.2.2) e e' → bldAv e c ps = bldAv e' c ps
  | [], _, _ => rfl
  | (off, sz, o) :: r, c, h => by
    simp only [List.flatMap_cons] at h
    simp only [bldAv, opdV_ag h.left]
    split
    · split
      · exact bldAv_ag h.right
      · rfl
    · rfl

theorem vev_ag {o : SO} {e e' : Env} (h : Ag o.looks e e') (L : Loc) (T : Tab) : vev o e L T = vev o e' L T := by
  cases o <;> simp only [SO.looks] at h <;> simp only [vev, pev] <;> first
    | rfl
    | (simp only [opdV_ag h]; done)
    | (simp only [opdL_ag h]; done)
    | (simp only [opdV_ag h.left, opdV_ag h.right]; done)
    | (simp only [opdL_ag h.left, opdV_ag h.right]; done)
    | (simp only [opdV_ag h.left.left, opdV_ag h.left.right, opdV_ag h.right]; done)
    | (simp only [opdVs_ag h.left, opdVs_ag h.right]; done)
    | (simp only [opdV_ag h.left.left.left, optOpd_ag h.left.left.right, optOpd_ag h.left.right, optOpd_ag h.right]; done)
    | (simp only [opdV_ag h.left.left, optOpd_ag h.left.right, optOpd_ag h.right]; done)
    | (simp only [bldAv_ag h]; done)

theorem tst_ag {P : Program} {o : SO} {e e' : Env} (h : Ag o.looks e e') (T : Tab) (k : AV → Tab → Prop) : tst P o e T k = tst P o e' T k := by
  cases o <;> simp only [SO.looks] at h <;> simp only [tst] <;> first
    | rfl
    | (simp only [opdV_ag h]; done)
    | (simp only [opdV_ag h.left, opdV_ag h.right]; done)
    | (simp only [opdV_ag h.left.left, opdV_ag h.left.right, opdV_ag h.right]; done)
    | (simp only [opdVs_ag h]; done)
    | (simp only [opdV_ag h.left, opdVs_ag h.right]; done)
    | (simp only [bldAv_ag h]; done)

theorem gdd_ag {α : Type} {gd : Option (Nat × Bool)} {e e' : Env} (h : Ag (match gd with | some (s, _) => [s] | none => []) e e') (y n z : α) : gdd e gd y n z = gdd e' gd y n z := by
  cases gd with
  | none => rfl
  | some p => obtain ⟨s, w⟩ := p; simp only [gdd, h s (List.mem_singleton.2 rfl)]

theorem vev_L {o : SO} {L L' : Loc} (h : ∀ l, o.lpd = some l → aget L l = aget L' l) (e : Env) (T : Tab) : vev o e L T = vev o e L' T := by
  cases o <;> simp only [vev, pev]
  rename_i l sz x
  have hl := h l rfl
  congr 1
  funext p
  cases p <;> simp only [lldAv, hl]

theorem vev_T {o : SO} (h : o.readsT = false) (e : Env) (L : Loc) (T T' : Tab) : vev o e L T = vev o e L T' := by
  cases o <;> simp only [SO.readsT] at h <;> first
    | rfl
    | (cases h; done)

theorem opdV_drop (e : Env) (l : Nat) (o : Operand) : opdV (dropLp e l) o = opdV e o := by
  cases o with
  | tmp t =>
    simp only [opdV, opd, aget_dropLp]
    cases aget e t with
    | none => rfl
    | some x =>
      cases x <;> simp only [Option.map_some, AV.offLp]
      rename_i l' p
      split <;> rfl
  | _ => rfl

theorem opdL_drop (e : Env) {l : Nat} {l' : Option Nat} (h : l' ≠ some l) (o : Operand) : opdL (dropLp e l) l' o = opdL e l' o := by
  cases l' with
  | none => exact opdV_drop e l o
  | some l' =>
    have hne : l' ≠ l := fun e => h (by rw [e])
    cases o with
    | tmp t =>
      simp only [opdL, opd, aget_dropLp]
      cases aget e t with
      | none => rfl
      | some x =>
        cases x <;> simp only [Option.map_some, AV.offLp]
        rename_i l2 p
        by_cases h2 : l2 = l
        · subst h2
          simp only [if_true]
          rw [if_neg (fun e => hne e.symm)]
        · simp only [h2, if_false]
    | _ => rfl

theorem opdVs_drop (e : Env) (l : Nat) : ∀ os : List Operand, opdVs (dropLp e l) os = opdVs e os
  | [] => rfl
  | o :: os => by simp only [opdVs, opdV_drop, opdVs_drop e l os]
theorem optOpd_drop (e : Env) (l : Nat) (o : Option Operand) : optOpd (dropLp e l) o = optOpd e o := by
  cases o <;> simp only [optOpd, opdV_drop]
theorem bldAv_drop (e : Env) (l : Nat) : ∀ (ps : List (Nat × Nat × Operand)) (c : List AV), bldAv (dropLp e l) c ps = bldAv e c ps
  | [], _ => rfl
  | (off, sz, o) :: r, c => by
    simp only [bldAv, opdV_drop]
    split
    · split
      · exact bldAv_drop e l r _
      · rfl
    · rfl

theorem vev_drop {o : SO} {l : Nat} (h : o.lpd ≠ some l) (e : Env) (L : Loc) (T : Tab) : vev o (dropLp e l) L T = vev o e L T := by
  cases o <;> simp only [SO.lpd] at h <;> simp only [vev, pev, opdV_drop, opdVs_drop, optOpd_drop, bldAv_drop] <;> first
    | rfl
    | (simp only [opdL_drop e h]; done)

theorem tst_drop {P : Program} {o : SO} (e : Env) (l : Nat) (T : Tab) (k : AV → Tab → Prop) : tst P o (dropLp e l) T k = tst P o e T k := by
  cases o <;> simp only [tst, opdV_drop, opdVs_drop, bldAv_drop]

theorem gdd_drop {α : Type} (e : Env) (l : Nat) (gd : Option (Nat × Bool)) (y n z : α) : gdd (dropLp e l) gd y n z = gdd e gd y n z := by
  cases gd with
  | none => rfl
  | some p =>
    obtain ⟨s, w⟩ := p
    simp only [gdd, aget_dropLp]
    cases aget e s with
    | none => rfl
    | some x =>
      cases x <;> simp only [Option.map_some, AV.offLp]
      rename_i l2 p
      by_cases h2 : l2 = l
      · simp only [h2, if_true]
      · simp only [h2, if_false]

/-! ### What is asked behind does not hang on how the temporaries are listed -/
def EqE (e e' : Env) : Prop := ∀ s, aget e s = aget e' s
def EqL (L L' : Loc) : Prop := ∀ l, aget L l = aget L' l
def ExtK (K : Env → Loc → Tab → Prop) : Prop := ∀ e e' L L' T, EqE e e' → EqL L L' → K e L T → K e' L' T

theorem EqE.ag {e e' : Env} (h : EqE e e') (S : List Nat) : Ag S e e' := fun s _ => h s
theorem EqE.aset {e e' : Env} (h : EqE e e') (d : Nat) (x : AV) : EqE (Aw.aset e d x) (Aw.aset e' d x) := fun s => by simp only [aget_aset, h s]
theorem EqE.eset {e e' : Env} (h : EqE e e') (d : Option Nat) (x : AV) : EqE (Aw.eset e d x) (Aw.eset e' d x) := by
  cases d with
  | none => exact h
  | some d => exact h.aset d x
theorem EqE.drop {e e' : Env} (h : EqE e e') (l : Nat) : EqE (dropLp e l) (dropLp e' l) := fun s => by simp only [aget_dropLp, h s]
theorem EqL.aset {L L' : Loc} (h : EqL L L') (d : Nat) (x : List AV) : EqL (Aw.aset L d x) (Aw.aset L' d x) := fun s => by simp only [aget_aset, h s]

theorem vev_ext {o : SO} {e e' : Env} {L L' : Loc} (he : EqE e e') (hl : EqL L L') (T : Tab) : vev o e L T = vev o e' L' T := by
  rw [vev_ag (he.ag _) L T, vev_L (fun l _ => hl l) e' T]
theorem gvev_ext {o : SO} {gd : Option (Nat × Bool)} {e e' : Env} {L L' : Loc} (he : EqE e e') (hl : EqL L L') (T : Tab) : gvev o gd e L T = gvev o gd e' L' T := by
  simp only [gvev, vev_ext he hl T, gdd_ag (he.ag _)]
theorem rcOk_ext {e e' : Env} {L L' : Loc} (he : EqE e e') (hl : EqL L L') (T : Tab) : ∀ {rc : RC}, rcOk e L T rc → rcOk e' L' T rc
  | [], _ => trivial
  | (d, o, gd) :: r, h => ⟨by rw [← gvev_ext he hl T, h.1, he d], rcOk_ext he hl T h.2⟩

/-- Two ways to say what has become of the local variables. -/
def Eq2 (p q : Option (Env × Loc)) : Prop :=
  match p, q with
  | some (e, L), some (e', L') => EqE e e' ∧ EqL L L'
  | none, none => True
  | _, _ => False

theorem lev_ext {o : SO} {d : Option Nat} {e e' : Env} {L L' : Loc} (he : EqE e e') (hl : EqL L L') : Eq2 (lev o d e L) (lev o d e' L') := by
  cases o <;> simp only [lev] <;> first
    | trivial
    | skip
  · rename_i l sz x v
    rw [opdL_ag (he.ag _), opdV_ag (he.ag _)]
    cases opdL e' (some l) x with
    | none => trivial
    | some p =>
    cases opdV e' v with
    | none => trivial
    | some y =>
    cases p <;> simp only [Option.bind_some] <;> first | trivial | skip
    rw [hl l]
    cases aget L' l with
    | none => trivial
    | some cells =>
      simp only [Option.bind_some]
      split
      · exact ⟨he.eset _ _, hl.aset _ _⟩
      · trivial
  · cases d with
    | none => trivial
    | some l => exact ⟨(he.drop l).aset l _, hl.aset l _⟩
  · rename_i x
    cases d with
    | none => trivial
    | some l =>
    simp only [Option.bind_some]
    rw [opdV_ag (he.ag _)]
    cases opdV e' x with
    | none => trivial
    | some v =>
      simp only [Option.bind_some]
      split
      · exact ⟨(he.drop l).aset l _, hl.aset l _⟩
      · trivial

theorem appStep_mono {esz bytes : Nat} {T : Tab} {x y : AV} {k k' : AV → Tab → Prop} (h : ∀ v T, k v T → k' v T) (H : appStep esz bytes T x y k) : appStep esz bytes T x y k' := by
  unfold appStep at H ⊢
  split at H
  · exact H
  · rename_i news hs
    split at H
    · split at H
      · rename_i h0; rw [if_pos h0]; exact h _ _ H
      · rename_i h0
        rw [if_neg h0]
        split at H
        · exact ⟨H.1, H.2.1, H.2.2.1, H.2.2.2.1, fun id hid => h _ _ (H.2.2.2.2 id hid)⟩
        · exact H
    · split at H
      · refine ⟨H.1, ?_⟩
        obtain ⟨_, H⟩ := H
        split at H
        · split at H
          · rename_i hc; rw [if_pos hc]; exact ⟨H.1, H.2.1, fun id hid => h _ _ (H.2.2 id hid)⟩
          · rename_i hc; rw [if_neg hc]; exact ⟨H.1, h _ _ H.2⟩
        · split at H
          · rename_i hc; simp only [if_pos hc]; exact ⟨H.1, H.2.1, H.2.2.1, fun id hid => h _ _ (H.2.2.2 id hid)⟩
          · rename_i hc; simp only [if_neg hc]; exact ⟨H.1, h _ _ H.2⟩
      · exact H
    · exact H

theorem tst_mono {P : Program} {o : SO} {e : Env} {T : Tab} {k k' : AV → Tab → Prop} (h : ∀ v T, k v T → k' v T) (H : tst P o e T k) : tst P o e T k' := by
  cases o <;> simp only [tst] at H ⊢ <;> first
    | (exact H.elim)
    | skip
  · split at H
    · split at H
      · exact ⟨H.1, H.2.1, H.2.2.1, h _ _ H.2.2.2⟩
      · exact H
    · exact H
  · exact fun id hid => h _ _ (H id hid)
  · split at H
    · exact ⟨H.1, fun id hid => h _ _ (H.2 id hid)⟩
    · exact H
  · split at H
    · exact appStep_mono h H
    · exact H
  · split at H
    · exact h _ _ H
    · split at H
      · exact ⟨H.1, H.2.1, H.2.2.1, h _ _ H.2.2.2⟩
      · exact H
    · exact H
  · split at H
    · exact ⟨H.1, H.2.1, H.2.2.1, H.2.2.2.1, fun id hid => h _ _ (H.2.2.2.2 id hid)⟩
    · exact H
  · split at H
    · exact fun id hid => h _ _ (H id hid)
    · exact H
  · split at H
    · split at H
      · exact ⟨H.1, H.2.1, h _ _ H.2.2⟩
      · exact H
    · exact H
  · split at H
    · exact ⟨H.1, H.2.1, H.2.2.1, fun id hid => h _ _ (H.2.2.2 id hid)⟩
    · exact H
  · exact fun id hid => h _ _ (H id hid)
  · split at H
    · split at H
      · refine ⟨H.1, ?_⟩
        obtain ⟨_, H⟩ := H
        split at H
        · exact h _ _ H
        · exact h _ _ H
        · exact H
      · exact H
    · exact H
  · split at H
    · split at H
      · exact ⟨H.1, H.2.1, h _ _ H.2.2⟩
      · exact H
    · exact H
  · refine ⟨H.1, ?_⟩
    obtain ⟨_, H⟩ := H
    split at H
    · obtain ⟨S, R, h1, h2, h3, h4⟩ := H
      exact ⟨S, R, h1, h2, h3, fun v T' hR => h _ _ (h4 v T' hR)⟩
    · exact H
  · split at H
    · obtain ⟨h0, S, R, h1, h2, h3, h4⟩ := H
      exact ⟨h0, S, R, h1, h2, h3, fun v T' hR => h _ _ (h4 v T' hR)⟩
    · exact H

theorem gdd_mono {e : Env} {gd : Option (Nat × Bool)} {y n y' n' : Prop} (h1 : y → y') (h2 : n → n') (H : gdd e gd y n False) : gdd e gd y' n' False := by
  cases gd with
  | none => exact h1 H
  | some p =>
    obtain ⟨s, w⟩ := p
    simp only [gdd] at H ⊢
    split at H
    · split at H
      · rename_i hc; rw [if_pos hc]; exact h1 H
      · rename_i hc; rw [if_neg hc]; exact h2 H
    · exact h2 H
    · exact H

theorem snil_mono {neg : Bool} {x : Option AV} {k k' : AV → Prop} (h : ∀ v, k v → k' v) (H : snilStep neg x k) : snilStep neg x k' := by
  unfold snilStep at H ⊢
  split at H
  · split at H
    · rename_i hc; rw [if_pos hc]; exact h _ H
    · rename_i hc; rw [if_neg hc]; exact fun b => h _ (H b)
  · exact h _ H
  · exact H

theorem ostep_snil_mono {P : Program} {o : SO} (ho : o.kind = .snil) {d : Option Nat} {rc : RC} {K K' : Env → Loc → Tab → Prop} {e e' : Env} {L L' : Loc} {T : Tab} (he : EqE e e')
    (h : ∀ v, K (eset e d v) L T → K' (eset e' d v) L' T) (H : ostep P o d rc K e L T) : ostep P o d rc K' e' L' T := by
  cases o <;> simp only [SO.kind] at ho <;> first
    | (cases ho; done)
    | skip
  simp only [ostep, SO.kind] at H ⊢
  rw [← opdV_ag (he.ag _)]
  exact snil_mono h H

/-- What is asked behind may be said otherwise, and be weaker. -/
theorem gstep_mono {P : Program} {o : SOp} {K K' : Env → Loc → Tab → Prop} {e e' : Env} {L L' : Loc} {T : Tab} (he : EqE e e') (hl : EqL L L')
    (h : ∀ e e' L L' T, EqE e e' → EqL L L' → K e L T → K' e' L' T) (H : gstep P o K e L T) : gstep P o K' e' L' T := by
  unfold gstep at H ⊢
  split at H
  · rw [← gvev_ext he hl T]
    split at H
    · exact h _ _ _ _ _ (he.eset _ _) hl H
    · exact H
  · have hq : Eq2 (gdd e o.gd (lev o.op o.dst e L) (some (eset e o.dst (.tup []), L)) none) (gdd e' o.gd (lev o.op o.dst e' L') (some (eset e' o.dst (.tup []), L')) none) := by
      have hlv := lev_ext (o := o.op) (d := o.dst) he hl
      have hn : Eq2 (some (eset e o.dst (.tup []), L)) (some (eset e' o.dst (.tup []), L')) := ⟨he.eset _ _, hl⟩
      cases o.gd with
      | none => exact hlv
      | some p =>
        obtain ⟨s, w⟩ := p
        simp only [gdd, he s]
        split
        · split
          · exact hlv
          · exact hn
        · exact hn
        · trivial
    split at H
    · rename_i e1 l1 heq
      rw [heq] at hq
      split
      · rename_i e2 l2 heq2
        rw [heq2] at hq
        exact h _ _ _ _ _ hq.1 hq.2 H
      · rename_i heq2
        rw [heq2] at hq
        exact hq
    · exact H.elim
  · rw [gdd_ag (he.ag _)] at H
    refine gdd_mono (fun H => ?_) (fun H => ⟨rcOk_ext (he.eset _ _) hl T H.1, h _ _ _ _ _ (he.eset _ _) hl H.2⟩) H
    rw [tst_ag (he.ag _)] at H
    exact tst_mono (fun v T' hv hlp => ⟨rcOk_ext (he.eset _ _) hl T' (hv hlp).1, h _ _ _ _ _ (he.eset _ _) hl (hv hlp).2⟩) H
  · rename_i hk
    rw [gdd_ag (he.ag _)] at H
    exact gdd_mono (fun H => ostep_snil_mono hk he (fun v hv => h _ _ _ _ _ (he.eset _ _) hl hv) H) (fun H => h _ _ _ _ _ (he.eset _ _) hl H) H

theorem opsG_ext {P : Program} {K : Env → Loc → Tab → Prop} (hK : ExtK K) : ∀ l, ExtK (opsG P l K)
  | [] => hK
  | _ :: l => fun _ _ _ _ _ he hl H => gstep_mono he hl (fun _ _ _ _ _ h1 h2 h3 => opsG_ext hK l _ _ _ _ _ h1 h2 h3) H


/-! ### Two operations in either order -/
theorem eset_comm (e : Env) {d d' : Option Nat} (h : d ≠ d' ∨ d = none) (x y : AV) : EqE (eset (eset e d x) d' y) (eset (eset e d' y) d x) := by
  cases d with
  | none => exact fun _ => rfl
  | some d =>
    cases d' with
    | none => exact fun _ => rfl
    | some d' =>
      have hne : d ≠ d' := by
        rcases h with h | h
        · exact fun e => h (by rw [e])
        · cases h
      intro s
      simp only [eset, aget_aset]
      by_cases h1 : d' = s
      · subst h1; simp [hne]
      · simp [h1]

theorem ag_eset {S : List Nat} (e : Env) {d : Option Nat} (h : ∀ k, d = some k → k ∉ S) (x : AV) : Ag S (eset e d x) e := by
  cases d with
  | none => exact fun _ _ => rfl
  | some d =>
    intro s hs
    simp only [eset, aget_aset]
    rw [if_neg]
    rintro rfl
    exact h d rfl hs

theorem opdV_plain {e : Env} {o : Operand} {x : AV} (h : opdV e o = some x) : x.plain = true := by
  simp only [opdV] at h
  cases ho : opd e o with
  | none => simp [ho] at h
  | some y =>
    simp only [ho] at h
    split at h
    · injection h with h; subst h; assumption
    · cases h

theorem opdL_lp {e : Env} {l : Option Nat} {o : Operand} {x : AV} (h : opdL e l o = some x) : x.plain = true ∨ ∃ l' p, l = some l' ∧ x = .lp l' p := by
  cases l with
  | none => exact .inl (opdV_plain h)
  | some l =>
    simp only [opdL] at h
    cases ho : opd e o with
    | none => simp [ho] at h
    | some y =>
      cases y <;> simp only [ho] at h <;> first | (cases h; done) | skip
      split at h
      · rename_i e; subst e; injection h with h; subst h; exact .inr ⟨_, _, rfl, rfl⟩
      · cases h

/-- A place in a local variable comes out of an operation that handles it alone. -/
theorem vev_lp {o : SO} {e : Env} {L : Loc} {T : Tab} {l p : Nat} (h : vev o e L T = some (.lp l p)) : o.lpd = some l := by
  have pl : ∀ {x : AV}, x.plain = true → x ≠ .lp l p := fun hx e => by subst e; simp [AV.plain] at hx
  have ldc : ∀ {sz cells k}, ldCells sz cells k ≠ some (.lp l p) := fun {sz cells k} h => by
    cases sz with
    | none => exact pl (plainO_some h).2 rfl
    | some n => simp only [ldCells] at h; split at h <;> cases h
  cases o <;> simp only [vev, pev] at h
  case mv x => exact absurd rfl (pl (opdV_plain h))
  case pick c x y =>
    obtain ⟨cv, _, h⟩ := bind_some h
    cases cv <;> simp only [pickAv] at h <;> first | (cases h; done) | skip
    split at h
    · exact absurd rfl (pl (opdV_plain h))
    · exact absurd rfl (pl (opdV_plain h))
  case bin op x y =>
    obtain ⟨u, _, h⟩ := bind_some h
    obtain ⟨v, _, h⟩ := bind_some h
    cases u <;> cases v <;> simp only [binAv] at h <;> first | (cases h; done) | skip
    · split at h
      · simp only [binShift] at h; split at h <;> cases h
      · simp only [binShift] at h; split at h <;> cases h
      · split at h
        · cases op <;> simp only [binInt] at h <;> first | (cases h; done) | (split at h <;> cases h)
        · cases h
    · cases op <;> simp only [binStr] at h <;> first | (cases h; done) | (split at h <;> cases h)
  case eq neg k x y =>
    obtain ⟨u, _, h⟩ := bind_some h
    obtain ⟨v, _, h⟩ := bind_some h
    obtain ⟨r, _, h⟩ := map_some h
    cases h
  case un op x =>
    obtain ⟨u, _, h⟩ := bind_some h
    cases op <;> cases u <;> simp only [unAv] at h <;> cases h
  case cvi k x =>
    obtain ⟨u, _, h⟩ := bind_some h
    cases u <;> simp only [wrapAv] at h <;> cases h
  case b2s x =>
    obtain ⟨u, _, h⟩ := bind_some h
    obtain ⟨c, _, h⟩ := bind_some h
    cases u <;> simp only at h <;> first | (cases h; done) | (obtain ⟨r, _, h⟩ := map_some h; cases h)
  case s2b x =>
    obtain ⟨u, _, h⟩ := bind_some h
    cases u <;> simp only at h <;> cases h
  case cvs x =>
    obtain ⟨u, _, h⟩ := bind_some h
    cases u <;> simp only at h <;> cases h
  case ifc t x => obtain ⟨u, _, h⟩ := map_some h; cases h
  case mkfn f a b =>
    obtain ⟨u, _, h⟩ := bind_some h
    obtain ⟨v, _, h⟩ := map_some h
    cases h
  case slc esz x lo hi mx =>
    obtain ⟨u, _, h⟩ := bind_some h
    obtain ⟨a, _, h⟩ := bind_some h
    obtain ⟨b, _, h⟩ := bind_some h
    obtain ⟨c, _, h⟩ := bind_some h
    cases u <;> simp only [slcAv] at h <;> first | (cases h; done) | skip
    · split at h <;> first | (cases h; done) | (split at h <;> cases h)
    · split at h
      · split at h
        · split at h <;> first | (cases h; done) | (split at h <;> first | (cases h; done) | (split at h <;> cases h))
        · cases h
      · cases h
  case slcs x lo hi =>
    obtain ⟨u, _, h⟩ := bind_some h
    obtain ⟨a, _, h⟩ := bind_some h
    obtain ⟨b, _, h⟩ := bind_some h
    cases u <;> simp only [slcStr] at h <;> first | (cases h; done) | skip
    split at h <;> first | (cases h; done) | (split at h <;> cases h)
  case fadr l' off x =>
    obtain ⟨u, hu, h⟩ := bind_some h
    rcases opdL_lp hu with hp | ⟨l2, p2, rfl, rfl⟩
    · cases u <;> simp only [fadrAv] at h <;> first | (cases h; done) | (simp [AV.plain] at hp)
    · simp only [fadrAv] at h; injection h with h; injection h with h; subst h; rfl
  case fld off sz x =>
    obtain ⟨u, _, h⟩ := bind_some h
    cases u <;> simp only [fldAv] at h <;> first | (cases h; done) | (exact absurd h ldc)
  case iadr l' esz alen x i =>
    obtain ⟨u, hu, h⟩ := bind_some h
    obtain ⟨v, _, h⟩ := bind_some h
    rcases opdL_lp hu with hp | ⟨l2, p2, rfl, rfl⟩
    · cases u <;> simp only [iadrAv] at h <;> first
        | (cases h; done)
        | (simp [AV.plain] at hp; done)
        | (split at h <;> first | (cases h; done) | (split at h <;> cases h))
    · simp only [iadrAv] at h
      split at h
      · split at h
        · injection h with h; injection h with h; subst h; rfl
        · cases h
      · cases h
  case idxs x i =>
    obtain ⟨u, _, h⟩ := bind_some h
    obtain ⟨v, _, h⟩ := bind_some h
    cases u <;> simp only [idxStr] at h <;> first | (cases h; done) | skip
    cases v <;> simp only at h <;> first | (cases h; done) | skip
    split at h
    · obtain ⟨_, _, h⟩ := map_some h; cases h
    · cases h
  case idxa esz sz n x i =>
    obtain ⟨u, _, h⟩ := bind_some h
    obtain ⟨v, _, h⟩ := bind_some h
    cases u <;> simp only [idxAv] at h <;> first | (cases h; done) | skip
    cases v <;> simp only at h <;> first | (cases h; done) | skip
    split at h
    · exact absurd h ldc
    · cases h
  case cap x =>
    obtain ⟨u, _, h⟩ := bind_some h
    unfold capAv at h
    split at h <;> cases h
  case ext i x =>
    obtain ⟨u, _, h⟩ := bind_some h
    cases u <;> simp only [extAv] at h <;> first | (cases h; done) | (exact absurd rfl (pl (plainO_some h).2))
  case len str x =>
    obtain ⟨u, _, h⟩ := bind_some h
    cases u <;> simp only [lenAv] at h <;> first | (cases h; done) | (split at h <;> cases h)
  case mnx mx x y =>
    obtain ⟨u, _, h⟩ := bind_some h
    obtain ⟨v, _, h⟩ := bind_some h
    cases u <;> cases v <;> simp only [mnxAv] at h <;> cases h
  case nilck l' x =>
    obtain ⟨u, hu, h⟩ := bind_some h
    rcases opdL_lp hu with hp | ⟨l2, p2, rfl, rfl⟩
    · cases u <;> simp only [nilckAv] at h <;> first | (cases h; done) | (simp [AV.plain] at hp)
    · simp only [nilckAv] at h; injection h with h; injection h with h; subst h; rfl
  case bld z ps => obtain ⟨_, _, h⟩ := map_some h; cases h
  case bsl n esz z ps => obtain ⟨_, _, h⟩ := map_some h; cases h
  case ld sz x =>
    obtain ⟨u, _, h⟩ := bind_some h
    cases u <;> simp only [ldAv] at h <;> first | (cases h; done) | skip
    · split at h <;> first | (exact absurd h ldc) | (cases h)
    · exact absurd h ldc
  case lld l' sz x =>
    obtain ⟨u, _, h⟩ := bind_some h
    cases u <;> simp only [lldAv] at h <;> first | (cases h; done) | skip
    split at h
    · split at h
      · exact absurd h ldc
      · cases h
    · cases h
  case fbox x =>
    obtain ⟨u, _, h⟩ := bind_some h
    split at h <;> cases h
  all_goals cases h


/-- The local variable that an operation writes. -/
def SOp.lw (o : SOp) : Option Nat :=
  match o.op with
  | .lalloc _ | .lbox _ => o.dst
  | .lst l _ _ _ => some l
  | _ => none

def elooks (e : Nat × SO × Option (Nat × Bool)) : List Nat := e.2.1.looks ++ (match e.2.2 with | some (s, _) => [s] | none => [])

def rcKeep (d : Option Nat) (rc : RC) : RC := rc.filter fun e => match d with
  | some k => e.1 != k && !(elooks e).contains k
  | none => true

/-- What is still to be asked for again, where 'y' comes behind. -/
def nextRc (y : SOp) (rc : RC) : RC := if y.op.kind = .leff then [] else rcKeep y.dst rc

def notIn (d : Option Nat) (S : List Nat) : Bool :=
  match d with
  | some k => !S.contains k
  | none => true

theorem notIn_spec {d : Option Nat} {S : List Nat} (h : notIn d S = true) : ∀ k, d = some k → k ∉ S := by
  rintro k rfl
  simpa [notIn] using h

/-- What is loaded ahead, and asked for again behind. -/
def hasRc (y : SOp) (rc : RC) : Prop := ∃ k, y.dst = some k ∧ (k, y.op, y.gd) ∈ rc

structure Apart (y x : SOp) : Prop where
  yx : ∀ k, y.dst = some k → k ∉ x.looks
  xy : ∀ k, x.dst = some k → k ∉ y.looks
  ne : y.dst ≠ x.dst ∨ y.dst = none

theorem gvev_ag {o : SO} {gd : Option (Nat × Bool)} {e e' : Env} (h : Ag (o.looks ++ (match gd with | some (s, _) => [s] | none => [])) e e') (L : Loc) (T : Tab) : gvev o gd e L T = gvev o gd e' L T := by
  simp only [gvev, vev_ag h.left, gdd_ag h.right]

theorem gvev_lp {o : SO} {gd : Option (Nat × Bool)} {e : Env} {L : Loc} {T : Tab} {l p : Nat} (h : gvev o gd e L T = some (.lp l p)) : o.lpd = some l := by
  cases gd with
  | none => exact vev_lp h
  | some q =>
    obtain ⟨s, w⟩ := q
    simp only [gvev, gdd] at h
    split at h
    · split at h
      · exact vev_lp h
      · cases h
    · cases h
    · cases h

theorem offLp_of {x : AV} {l : Nat} (h : ∀ p, x ≠ .lp l p) : x.offLp l = x := by
  cases x <;> simp only [AV.offLp]
  rename_i l' p
  by_cases e : l' = l
  · subst e; exact absurd rfl (h p)
  · rw [if_neg e]

def glv (o : SOp) (e : Env) (L : Loc) : Option (Env × Loc) := gdd e o.gd (lev o.op o.dst e L) (some (eset e o.dst (.tup []), L)) none

theorem lev_set {x : SOp} {e : Env} {L : Loc} {d : Option Nat} {v : AV} (h1 : ∀ k, d = some k → k ∉ x.looks) (h2 : d ≠ x.dst ∨ d = none) (h3 : ∀ l p, x.lw = some l → v ≠ .lp l p) :
    Eq2 (glv x (eset e d v) L) ((glv x e L).map fun q => (eset q.1 d v, q.2)) := by
  have hag : Ag x.op.looks (eset e d v) e := ag_eset e (fun k hk hm => h1 k hk (List.mem_append_left _ hm)) v
  have hgd : Ag (match x.gd with | some (s, _) => [s] | none => []) (eset e d v) e := ag_eset e (fun k hk hm => h1 k hk (List.mem_append_right _ hm)) v
  have hnew : ∀ l, x.lw = some l → x.dst = some l → EqE (aset (dropLp (eset e d v) l) l (.lp l 0)) (eset (aset (dropLp e l) l (.lp l 0)) d v) := by
    intro l hl hdl s
    cases d with
    | none => rfl
    | some k =>
      have hkl : k ≠ l := by
        rcases h2 with h2 | h2
        · intro e; exact h2 (by rw [e, hdl])
        · cases h2
      simp only [eset, aget_aset, aget_dropLp]
      by_cases e1 : l = s
      · subst e1; simp [hkl]
      · by_cases e2 : k = s
        · subst e2
          simp only [e1, if_false, if_true, Option.map_some]
          rw [offLp_of (fun p => h3 l p hl)]
        · simp [e1, e2]
  have hskip : EqE (eset (eset e d v) x.dst (.tup [])) (eset (eset e x.dst (.tup [])) d v) := eset_comm e h2 v _
  have hlev : Eq2 (lev x.op x.dst (eset e d v) L) ((lev x.op x.dst e L).map fun q => (eset q.1 d v, q.2)) := by
    obtain ⟨dst, op, gd, rc⟩ := x
    simp only at hag hnew hskip h2 ⊢
    cases op <;> simp only [lev, Option.map_none] <;> first
      | trivial
      | skip
    · rename_i l sz p q
      rw [opdL_ag (fun s hs => hag s (List.mem_append_left _ hs)), opdV_ag (fun s hs => hag s (List.mem_append_right _ hs))]
      cases opdL e (some l) p with
      | none => trivial
      | some pv =>
      cases opdV e q with
      | none => trivial
      | some qv =>
      cases pv <;> simp only [Option.bind_some] <;> first | trivial | skip
      cases aget L l with
      | none => trivial
      | some cells =>
        simp only [Option.bind_some]
        split
        · exact ⟨hskip, fun _ => rfl⟩
        · trivial
    · cases dst with
      | none => trivial
      | some l => exact ⟨hnew l rfl rfl, fun _ => rfl⟩
    · rename_i q
      cases dst with
      | none => trivial
      | some l =>
      simp only [Option.bind_some]
      rw [opdV_ag hag]
      cases opdV e q with
      | none => trivial
      | some qv =>
        simp only [Option.bind_some]
        split
        · exact ⟨hnew l rfl rfl, fun _ => rfl⟩
        · trivial
  unfold glv
  rw [gdd_ag hgd]
  cases x.gd with
  | none => exact hlev
  | some q =>
    obtain ⟨s, w⟩ := q
    simp only [gdd]
    split
    · split
      · exact hlev
      · exact ⟨hskip, fun _ => rfl⟩
    · exact ⟨hskip, fun _ => rfl⟩
    · trivial

/-- What an operation does to local variables does not touch what reads others. -/
theorem glv_keeps {x : SOp} {e e2 : Env} {L L1 : Loc} (h0 : glv x e L = some (e2, L1)) {S : List Nat} (hS : ∀ k, x.dst = some k → k ∉ S) :
    (∃ l, x.lw = some l ∧ (∀ l', l' ≠ l → aget L1 l' = aget L l') ∧ (Ag S e2 (dropLp e l) ∨ Ag S e2 e)) ∨ (L1 = L ∧ Ag S e2 e) := by
  have hskip : Ag S (eset e x.dst (.tup [])) e := ag_eset e hS _
  have hlev : ∀ e2 L1, lev x.op x.dst e L = some (e2, L1) → (∃ l, x.lw = some l ∧ (∀ l', l' ≠ l → aget L1 l' = aget L l') ∧ (Ag S e2 (dropLp e l) ∨ Ag S e2 e)) := by
    clear h0 e2 L1
    intro e2 L1 h
    obtain ⟨dst, op, gd, rc⟩ := x
    simp only at h hskip hS
    cases op <;> simp only [lev] at h <;> first | (cases h; done) | skip
    case lst l sz p q =>
      obtain ⟨pv, _, h1⟩ := bind_some h
      obtain ⟨qv, _, h2⟩ := bind_some h1
      cases pv <;> simp only at h2 <;> first | (cases h2; done) | skip
      obtain ⟨cells, _, h3⟩ := bind_some h2
      split at h3
      · injection h3 with h3
        obtain ⟨e1, e2'⟩ := Prod.mk.inj h3
        subst e1; subst e2'
        exact ⟨l, rfl, fun l' hl => by rw [aget_aset, if_neg (fun e => hl e.symm)], .inr hskip⟩
      · cases h3
    case lalloc zero =>
      obtain ⟨l, rfl, h1⟩ := map_some h
      obtain ⟨e1, e2'⟩ := Prod.mk.inj h1
      subst e1; subst e2'
      exact ⟨l, rfl, fun l' hl => by rw [aget_aset, if_neg (fun e => hl e.symm)], .inl (ag_eset (d := some l) (dropLp e l) hS _)⟩
    case lbox y =>
      obtain ⟨l, rfl, h1⟩ := bind_some h
      obtain ⟨qv, _, h2⟩ := bind_some h1
      split at h2
      · injection h2 with h2
        obtain ⟨e1, e2'⟩ := Prod.mk.inj h2
        subst e1; subst e2'
        exact ⟨l, rfl, fun l' hl => by rw [aget_aset, if_neg (fun e => hl e.symm)], .inl (ag_eset (d := some l) (dropLp e l) hS _)⟩
      · cases h2
  unfold glv at h0
  cases hg : x.gd with
  | none => rw [hg] at h0; exact .inl (hlev _ _ h0)
  | some q =>
    rw [hg] at h0
    obtain ⟨s, w⟩ := q
    simp only [gdd] at h0
    split at h0
    · split at h0
      · exact .inl (hlev _ _ h0)
      · injection h0 with h0; obtain ⟨e1, e2'⟩ := Prod.mk.inj h0; subst e1; subst e2'; exact .inr ⟨rfl, hskip⟩
    · injection h0 with h0; obtain ⟨e1, e2'⟩ := Prod.mk.inj h0; subst e1; subst e2'; exact .inr ⟨rfl, hskip⟩
    · cases h0

theorem gvev_drop {o : SO} {gd : Option (Nat × Bool)} {l : Nat} (h : o.lpd ≠ some l) (e : Env) (L : Loc) (T : Tab) : gvev o gd (dropLp e l) L T = gvev o gd e L T := by
  simp only [gvev, vev_drop h, gdd_drop]
theorem gvev_L {o : SO} {gd : Option (Nat × Bool)} {L L' : Loc} (h : ∀ l, o.lpd = some l → aget L l = aget L' l) (e : Env) (T : Tab) : gvev o gd e L T = gvev o gd e L' T := by
  simp only [gvev, vev_L h]
theorem gvev_T {o : SO} {gd : Option (Nat × Bool)} (h : o.readsT = false) (e : Env) (L : Loc) (T T' : Tab) : gvev o gd e L T = gvev o gd e L T' := by
  simp only [gvev, vev_T h e L T T']

theorem gvev_glv {x y : SOp} {e e2 : Env} {L L1 : Loc} (h : glv x e L = some (e2, L1)) (hS : ∀ k, x.dst = some k → k ∉ y.looks) (hl : ∀ l, x.lw = some l → y.op.lpd ≠ some l) (T : Tab) :
    gvev y.op y.gd e2 L1 T = gvev y.op y.gd e L T := by
  rcases glv_keeps h hS with ⟨l, h1, h2, h3⟩ | ⟨rfl, h3⟩
  · have hne := hl l h1
    rw [gvev_L (L := L1) (L' := L) (fun l' hl' => h2 l' (fun e => hne (by rw [hl', e])))]
    rcases h3 with h3 | h3
    · rw [gvev_ag h3, gvev_drop hne]
    · rw [gvev_ag h3]
  · rw [gvev_ag h3]


/-- May 'x' go ahead of 'y', which is listed ahead of it? -/
inductive Swaps (y x : SOp) : Prop where
  | vv : y.op.kind = .val → x.op.kind = .val → Swaps y x
  | vl : y.op.kind = .val → x.op.kind = .leff → (∀ l, x.lw = some l → y.op.lpd ≠ some l) → Swaps y x
  | lv : y.op.kind = .leff → x.op.kind = .val → (∀ l, y.lw = some l → x.op.lpd ≠ some l) → Swaps y x
  | vt : y.op.kind = .val → x.op.kind = .teff → (y.op.readsT = false ∨ hasRc y x.rc) → Swaps y x
  | lt : y.op.kind = .leff → x.op.kind = .teff → Swaps y x
  | ll (zy zx : List AV) : y.op = .lalloc zy → x.op = .lalloc zx → y.gd = none → x.gd = none → y.dst ≠ none → Swaps y x

theorem gstep_val {P : Program} {o : SOp} (h : o.op.kind = .val) (K : Env → Loc → Tab → Prop) (e : Env) (L : Loc) (T : Tab) : gstep P o K e L T = match gvev o.op o.gd e L T with
    | some x => K (eset e o.dst x) L T
    | none => False := by
  unfold gstep; simp only [h]; rfl
theorem gstep_leff {P : Program} {o : SOp} (h : o.op.kind = .leff) (K : Env → Loc → Tab → Prop) (e : Env) (L : Loc) (T : Tab) : gstep P o K e L T = match glv o e L with
    | some (e, l) => K e l T
    | none => False := by
  unfold gstep glv; simp only [h]; rfl
theorem gstep_teff {P : Program} {o : SOp} (h : o.op.kind = .teff) (K : Env → Loc → Tab → Prop) (e : Env) (L : Loc) (T : Tab) : gstep P o K e L T =
    gdd e o.gd (tst P o.op e T fun v T' => v.isLp = false → rcOk (eset e o.dst v) L T' o.rc ∧ K (eset e o.dst v) L T')
      (rcOk (eset e o.dst (.tup [])) L T o.rc ∧ K (eset e o.dst (.tup [])) L T) False := by
  unfold gstep; simp only [h]

theorem rcOk_mem {e : Env} {L : Loc} {T : Tab} : ∀ {rc : RC}, rcOk e L T rc → ∀ p ∈ rc, gvev p.2.1 p.2.2 e L T = aget e p.1
  | (_, _, _) :: _, h, p, hp => by
    rcases List.mem_cons.1 hp with rfl | hp
    · exact h.1
    · exact rcOk_mem h.2 p hp

theorem rcOk_of {e : Env} {L : Loc} {T : Tab} : ∀ {rc : RC}, (∀ p ∈ rc, gvev p.2.1 p.2.2 e L T = aget e p.1) → rcOk e L T rc
  | [], _ => trivial
  | (_, _, _) :: _, h => ⟨h _ (List.mem_cons_self ..), rcOk_of fun p hp => h p (List.mem_cons_of_mem _ hp)⟩

theorem swap {P : Program} {y x : SOp} (ha : Apart y x) (hyy : ∀ k, y.dst = some k → k ∉ y.looks) (hs : Swaps y x) {K : Env → Loc → Tab → Prop} (hK : ExtK K) {e : Env} {L : Loc} {T : Tab} (H : gstep P y (gstep P x K) e L T) :
    gstep P { x with rc := nextRc y x.rc } (gstep P y K) e L T := by
  cases hs with
  | vv ky kx =>
    rw [gstep_val ky] at H
    cases hy : gvev y.op y.gd e L T with
    | none => simp [hy] at H
    | some vy =>
    simp only [hy] at H
    rw [gstep_val kx] at H
    cases hx : gvev x.op x.gd (eset e y.dst vy) L T with
    | none => simp [hx] at H
    | some vx =>
    simp only [hx] at H
    rw [gstep_val (o := { x with rc := nextRc y x.rc }) kx]
    simp only
    rw [gvev_ag (e' := e) (ag_eset e (fun k hk => ha.yx k hk) vy)] at hx
    rw [hx]
    simp only
    rw [gstep_val ky, gvev_ag (e' := e) (ag_eset e (fun k hk => ha.xy k hk) vx), hy]
    exact hK _ _ _ _ _ (eset_comm e ha.ne vy vx) (fun _ => rfl) H
  | vl ky kx hl =>
    rw [gstep_val ky] at H
    cases hy : gvev y.op y.gd e L T with
    | none => simp [hy] at H
    | some vy =>
    simp only [hy] at H
    rw [gstep_leff kx] at H
    have hq := lev_set (x := x) (e := e) (L := L) (d := y.dst) (v := vy) ha.yx ha.ne (fun l p hlw e => by subst e; exact hl l hlw (gvev_lp hy))
    rw [gstep_leff (o := { x with rc := nextRc y x.rc }) kx]
    have hgl : glv { x with rc := nextRc y x.rc } e L = glv x e L := rfl
    rw [hgl]
    cases hx : glv x e L with
    | none =>
      rw [hx] at hq
      cases hx' : glv x (eset e y.dst vy) L with
      | none => simp [hx'] at H
      | some q => rw [hx'] at hq; exact hq.elim
    | some q =>
      obtain ⟨e2, L1⟩ := q
      rw [hx] at hq
      cases hx' : glv x (eset e y.dst vy) L with
      | none => simp [hx'] at H
      | some q' =>
        obtain ⟨e1, L1'⟩ := q'
        rw [hx'] at hq
        simp only [hx'] at H
        simp only
        rw [gstep_val ky, gvev_glv hx ha.xy hl T, hy]
        exact hK _ _ _ _ _ hq.1 hq.2 H
  | lv ky kx hl =>
    rw [gstep_leff ky] at H
    cases hy : glv y e L with
    | none => simp [hy] at H
    | some q =>
    obtain ⟨e1, L1⟩ := q
    simp only [hy] at H
    rw [gstep_val kx, gvev_glv hy ha.yx hl T] at H
    rw [gstep_val (o := { x with rc := nextRc y x.rc }) kx]
    simp only
    cases hx : gvev x.op x.gd e L T with
    | none => simp [hx] at H
    | some vx =>
    simp only [hx] at H ⊢
    have hne : x.dst ≠ y.dst ∨ x.dst = none := by
      rcases ha.ne with h | h
      · exact .inl (fun e => h e.symm)
      · by_cases hx0 : x.dst = none
        · exact .inr hx0
        · exact .inl (fun e => hx0 (by rw [e, h]))
    have hq := lev_set (x := y) (e := e) (L := L) (d := x.dst) (v := vx) ha.xy hne (fun l p hlw e => by subst e; exact hl l hlw (gvev_lp hx))
    rw [gstep_leff ky]
    rw [hy] at hq
    cases hy' : glv y (eset e x.dst vx) L with
    | none => rw [hy'] at hq; exact hq.elim
    | some q' =>
      obtain ⟨e2, L2⟩ := q'
      rw [hy'] at hq
      exact hK _ _ _ _ _ (fun s => (hq.1 s).symm) (fun s => (hq.2 s).symm) H
  | vt ky kx hr =>
    rw [gstep_val ky] at H
    cases hy : gvev y.op y.gd e L T with
    | none => simp [hy] at H
    | some vy =>
    simp only [hy] at H
    rw [gstep_teff kx] at H
    rw [gstep_teff (o := { x with rc := nextRc y x.rc }) kx]
    simp only
    have hagx : Ag x.looks (eset e y.dst vy) e := ag_eset e (fun k hk => ha.yx k hk) vy
    rw [gdd_ag (fun s hs => hagx s (List.mem_append_right _ hs)), tst_ag (fun s hs => hagx s (List.mem_append_left _ hs))] at H
    have key : ∀ v T', rcOk (eset (eset e y.dst vy) x.dst v) L T' x.rc ∧ K (eset (eset e y.dst vy) x.dst v) L T' →
        (y.op.readsT = false → ∀ T1, gvev y.op y.gd e L T1 = some vy) →
        rcOk (eset e x.dst v) L T' (nextRc y x.rc) ∧ gstep P y K (eset e x.dst v) L T' := by
      intro v T' ⟨h1, h2⟩ hind
      refine ⟨rcOk_of fun p hp => ?_, ?_⟩
      · rw [nextRc, ky, if_neg (by decide), rcKeep, List.mem_filter] at hp
        have := rcOk_mem h1 p hp.1
        cases hd : y.dst with
        | none => simp only [hd, eset] at this; exact this
        | some k =>
          have hp2 := hp.2
          simp only [hd, Bool.and_eq_true, bne_iff_ne, ne_eq, Bool.not_eq_true'] at hp2
          have hne : k ∉ elooks p := by simpa using hp2.2
          rw [hd] at this
          have hq := eset_comm e (d := some k) (d' := x.dst) (by rw [← hd]; exact ha.ne) vy v
          rw [gvev_ag (e' := eset (eset e x.dst v) (some k) vy) (hq.ag _), hq p.1] at this
          rw [gvev_ag (e' := eset e x.dst v) (ag_eset _ (fun k' hk' => by injection hk' with hk'; subst hk'; exact hne) vy)] at this
          rw [this]
          simp only [eset, aget_aset]
          rw [if_neg (fun e => hp2.1 e.symm)]
      · rw [gstep_val ky]
        have hv : gvev y.op y.gd (eset e x.dst v) L T' = some vy := by
          rw [gvev_ag (e' := e) (ag_eset e (fun k hk => ha.xy k hk) v)]
          rcases hr with hr | ⟨k, hk, hm⟩
          · exact hind hr T'
          · have := rcOk_mem h1 _ hm
            simp only at this
            have hq := eset_comm e (d := y.dst) (d' := x.dst) ha.ne vy v
            rw [gvev_ag (e' := eset (eset e x.dst v) y.dst vy) (hq.ag _), hq k] at this
            rw [gvev_ag (e' := eset e x.dst v) (ag_eset _ hyy vy), gvev_ag (e' := e) (ag_eset e (fun k hk => ha.xy k hk) v), hk] at this
            simp only [eset, aget_aset, if_true] at this
            exact this
        rw [hv]
        exact hK _ _ _ _ _ (eset_comm e ha.ne vy v) (fun _ => rfl) h2
    have hind : y.op.readsT = false → ∀ T1, gvev y.op y.gd e L T1 = some vy := fun h T1 => by rw [gvev_T h e L T1 T, hy]
    exact gdd_mono (fun h => tst_mono (fun v T' hv hlp => key v T' (hv hlp) hind) h) (fun h => key _ _ h hind) H
  | lt ky kx =>
    rw [gstep_leff ky] at H
    cases hy : glv y e L with
    | none => simp [hy] at H
    | some q =>
    obtain ⟨e1, L1⟩ := q
    simp only [hy] at H
    rw [gstep_teff kx] at H
    rw [gstep_teff (o := { x with rc := nextRc y x.rc }) kx]
    simp only
    have hne : x.dst ≠ y.dst ∨ x.dst = none := by
      rcases ha.ne with h | h
      · exact .inl (fun e => h e.symm)
      · by_cases hx0 : x.dst = none
        · exact .inr hx0
        · exact .inl (fun e => hx0 (by rw [e, h]))
    have hev : (∀ k, tst P x.op e1 T k = tst P x.op e T k) ∧ (∀ (p q : Prop), gdd e1 x.gd p q False = gdd e x.gd p q False) := by
      rcases glv_keeps hy ha.yx with ⟨l, _, _, h3⟩ | ⟨_, h3⟩
      · rcases h3 with h3 | h3
        · exact ⟨fun k => by rw [tst_ag (fun s hs => h3 s (List.mem_append_left _ hs)), tst_drop], fun p q => by rw [gdd_ag (fun s hs => h3 s (List.mem_append_right _ hs)), gdd_drop]⟩
        · exact ⟨fun k => by rw [tst_ag (fun s hs => h3 s (List.mem_append_left _ hs))], fun p q => by rw [gdd_ag (fun s hs => h3 s (List.mem_append_right _ hs))]⟩
      · exact ⟨fun k => by rw [tst_ag (fun s hs => h3 s (List.mem_append_left _ hs))], fun p q => by rw [gdd_ag (fun s hs => h3 s (List.mem_append_right _ hs))]⟩
    rw [hev.2, hev.1] at H
    have key : ∀ v T', v.isLp = false → K (eset e1 x.dst v) L1 T' → gstep P y K (eset e x.dst v) L T' := by
      intro v T' hlp hk
      have hq := lev_set (x := y) (e := e) (L := L) (d := x.dst) (v := v) ha.xy hne (fun l p _ e => by subst e; cases hlp)
      rw [gstep_leff ky]
      rw [hy] at hq
      cases hy' : glv y (eset e x.dst v) L with
      | none => rw [hy'] at hq; exact hq.elim
      | some q' =>
        obtain ⟨e2, L2⟩ := q'
        rw [hy'] at hq
        exact hK _ _ _ _ _ (fun s => (hq.1 s).symm) (fun s => (hq.2 s).symm) hk
    have hrc : nextRc y x.rc = [] := by rw [nextRc, ky, if_pos rfl]
    rw [hrc]
    exact gdd_mono (fun h => tst_mono (fun v T' hv hlp => ⟨trivial, key v T' hlp (hv hlp).2⟩) h) (fun h => ⟨trivial, key _ _ rfl h.2⟩) H
  | ll zy zx hy hx gy gx hd =>
    have ky : y.op.kind = .leff := by rw [hy]; rfl
    have kx : x.op.kind = .leff := by rw [hx]; rfl
    rw [gstep_leff ky] at H
    rw [gstep_leff (o := { x with rc := nextRc y x.rc }) kx]
    cases dy : y.dst with
    | none => exact absurd dy hd
    | some ly =>
    cases dx : x.dst with
    | none =>
      have h1 : ∀ e L, glv x e L = none := fun e L => by simp [glv, gx, gdd, hx, lev, dx]
      have h2 : glv y e L = some (aset (dropLp e ly) ly (.lp ly 0), aset L ly zy) := by simp [glv, gy, gdd, hy, lev, dy]
      simp only [h2, gstep_leff kx, h1] at H
    | some lx =>
      have hne : ly ≠ lx := by
        rcases ha.ne with h | h
        · intro e; exact h (by rw [dy, dx, e])
        · exact absurd h hd
      have h1 : ∀ e L, glv x e L = some (aset (dropLp e lx) lx (.lp lx 0), aset L lx zx) := fun e L => by simp [glv, gx, gdd, hx, lev, dx]
      have h1' : glv { dst := some lx, op := x.op, gd := x.gd, rc := nextRc y x.rc } e L = some (aset (dropLp e lx) lx (.lp lx 0), aset L lx zx) := by simp [glv, gx, gdd, hx, lev]
      have h2 : ∀ e L, glv y e L = some (aset (dropLp e ly) ly (.lp ly 0), aset L ly zy) := fun e L => by simp [glv, gy, gdd, hy, lev, dy]
      simp only [h2, gstep_leff kx, h1] at H
      simp only [h1', gstep_leff ky, h2]
      refine hK _ _ _ _ _ (fun s => ?_) (fun s => ?_) H
      · simp only [aget_aset, aget_dropLp]
        by_cases e1 : lx = s
        · subst e1
          simp [hne, AV.offLp, Ne.symm hne]
        · by_cases e2 : ly = s
          · subst e2
            simp [e1, AV.offLp, hne]
          · simp only [e1, e2, if_false, Option.map_map]
            congr 1
            funext v
            cases v <;> simp only [Function.comp, AV.offLp]
            rename_i l p
            by_cases q1 : l = ly
            · subst q1
              rw [if_pos rfl, if_neg (fun e => hne e)]
              simp only [if_true]
            · by_cases q2 : l = lx
              · subst q2; simp only [q1, if_false, if_true]
              · simp only [q1, q2, if_false]
      · simp only [aget_aset]
        by_cases e1 : lx = s
        · subst e1; simp [hne]
        · simp [e1]

end Go.Aw
