import Derived.Test.YtchdmofoaokpjaaGreatDoorAwB
namespace Go.Aw
open Go
set_option linter.all false
variable [Glob]
def q2v : Operand -> List Nat
 | .tmp t => [t]
 | _ => []
def qh6 : Option Operand -> List Nat
 | some o => q2v o
 | none => []
def SO.looks : SO -> List Nat
 | .bad | .mkm => []
 | .lku _ _ _ x y => q2v x ++ q2v y
 | .mup _ x y z => q2v x ++ q2v y ++ q2v z
 | .apz _ _ _ x y => q2v x ++ q2v y
 | .hbs _ _ _ ps => ps.flatMap fun p => q2v p.2.2
 | .cap x | .cvm x | .mv x | .un _ x | .cvi _ x | .b2s x | .s2b x | .cvs x | .ifc _ x | .fadr _ _ x | .fld _ _ x | .ext _ x | .len _ x | .nilck _ x | .ld _ x | .lld _ _ x | .lbox x | .hbox _ x | .fbox x | .clr _ _ x | .snil _ x => q2v x
 | .pick c x y => q2v c ++ q2v x ++ q2v y
 | .bin _ x y | .eq _ _ x y | .iadr _ _ _ x y | .idxs x y | .idxa _ _ _ x y | .mnx _ x y | .st _ x y | .lst _ _ x y | .app _ _ x y | .mksl _ _ _ x y => q2v x ++ q2v y
 | .mkfn _ f c => f.flatMap q2v ++ c.flatMap q2v
 | .slc _ x a b c => q2v x ++ qh6 a ++ qh6 b ++ qh6 c
 | .slcs x a b => q2v x ++ qh6 a ++ qh6 b
 | .bld _ ps | .bsl _ _ _ ps => ps.flatMap fun p => q2v p.2.2
 | .lalloc _ | .halloc _ _ => []
 | .call _ args => args.flatMap q2v
 | .callv x args => q2v x ++ args.flatMap q2v
def SOp.looks (o : SOp) : List Nat := o.op.looks ++ (match o.gd with | some (s, _) => [s] | none => [])
def SO.lpd : SO -> Option Nat
 | .fadr l _ _ | .iadr l _ _ _ _ | .nilck l _ => l
 | .lld l _ _ | .lst l _ _ _ => some l
 | _ => none
def SO.readsT : SO -> Bool
 | .ld _ _ | .slc _ _ _ _ _ | .b2s _ => true
 | _ => false
def Ag (S : List Nat) (e e' : Env) : Prop := ∀ s ∈ S, q10 e s = q10 e' s
theorem Ag.left {S S' : List Nat} {e e' : Env} (h : Ag (S ++ S') e e') : Ag S e e' := fun s hs => h s (List.mem_append_left _ hs)
theorem Ag.right {S S' : List Nat} {e e' : Env} (h : Ag (S ++ S') e e') : Ag S' e e' := fun s hs => h s (List.mem_append_right _ hs)
theorem Ag.symm {S : List Nat} {e e' : Env} (h : Ag S e e') : Ag S e' e := fun s hs => (h s hs).symm
theorem z3k {o : Operand} {e e' : Env} (h : Ag (q2v o) e e') : opd e o = opd e' o := by
 cases o <;> first | rfl | exact h _ (List.mem_singleton.2 rfl)
theorem q1a {o : Operand} {e e' : Env} (h : Ag (q2v o) e e') : Z7 e o = Z7 e' o := by simp only [Z7, z3k h]
theorem qnu {l : Option Nat} {o : Operand} {e e' : Env} (h : Ag (q2v o) e e') : qiv e l o = qiv e' l o := by cases l <;> simp only [qiv, z3k h, q1a h]
theorem qfu {e e' : Env} : ∀ {l : List Operand}, Ag (l.flatMap q2v) e e' -> q8f e l = q8f e' l
 | [], _ => rfl
 | o :: l, h => by
  simp only [List.flatMap_cons] at h
  simp only [q8f, q1a h.left, qfu h.right]
theorem qca {o : Option Operand} {e e' : Env} (h : Ag (qh6 o) e e') : q5f e o = q5f e' o := by
 cases o <;> first | rfl | simp only [q5f, q1a h]
theorem qnv {e e' : Env} : ∀ {ps : List (Nat × Nat × Operand)} {c : List AV}, Ag (ps.flatMap fun p => q2v p.2.2) e e' -> q97 e c ps = q97 e' c ps
 | [], _, _ => rfl
 | (off, sz, o) :: r, c, h => by
  simp only [List.flatMap_cons] at h
  simp only [q97, q1a h.left]
  split
  ·split
   ·exact qnv h.right
   ·rfl
  ·rfl
theorem z3l {o : SO} {e e' : Env} (h : Ag o.looks e e') (L : Loc) (T : Tab) : vev o e L T = vev o e' L T := by
 cases o <;> simp only [SO.looks] at h <;> simp only [vev, pev] <;> first
  | rfl
  | (simp only [q1a h]; done)
  | (simp only [qnu h]; done)
  | (simp only [q1a h.left, q1a h.right]; done)
  | (simp only [qnu h.left, q1a h.right]; done)
  | (simp only [q1a h.left.left, q1a h.left.right, q1a h.right]; done)
  | (simp only [qfu h.left, qfu h.right]; done)
  | (simp only [q1a h.left.left.left, qca h.left.left.right, qca h.left.right, qca h.right]; done)
  | (simp only [q1a h.left.left, qca h.left.right, qca h.right]; done)
  | (simp only [qnv h]; done)
theorem qn0 {P : Program} {o : SO} {e e' : Env} (h : Ag o.looks e e') (T : Tab) (k : AV -> Tab -> Prop) : tst P o e T k = tst P o e' T k := by
 cases o <;> simp only [SO.looks] at h <;> simp only [tst] <;> first
  | rfl
  | (simp only [q1a h]; done)
  | (simp only [q1a h.left, q1a h.right]; done)
  | (simp only [q1a h.left.left, q1a h.left.right, q1a h.right]; done)
  | (simp only [qfu h]; done)
  | (simp only [q1a h.left, qfu h.right]; done)
  | (simp only [qnv h]; done)
theorem qfv {α : Type} {gd : Option (Nat × Bool)} {e e' : Env} (h : Ag (match gd with | some (s, _) => [s] | none => []) e e') (y n z : α) : gdd e gd y n z = gdd e' gd y n z := by
 cases gd with
 | none => rfl
 | some p => obtain ⟨s, w⟩ := p; simp only [gdd, h s (List.mem_singleton.2 rfl)]
theorem z77 {o : SO} {L L' : Loc} (h : ∀ l, o.lpd = some l -> q10 L l = q10 L' l) (e : Env) (T : Tab) : vev o e L T = vev o e L' T := by
 cases o <;> simp only [vev, pev]
 rename_i l sz x
 have hl := h l rfl
 congr 1
 funext p
 cases p <;> simp only [qrg, hl]
theorem zb9 {o : SO} (h : o.readsT = false) (e : Env) (L : Loc) (T T' : Tab) : vev o e L T = vev o e L T' := by
 cases o <;> simp only [SO.readsT] at h <;> first
  | rfl
  | (cases h; done)
theorem qa4 (e : Env) (l : Nat) (o : Operand) : Z7 (q1u e l) o = Z7 e o := by
 cases o with
 | tmp t =>
  simp only [Z7, opd, q4j]
  cases q10 e t with
  | none => rfl
  | some x =>
   cases x <;> simp only [Option.map_some, AV.offLp]
   rename_i l' p
   split <;> rfl
 | _ => rfl
theorem qxe (e : Env) {l : Nat} {l' : Option Nat} (h : l' ≠ some l) (o : Operand) : qiv (q1u e l) l' o = qiv e l' o := by
 cases l' with
 | none => exact qa4 e l o
 | some l' =>
  have hne : l' ≠ l := fun e => h (by rw [e])
  cases o with
  | tmp t =>
   simp only [qiv, opd, q4j]
   cases q10 e t with
   | none => rfl
   | some x =>
    cases x <;> simp only [Option.map_some, AV.offLp]
    rename_i l2 p
    by_cases h2 : l2 = l
    ·subst h2
     simp only [if_true]
     rw [if_neg (fun e => hne e.symm)]
    ·simp only [h2, if_false]
  | _ => rfl
theorem qh7 (e : Env) (l : Nat) : ∀ os : List Operand, q8f (q1u e l) os = q8f e os
 | [] => rfl
 | o :: os => by simp only [q8f, qa4, qh7 e l os]
theorem qrk (e : Env) (l : Nat) (o : Option Operand) : q5f (q1u e l) o = q5f e o := by
 cases o <;> simp only [q5f, qa4]
theorem qh8 (e : Env) (l : Nat) : ∀ (ps : List (Nat × Nat × Operand)) (c : List AV), q97 (q1u e l) c ps = q97 e c ps
 | [], _ => rfl
 | (off, sz, o) :: r, c => by
  simp only [q97, qa4]
  split
  ·split
   ·exact qh8 e l r _
   ·rfl
  ·rfl
theorem z0z {o : SO} {l : Nat} (h : o.lpd ≠ some l) (e : Env) (L : Loc) (T : Tab) : vev o (q1u e l) L T = vev o e L T := by
 cases o <;> simp only [SO.lpd] at h <;> simp only [vev, pev, qa4, qh7, qrk, qh8] <;> first
  | rfl
  | (simp only [qxe e h]; done)
theorem z10 {P : Program} {o : SO} (e : Env) (l : Nat) (T : Tab) (k : AV -> Tab -> Prop) : tst P o (q1u e l) T k = tst P o e T k := by
 cases o <;> simp only [tst, qa4, qh7, qh8]
theorem qu5 {α : Type} (e : Env) (l : Nat) (gd : Option (Nat × Bool)) (y n z : α) : gdd (q1u e l) gd y n z = gdd e gd y n z := by
 cases gd with
 | none => rfl
 | some p =>
  obtain ⟨s, w⟩ := p
  simp only [gdd, q4j]
  cases q10 e s with
  | none => rfl
  | some x =>
   cases x <;> simp only [Option.map_some, AV.offLp]
   rename_i l2 p
   by_cases h2 : l2 = l
   ·simp only [h2, if_true]
   ·simp only [h2, if_false]
def EqE (e e' : Env) : Prop := ∀ s, q10 e s = q10 e' s
def EqL (L L' : Loc) : Prop := ∀ l, q10 L l = q10 L' l
def qxf (K : Env -> Loc -> Tab -> Prop) : Prop := ∀ e e' L L' T, EqE e e' -> EqL L L' -> K e L T -> K e' L' T
theorem EqE.ag {e e' : Env} (h : EqE e e') (S : List Nat) : Ag S e e' := fun s _ => h s
theorem EqE.aset {e e' : Env} (h : EqE e e') (d : Nat) (x : AV) : EqE (Aw.q96 e d x) (Aw.q96 e' d x) := fun s => by simp only [q1m, h s]
theorem EqE.eset {e e' : Env} (h : EqE e e') (d : Option Nat) (x : AV) : EqE (Aw.q06 e d x) (Aw.q06 e' d x) := by
 cases d with
 | none => exact h
 | some d => exact h.aset d x
theorem EqE.drop {e e' : Env} (h : EqE e e') (l : Nat) : EqE (q1u e l) (q1u e' l) := fun s => by simp only [q4j, h s]
theorem EqL.aset {L L' : Loc} (h : EqL L L') (d : Nat) (x : List AV) : EqL (Aw.q96 L d x) (Aw.q96 L' d x) := fun s => by simp only [q1m, h s]
theorem qxg {o : SO} {e e' : Env} {L L' : Loc} (he : EqE e e') (hl : EqL L L') (T : Tab) : vev o e L T = vev o e' L' T := by
 rw [z3l (he.ag _) L T, z77 (fun l _ => hl l) e' T]
theorem qu6 {o : SO} {gd : Option (Nat × Bool)} {e e' : Env} {L L' : Loc} (he : EqE e e') (hl : EqL L L') (T : Tab) : qc7 o gd e L T = qc7 o gd e' L' T := by
 simp only [qc7, qxg he hl T, qfv (he.ag _)]
theorem qnw {e e' : Env} {L L' : Loc} (he : EqE e e') (hl : EqL L L') (T : Tab) : ∀ {rc : RC}, I2 e L T rc -> I2 e' L' T rc
 | [], _ => trivial
 | (d, o, gd) :: r, h => ⟨by rw [<- qu6 he hl T, h.1, he d], qnw he hl T h.2⟩
def Eq2 (p q : Option (Env × Loc)) : Prop :=
 match p, q with
 | some (e, L), some (e', L') => EqE e e' /\ EqL L L'
 | none, none => True
 | _, _ => False
theorem z4f {o : SO} {d : Option Nat} {e e' : Env} {L L' : Loc} (he : EqE e e') (hl : EqL L L') : Eq2 (lev o d e L) (lev o d e' L') := by
 cases o <;> simp only [lev] <;> first
  | trivial
  | skip
 ·rename_i l sz x v
  rw [qnu (he.ag _), q1a (he.ag _)]
  cases qiv e' (some l) x with
  | none => trivial
  | some p =>
  cases Z7 e' v with
  | none => trivial
  | some y =>
  cases p <;> simp only [Option.bind_some] <;> first | trivial | skip
  rw [hl l]
  cases q10 L' l with
  | none => trivial
  | some cells =>
   simp only [Option.bind_some]
   split
   ·exact ⟨he.eset _ _, hl.aset _ _⟩
   ·trivial
 ·cases d with
  | none => trivial
  | some l => exact ⟨(he.drop l).aset l _, hl.aset l _⟩
 ·rename_i x
  cases d with
  | none => trivial
  | some l =>
  simp only [Option.bind_some]
  rw [q1a (he.ag _)]
  cases Z7 e' x with
  | none => trivial
  | some v =>
   simp only [Option.bind_some]
   split
   ·exact ⟨(he.drop l).aset l _, hl.aset l _⟩
   ·trivial
theorem qpk {esz bytes : Nat} {T : Tab} {x y : AV} {k k' : AV -> Tab -> Prop} (h : ∀ v T, k v T -> k' v T) (H : q1k esz bytes T x y k) : q1k esz bytes T x y k' := by
 unfold q1k at H ⊢
 split at H
 ·exact H
 ·rename_i news hs
  split at H
  ·split at H
   ·rename_i h0; rw [if_pos h0]; exact h _ _ H
   ·rename_i h0
    rw [if_neg h0]
    split at H
    ·exact ⟨H.1, H.2.1, H.2.2.1, H.2.2.2.1, fun id hid => h _ _ (H.2.2.2.2 id hid)⟩
    ·exact H
  ·split at H
   ·refine ⟨H.1, ?_⟩
    obtain ⟨_, H⟩ := H
    split at H
    ·split at H
     ·rename_i hc; rw [if_pos hc]; exact ⟨H.1, H.2.1, fun id hid => h _ _ (H.2.2 id hid)⟩
     ·rename_i hc; rw [if_neg hc]; exact ⟨H.1, h _ _ H.2⟩
    ·split at H
     ·rename_i hc; simp only [if_pos hc]; exact ⟨H.1, H.2.1, H.2.2.1, fun id hid => h _ _ (H.2.2.2 id hid)⟩
     ·rename_i hc; simp only [if_neg hc]; exact ⟨H.1, h _ _ H.2⟩
   ·exact H
  ·exact H
theorem qnx {P : Program} {o : SO} {e : Env} {T : Tab} {k k' : AV -> Tab -> Prop} (h : ∀ v T, k v T -> k' v T) (H : tst P o e T k) : tst P o e T k' := by
 cases o <;> simp only [tst] at H ⊢ <;> first
  | (exact H.elim)
  | skip
 ·split at H
  ·split at H
   ·exact ⟨H.1, H.2.1, H.2.2.1, h _ _ H.2.2.2⟩
   ·exact H
  ·exact H
 ·exact fun id hid => h _ _ (H id hid)
 ·split at H
  ·exact ⟨H.1, fun id hid => h _ _ (H.2 id hid)⟩
  ·exact H
 ·split at H
  ·exact qpk h H
  ·exact H
 ·split at H
  ·exact h _ _ H
  ·split at H
   ·exact ⟨H.1, H.2.1, H.2.2.1, h _ _ H.2.2.2⟩
   ·exact H
  ·exact H
 ·split at H
  ·exact ⟨H.1, H.2.1, H.2.2.1, H.2.2.2.1, fun id hid => h _ _ (H.2.2.2.2 id hid)⟩
  ·exact H
 ·split at H
  ·exact fun id hid => h _ _ (H id hid)
  ·exact H
 ·split at H
  ·split at H
   ·exact ⟨H.1, H.2.1, h _ _ H.2.2⟩
   ·exact H
  ·exact H
 ·split at H
  ·exact ⟨H.1, H.2.1, H.2.2.1, fun id hid => h _ _ (H.2.2.2 id hid)⟩
  ·exact H
 ·exact fun id hid => h _ _ (H id hid)
 ·split at H
  ·split at H
   ·refine ⟨H.1, ?_⟩
    obtain ⟨_, H⟩ := H
    split at H
    ·exact h _ _ H
    ·exact h _ _ H
    ·exact H
   ·exact H
  ·exact H
 ·split at H
  ·split at H
   ·exact ⟨H.1, H.2.1, h _ _ H.2.2⟩
   ·exact H
  ·exact H
 ·refine ⟨H.1, ?_⟩
  obtain ⟨_, H⟩ := H
  split at H
  ·obtain ⟨S, R, h1, h2, h3, h4⟩ := H
   exact ⟨S, R, h1, h2, h3, fun v T' hR => h _ _ (h4 v T' hR)⟩
  ·exact H
 ·split at H
  ·obtain ⟨h0, S, R, h1, h2, h3, h4⟩ := H
   exact ⟨h0, S, R, h1, h2, h3, fun v T' hR => h _ _ (h4 v T' hR)⟩
  ·exact H
theorem qji {e : Env} {gd : Option (Nat × Bool)} {y n y' n' : Prop} (h1 : y -> y') (h2 : n -> n') (H : gdd e gd y n False) : gdd e gd y' n' False := by
 cases gd with
 | none => exact h1 H
 | some p =>
  obtain ⟨s, w⟩ := p
  simp only [gdd] at H ⊢
  split at H
  ·split at H
   ·rename_i hc; rw [if_pos hc]; exact h1 H
   ·rename_i hc; rw [if_neg hc]; exact h2 H
  ·exact h2 H
  ·exact H
theorem qxh {neg : Bool} {x : Option AV} {k k' : AV -> Prop} (h : ∀ v, k v -> k' v) (H : qav neg x k) : qav neg x k' := by
 unfold qav at H ⊢
 split at H
 ·split at H
  ·rename_i hc; rw [if_pos hc]; exact h _ H
  ·rename_i hc; rw [if_neg hc]; exact fun b => h _ (H b)
 ·exact h _ H
 ·exact H
theorem qk2 {P : Program} {o : SO} (ho : o.kind = .snil) {d : Option Nat} {rc : RC} {K K' : Env -> Loc -> Tab -> Prop} {e e' : Env} {L L' : Loc} {T : Tab} (he : EqE e e')
  (h : ∀ v, K (q06 e d v) L T -> K' (q06 e' d v) L' T) (H : q4w P o d rc K e L T) : q4w P o d rc K' e' L' T := by
 cases o <;> simp only [SO.kind] at ho <;> first
  | (cases ho; done)
  | skip
 simp only [q4w, SO.kind] at H ⊢
 rw [<- q1a (he.ag _)]
 exact qxh h H
theorem qde {P : Program} {o : SOp} {K K' : Env -> Loc -> Tab -> Prop} {e e' : Env} {L L' : Loc} {T : Tab} (he : EqE e e') (hl : EqL L L')
  (h : ∀ e e' L L' T, EqE e e' -> EqL L L' -> K e L T -> K' e' L' T) (H : Y5 P o K e L T) : Y5 P o K' e' L' T := by
 unfold Y5 at H ⊢
 split at H
 ·rw [<- qu6 he hl T]
  split at H
  ·exact h _ _ _ _ _ (he.eset _ _) hl H
  ·exact H
 ·have hq : Eq2 (gdd e o.gd (lev o.op o.dst e L) (some (q06 e o.dst (.tup []), L)) none) (gdd e' o.gd (lev o.op o.dst e' L') (some (q06 e' o.dst (.tup []), L')) none) := by
   have hlv := z4f (o := o.op) (d := o.dst) he hl
   have hn : Eq2 (some (q06 e o.dst (.tup []), L)) (some (q06 e' o.dst (.tup []), L')) := ⟨he.eset _ _, hl⟩
   cases o.gd with
   | none => exact hlv
   | some p =>
    obtain ⟨s, w⟩ := p
    simp only [gdd, he s]
    split
    ·split
     ·exact hlv
     ·exact hn
    ·exact hn
    ·trivial
  split at H
  ·rename_i e1 l1 heq
   rw [heq] at hq
   split
   ·rename_i e2 l2 heq2
    rw [heq2] at hq
    exact h _ _ _ _ _ hq.1 hq.2 H
   ·rename_i heq2
    rw [heq2] at hq
    exact hq
  ·exact H.elim
 ·rw [qfv (he.ag _)] at H
  refine qji (fun H => ?_) (fun H => ⟨qnw (he.eset _ _) hl T H.1, h _ _ _ _ _ (he.eset _ _) hl H.2⟩) H
  rw [qn0 (he.ag _)] at H
  exact qnx (fun v T' hv hlp => ⟨qnw (he.eset _ _) hl T' (hv hlp).1, h _ _ _ _ _ (he.eset _ _) hl (hv hlp).2⟩) H
 ·rename_i hk
  rw [qfv (he.ag _)] at H
  exact qji (fun H => qk2 hk he (fun v hv => h _ _ _ _ _ (he.eset _ _) hl hv) H) (fun H => h _ _ _ _ _ (he.eset _ _) hl H) H
theorem qny {P : Program} {K : Env -> Loc -> Tab -> Prop} (hK : qxf K) : ∀ l, qxf (qpi P l K)
 | [] => hK
 | _ :: l => fun _ _ _ _ _ he hl H => qde he hl (fun _ _ _ _ _ h1 h2 h3 => qny hK l _ _ _ _ _ h1 h2 h3) H
theorem qcb (e : Env) {d d' : Option Nat} (h : d ≠ d' \/ d = none) (x y : AV) : EqE (q06 (q06 e d x) d' y) (q06 (q06 e d' y) d x) := by
 cases d with
 | none => exact fun _ => rfl
 | some d =>
  cases d' with
  | none => exact fun _ => rfl
  | some d' =>
   have hne : d ≠ d' := by
    rcases h with h | h
    ·exact fun e => h (by rw [e])
    ·cases h
   intro s
   simp only [q06, q1m]
   by_cases h1 : d' = s
   ·subst h1; simp [hne]
   ·simp [h1]
theorem q7a {S : List Nat} (e : Env) {d : Option Nat} (h : ∀ k, d = some k -> k ∉ S) (x : AV) : Ag S (q06 e d x) e := by
 cases d with
 | none => exact fun _ _ => rfl
 | some d =>
  intro s hs
  simp only [q06, q1m]
  rw [if_neg]
  rintro rfl
  exact h d rfl hs
theorem qdf {e : Env} {o : Operand} {x : AV} (h : Z7 e o = some x) : x.plain = true := by
 simp only [Z7] at h
 cases ho : opd e o with
 | none => simp [ho] at h
 | some y =>
  simp only [ho] at h
  split at h
  ·injection h with h; subst h; assumption
  ·cases h
theorem qrl {e : Env} {l : Option Nat} {o : Operand} {x : AV} (h : qiv e l o = some x) : x.plain = true \/ ∃ l' p, l = some l' /\ x = .lp l' p := by
 cases l with
 | none => exact .inl (qdf h)
 | some l =>
  simp only [qiv] at h
  cases ho : opd e o with
  | none => simp [ho] at h
  | some y =>
   cases y <;> simp only [ho] at h <;> first | (cases h; done) | skip
   split at h
   ·rename_i e; subst e; injection h with h; subst h; exact .inr ⟨_, _, rfl, rfl⟩
   ·cases h
theorem z3m {o : SO} {e : Env} {L : Loc} {T : Tab} {l p : Nat} (h : vev o e L T = some (.lp l p)) : o.lpd = some l := by
 have pl : ∀ {x : AV}, x.plain = true -> x ≠ .lp l p := fun hx e => by subst e; simp [AV.plain] at hx
 have ldc : ∀ {sz cells k}, q4k sz cells k ≠ some (.lp l p) := fun {sz cells k} h => by
  cases sz with
  | none => exact pl (q60 h).2 rfl
  | some n => simp only [q4k] at h; split at h <;> cases h
 cases o <;> simp only [vev, pev] at h
 case mv x => exact absurd rfl (pl (qdf h))
 case pick c x y =>
  obtain ⟨cv, _, h⟩ := J8 h
  cases cv <;> simp only [qph] at h <;> first | (cases h; done) | skip
  split at h
  ·exact absurd rfl (pl (qdf h))
  ·exact absurd rfl (pl (qdf h))
 case bin op x y =>
  obtain ⟨u, _, h⟩ := J8 h
  obtain ⟨v, _, h⟩ := J8 h
  cases u <;> cases v <;> simp only [qrd] at h <;> first | (cases h; done) | skip
  ·split at h
   ·simp only [qdb] at h; split at h <;> cases h
   ·simp only [qdb] at h; split at h <;> cases h
   ·split at h
    ·cases op <;> simp only [qp9] at h <;> first | (cases h; done) | (split at h <;> cases h)
    ·cases h
  ·cases op <;> simp only [qpa] at h <;> first | (cases h; done) | (split at h <;> cases h)
 case eq neg k x y =>
  obtain ⟨u, _, h⟩ := J8 h
  obtain ⟨v, _, h⟩ := J8 h
  obtain ⟨r, _, h⟩ := N8 h
  cases h
 case un op x =>
  obtain ⟨u, _, h⟩ := J8 h
  cases op <;> cases u <;> simp only [z71] at h <;> cases h
 case cvi k x =>
  obtain ⟨u, _, h⟩ := J8 h
  cases u <;> simp only [qmx] at h <;> cases h
 case b2s x =>
  obtain ⟨u, _, h⟩ := J8 h
  obtain ⟨c, _, h⟩ := J8 h
  cases u <;> simp only at h <;> first | (cases h; done) | (obtain ⟨r, _, h⟩ := N8 h; cases h)
 case s2b x =>
  obtain ⟨u, _, h⟩ := J8 h
  cases u <;> simp only at h <;> cases h
 case cvs x =>
  obtain ⟨u, _, h⟩ := J8 h
  cases u <;> simp only at h <;> cases h
 case ifc t x => obtain ⟨u, _, h⟩ := N8 h; cases h
 case mkfn f a b =>
  obtain ⟨u, _, h⟩ := J8 h
  obtain ⟨v, _, h⟩ := N8 h
  cases h
 case slc esz x lo hi mx =>
  obtain ⟨u, _, h⟩ := J8 h
  obtain ⟨a, _, h⟩ := J8 h
  obtain ⟨b, _, h⟩ := J8 h
  obtain ⟨c, _, h⟩ := J8 h
  cases u <;> simp only [qrh] at h <;> first | (cases h; done) | skip
  ·split at h <;> first | (cases h; done) | (split at h <;> cases h)
  ·split at h
   ·split at h
    ·split at h <;> first | (cases h; done) | (split at h <;> first | (cases h; done) | (split at h <;> cases h))
    ·cases h
   ·cases h
 case slcs x lo hi =>
  obtain ⟨u, _, h⟩ := J8 h
  obtain ⟨a, _, h⟩ := J8 h
  obtain ⟨b, _, h⟩ := J8 h
  cases u <;> simp only [qjt] at h <;> first | (cases h; done) | skip
  split at h <;> first | (cases h; done) | (split at h <;> cases h)
 case fadr l' off x =>
  obtain ⟨u, hu, h⟩ := J8 h
  rcases qrl hu with hp | ⟨l2, p2, rfl, rfl⟩
  ·cases u <;> simp only [qjr] at h <;> first | (cases h; done) | (simp [AV.plain] at hp)
  ·simp only [qjr] at h; injection h with h; injection h with h; subst h; rfl
 case fld off sz x =>
  obtain ⟨u, _, h⟩ := J8 h
  cases u <;> simp only [qv4] at h <;> first | (cases h; done) | (exact absurd h ldc)
 case iadr l' esz alen x i =>
  obtain ⟨u, hu, h⟩ := J8 h
  obtain ⟨v, _, h⟩ := J8 h
  rcases qrl hu with hp | ⟨l2, p2, rfl, rfl⟩
  ·cases u <;> simp only [qjs] at h <;> first
    | (cases h; done)
    | (simp [AV.plain] at hp; done)
    | (split at h <;> first | (cases h; done) | (split at h <;> cases h))
  ·simp only [qjs] at h
   split at h
   ·split at h
    ·injection h with h; injection h with h; subst h; rfl
    ·cases h
   ·cases h
 case idxs x i =>
  obtain ⟨u, _, h⟩ := J8 h
  obtain ⟨v, _, h⟩ := J8 h
  cases u <;> simp only [qmt] at h <;> first | (cases h; done) | skip
  cases v <;> simp only at h <;> first | (cases h; done) | skip
  split at h
  ·obtain ⟨_, _, h⟩ := N8 h; cases h
  ·cases h
 case idxa esz sz n x i =>
  obtain ⟨u, _, h⟩ := J8 h
  obtain ⟨v, _, h⟩ := J8 h
  cases u <;> simp only [qv6] at h <;> first | (cases h; done) | skip
  cases v <;> simp only at h <;> first | (cases h; done) | skip
  split at h
  ·exact absurd h ldc
  ·cases h
 case cap x =>
  obtain ⟨u, _, h⟩ := J8 h
  unfold qv7 at h
  split at h <;> cases h
 case ext i x =>
  obtain ⟨u, _, h⟩ := J8 h
  cases u <;> simp only [qv5] at h <;> first | (cases h; done) | (exact absurd rfl (pl (q60 h).2))
 case len str x =>
  obtain ⟨u, _, h⟩ := J8 h
  cases u <;> simp only [qiu] at h <;> first | (cases h; done) | (split at h <;> cases h)
 case mnx mx x y =>
  obtain ⟨u, _, h⟩ := J8 h
  obtain ⟨v, _, h⟩ := J8 h
  cases u <;> cases v <;> simp only [qx1] at h <;> cases h
 case nilck l' x =>
  obtain ⟨u, hu, h⟩ := J8 h
  rcases qrl hu with hp | ⟨l2, p2, rfl, rfl⟩
  ·cases u <;> simp only [qh3] at h <;> first | (cases h; done) | (simp [AV.plain] at hp)
  ·simp only [qh3] at h; injection h with h; injection h with h; subst h; rfl
 case bld z ps => obtain ⟨_, _, h⟩ := N8 h; cases h
 case bsl n esz z ps => obtain ⟨_, _, h⟩ := N8 h; cases h
 case ld sz x =>
  obtain ⟨u, _, h⟩ := J8 h
  cases u <;> simp only [z72] at h <;> first | (cases h; done) | skip
  ·split at h <;> first | (exact absurd h ldc) | (cases h)
  ·exact absurd h ldc
 case lld l' sz x =>
  obtain ⟨u, _, h⟩ := J8 h
  cases u <;> simp only [qrg] at h <;> first | (cases h; done) | skip
  split at h
  ·split at h
   ·exact absurd h ldc
   ·cases h
  ·cases h
 case fbox x =>
  obtain ⟨u, _, h⟩ := J8 h
  split at h <;> cases h
 all_goals cases h
def SOp.lw (o : SOp) : Option Nat :=
 match o.op with
 | .lalloc _ | .lbox _ => o.dst
 | .lst l _ _ _ => some l
 | _ => none
def z3n (e : Nat × SO × Option (Nat × Bool)) : List Nat := e.2.1.looks ++ (match e.2.2 with | some (s, _) => [s] | none => [])
def qxi (d : Option Nat) (rc : RC) : RC := rc.filter fun e => match d with
 | some k => e.1 != k && !(z3n e).contains k
 | none => true
def q4l (y : SOp) (rc : RC) : RC := if y.op.kind = .leff then [] else qxi y.dst rc
def qrm (d : Option Nat) (S : List Nat) : Bool :=
 match d with
 | some k => !S.contains k
 | none => true
theorem qh9 {d : Option Nat} {S : List Nat} (h : qrm d S = true) : ∀ k, d = some k -> k ∉ S := by
 rintro k rfl
 simpa [qrm] using h
def zba (y : SOp) (rc : RC) : Prop := ∃ k, y.dst = some k /\ (k, y.op, y.gd) ∈ rc
structure Apart (y x : SOp) : Prop where
 yx : ∀ k, y.dst = some k -> k ∉ x.looks
 xy : ∀ k, x.dst = some k -> k ∉ y.looks
 ne : y.dst ≠ x.dst \/ y.dst = none
theorem q8h {o : SO} {gd : Option (Nat × Bool)} {e e' : Env} (h : Ag (o.looks ++ (match gd with | some (s, _) => [s] | none => [])) e e') (L : Loc) (T : Tab) : qc7 o gd e L T = qc7 o gd e' L T := by
 simp only [qc7, z3l h.left, qfv h.right]
theorem qxj {o : SO} {gd : Option (Nat × Bool)} {e : Env} {L : Loc} {T : Tab} {l p : Nat} (h : qc7 o gd e L T = some (.lp l p)) : o.lpd = some l := by
 cases gd with
 | none => exact z3m h
 | some q =>
  obtain ⟨s, w⟩ := q
  simp only [qc7, gdd] at h
  split at h
  ·split at h
   ·exact z3m h
   ·cases h
  ·cases h
  ·cases h
theorem z11 {x : AV} {l : Nat} (h : ∀ p, x ≠ .lp l p) : x.offLp l = x := by
 cases x <;> simp only [AV.offLp]
 rename_i l' p
 by_cases e : l' = l
 ·subst e; exact absurd rfl (h p)
 ·rw [if_neg e]
def glv (o : SOp) (e : Env) (L : Loc) : Option (Env × Loc) := gdd e o.gd (lev o.op o.dst e L) (some (q06 e o.dst (.tup []), L)) none
theorem qrn {x : SOp} {e : Env} {L : Loc} {d : Option Nat} {v : AV} (h1 : ∀ k, d = some k -> k ∉ x.looks) (h2 : d ≠ x.dst \/ d = none) (h3 : ∀ l p, x.lw = some l -> v ≠ .lp l p) :
  Eq2 (glv x (q06 e d v) L) ((glv x e L).map fun q => (q06 q.1 d v, q.2)) := by
 have hag : Ag x.op.looks (q06 e d v) e := q7a e (fun k hk hm => h1 k hk (List.mem_append_left _ hm)) v
 have hgd : Ag (match x.gd with | some (s, _) => [s] | none => []) (q06 e d v) e := q7a e (fun k hk hm => h1 k hk (List.mem_append_right _ hm)) v
 have hnew : ∀ l, x.lw = some l -> x.dst = some l -> EqE (q96 (q1u (q06 e d v) l) l (.lp l 0)) (q06 (q96 (q1u e l) l (.lp l 0)) d v) := by
  intro l hl hdl s
  cases d with
  | none => rfl
  | some k =>
   have hkl : k ≠ l := by
    rcases h2 with h2 | h2
    ·intro e; exact h2 (by rw [e, hdl])
    ·cases h2
   simp only [q06, q1m, q4j]
   by_cases e1 : l = s
   ·subst e1; simp [hkl]
   ·by_cases e2 : k = s
    ·subst e2
     simp only [e1, if_false, if_true, Option.map_some]
     rw [z11 (fun p => h3 l p hl)]
    ·simp [e1, e2]
 have hskip : EqE (q06 (q06 e d v) x.dst (.tup [])) (q06 (q06 e x.dst (.tup [])) d v) := qcb e h2 v _
 have hlev : Eq2 (lev x.op x.dst (q06 e d v) L) ((lev x.op x.dst e L).map fun q => (q06 q.1 d v, q.2)) := by
  obtain ⟨dst, op, gd, rc⟩ := x
  simp only at hag hnew hskip h2 ⊢
  cases op <;> simp only [lev, Option.map_none] <;> first
   | trivial
   | skip
  ·rename_i l sz p q
   rw [qnu (fun s hs => hag s (List.mem_append_left _ hs)), q1a (fun s hs => hag s (List.mem_append_right _ hs))]
   cases qiv e (some l) p with
   | none => trivial
   | some pv =>
   cases Z7 e q with
   | none => trivial
   | some qv =>
   cases pv <;> simp only [Option.bind_some] <;> first | trivial | skip
   cases q10 L l with
   | none => trivial
   | some cells =>
    simp only [Option.bind_some]
    split
    ·exact ⟨hskip, fun _ => rfl⟩
    ·trivial
  ·cases dst with
   | none => trivial
   | some l => exact ⟨hnew l rfl rfl, fun _ => rfl⟩
  ·rename_i q
   cases dst with
   | none => trivial
   | some l =>
   simp only [Option.bind_some]
   rw [q1a hag]
   cases Z7 e q with
   | none => trivial
   | some qv =>
    simp only [Option.bind_some]
    split
    ·exact ⟨hnew l rfl rfl, fun _ => rfl⟩
    ·trivial
 unfold glv
 rw [qfv hgd]
 cases x.gd with
 | none => exact hlev
 | some q =>
  obtain ⟨s, w⟩ := q
  simp only [gdd]
  split
  ·split
   ·exact hlev
   ·exact ⟨hskip, fun _ => rfl⟩
  ·exact ⟨hskip, fun _ => rfl⟩
  ·trivial
theorem qpl {x : SOp} {e e2 : Env} {L L1 : Loc} (h0 : glv x e L = some (e2, L1)) {S : List Nat} (hS : ∀ k, x.dst = some k -> k ∉ S) :
  (∃ l, x.lw = some l /\ (∀ l', l' ≠ l -> q10 L1 l' = q10 L l') /\ (Ag S e2 (q1u e l) \/ Ag S e2 e)) \/ (L1 = L /\ Ag S e2 e) := by
 have hskip : Ag S (q06 e x.dst (.tup [])) e := q7a e hS _
 have hlev : ∀ e2 L1, lev x.op x.dst e L = some (e2, L1) -> (∃ l, x.lw = some l /\ (∀ l', l' ≠ l -> q10 L1 l' = q10 L l') /\ (Ag S e2 (q1u e l) \/ Ag S e2 e)) := by
  clear h0 e2 L1
  intro e2 L1 h
  obtain ⟨dst, op, gd, rc⟩ := x
  simp only at h hskip hS
  cases op <;> simp only [lev] at h <;> first | (cases h; done) | skip
  case lst l sz p q =>
   obtain ⟨pv, _, h1⟩ := J8 h
   obtain ⟨qv, _, h2⟩ := J8 h1
   cases pv <;> simp only at h2 <;> first | (cases h2; done) | skip
   obtain ⟨cells, _, h3⟩ := J8 h2
   split at h3
   ·injection h3 with h3
    obtain ⟨e1, e2'⟩ := Prod.mk.inj h3
    subst e1; subst e2'
    exact ⟨l, rfl, fun l' hl => by rw [q1m, if_neg (fun e => hl e.symm)], .inr hskip⟩
   ·cases h3
  case lalloc zero =>
   obtain ⟨l, rfl, h1⟩ := N8 h
   obtain ⟨e1, e2'⟩ := Prod.mk.inj h1
   subst e1; subst e2'
   exact ⟨l, rfl, fun l' hl => by rw [q1m, if_neg (fun e => hl e.symm)], .inl (q7a (d := some l) (q1u e l) hS _)⟩
  case lbox y =>
   obtain ⟨l, rfl, h1⟩ := J8 h
   obtain ⟨qv, _, h2⟩ := J8 h1
   split at h2
   ·injection h2 with h2
    obtain ⟨e1, e2'⟩ := Prod.mk.inj h2
    subst e1; subst e2'
    exact ⟨l, rfl, fun l' hl => by rw [q1m, if_neg (fun e => hl e.symm)], .inl (q7a (d := some l) (q1u e l) hS _)⟩
   ·cases h2
 unfold glv at h0
 cases hg : x.gd with
 | none => rw [hg] at h0; exact .inl (hlev _ _ h0)
 | some q =>
  rw [hg] at h0
  obtain ⟨s, w⟩ := q
  simp only [gdd] at h0
  split at h0
  ·split at h0
   ·exact .inl (hlev _ _ h0)
   ·injection h0 with h0; obtain ⟨e1, e2'⟩ := Prod.mk.inj h0; subst e1; subst e2'; exact .inr ⟨rfl, hskip⟩
  ·injection h0 with h0; obtain ⟨e1, e2'⟩ := Prod.mk.inj h0; subst e1; subst e2'; exact .inr ⟨rfl, hskip⟩
  ·cases h0
theorem qxk {o : SO} {gd : Option (Nat × Bool)} {l : Nat} (h : o.lpd ≠ some l) (e : Env) (L : Loc) (T : Tab) : qc7 o gd (q1u e l) L T = qc7 o gd e L T := by
 simp only [qc7, z0z h, qu5]
theorem z78 {o : SO} {gd : Option (Nat × Bool)} {L L' : Loc} (h : ∀ l, o.lpd = some l -> q10 L l = q10 L' l) (e : Env) (T : Tab) : qc7 o gd e L T = qc7 o gd e L' T := by
 simp only [qc7, z77 h]
theorem z79 {o : SO} {gd : Option (Nat × Bool)} (h : o.readsT = false) (e : Env) (L : Loc) (T T' : Tab) : qc7 o gd e L T = qc7 o gd e L T' := by
 simp only [qc7, zb9 h e L T T']
theorem qu7 {x y : SOp} {e e2 : Env} {L L1 : Loc} (h : glv x e L = some (e2, L1)) (hS : ∀ k, x.dst = some k -> k ∉ y.looks) (hl : ∀ l, x.lw = some l -> y.op.lpd ≠ some l) (T : Tab) :
  qc7 y.op y.gd e2 L1 T = qc7 y.op y.gd e L T := by
 rcases qpl h hS with ⟨l, h1, h2, h3⟩ | ⟨rfl, h3⟩
 ·have hne := hl l h1
  rw [z78 (L := L1) (L' := L) (fun l' hl' => h2 l' (fun e => hne (by rw [hl', e])))]
  rcases h3 with h3 | h3
  ·rw [q8h h3, qxk hne]
  ·rw [q8h h3]
 ·rw [q8h h3]
inductive Swaps (y x : SOp) : Prop where
 | vv : y.op.kind = .val -> x.op.kind = .val -> Swaps y x
 | vl : y.op.kind = .val -> x.op.kind = .leff -> (∀ l, x.lw = some l -> y.op.lpd ≠ some l) -> Swaps y x
 | lv : y.op.kind = .leff -> x.op.kind = .val -> (∀ l, y.lw = some l -> x.op.lpd ≠ some l) -> Swaps y x
 | vt : y.op.kind = .val -> x.op.kind = .teff -> (y.op.readsT = false \/ zba y x.rc) -> Swaps y x
 | lt : y.op.kind = .leff -> x.op.kind = .teff -> Swaps y x
 | ll (zy zx : List AV) : y.op = .lalloc zy -> x.op = .lalloc zx -> y.gd = none -> x.gd = none -> y.dst ≠ none -> Swaps y x
 | sb (z w : Nat) (p v a : Operand) : y.op = .st z p v -> x.op = .hbox w a -> y.gd = none -> x.gd = none -> y.dst = none -> y.rc = [] -> x.rc = [] -> Swaps y x
theorem q5g {P : Program} {o : SOp} (h : o.op.kind = .val) (K : Env -> Loc -> Tab -> Prop) (e : Env) (L : Loc) (T : Tab) : Y5 P o K e L T = match qc7 o.op o.gd e L T with
  | some x => K (q06 e o.dst x) L T
  | none => False := by
 unfold Y5; simp only [h]; rfl
theorem q32 {P : Program} {o : SOp} (h : o.op.kind = .leff) (K : Env -> Loc -> Tab -> Prop) (e : Env) (L : Loc) (T : Tab) : Y5 P o K e L T = match glv o e L with
  | some (e, l) => K e l T
  | none => False := by
 unfold Y5 glv; simp only [h]; rfl
theorem q6b {P : Program} {o : SOp} (h : o.op.kind = .teff) (K : Env -> Loc -> Tab -> Prop) (e : Env) (L : Loc) (T : Tab) : Y5 P o K e L T =
  gdd e o.gd (tst P o.op e T fun v T' => v.isLp = false -> I2 (q06 e o.dst v) L T' o.rc /\ K (q06 e o.dst v) L T')
   (I2 (q06 e o.dst (.tup [])) L T o.rc /\ K (q06 e o.dst (.tup [])) L T) False := by
 unfold Y5; simp only [h]
theorem qnz {e : Env} {L : Loc} {T : Tab} : ∀ {rc : RC}, I2 e L T rc -> ∀ p ∈ rc, qc7 p.2.1 p.2.2 e L T = q10 e p.1
 | (_, _, _) :: _, h, p, hp => by
  rcases List.mem_cons.1 hp with rfl | hp
  ·exact h.1
  ·exact qnz h.2 p hp
theorem qxl {e : Env} {L : Loc} {T : Tab} : ∀ {rc : RC}, (∀ p ∈ rc, qc7 p.2.1 p.2.2 e L T = q10 e p.1) -> I2 e L T rc
 | [], _ => trivial
 | (_, _, _) :: _, h => ⟨h _ (List.mem_cons_self ..), qxl fun p hp => h p (List.mem_cons_of_mem _ hp)⟩
theorem qxm (T : Tab) {id id' : Nat} (h : id ≠ id') (a b : Slot) : (T.put id a).put id' b = (T.put id' b).put id a := by
 funext j; simp only [Tab.put]; split
 ·rename_i e; subst e; rw [if_neg (Ne.symm h)]
 ·rfl
theorem z12 {P : Program} {y x : SOp} (ha : Apart y x) (hyy : ∀ k, y.dst = some k -> k ∉ y.looks) (hs : Swaps y x) {K : Env -> Loc -> Tab -> Prop} (hK : qxf K) {e : Env} {L : Loc} {T : Tab} (H : Y5 P y (Y5 P x K) e L T) :
  Y5 P { x with rc := q4l y x.rc } (Y5 P y K) e L T := by
 cases hs with
 | sb z w p v a hy hx gy gx dy ry rx =>
  have ky : y.op.kind = .teff := by rw [hy]; rfl
  have kx : x.op.kind = .teff := by rw [hx]; rfl
  have hn : q4l y x.rc = [] := by rw [rx]; unfold q4l; split <;> rfl
  rw [q6b ky] at H
  rw [q6b (o := { x with rc := q4l y x.rc }) kx]
  simp only [gdd, gy, hy, tst] at H
  cases hp : Z7 e p with
  | none => simp [hp] at H
  | some pv =>
  cases hv : Z7 e v with
  | none => simp [hp, hv] at H
  | some vv =>
  simp only [hp, hv] at H
  cases pv with
  | ptr id0 o =>
   simp only at H
   cases hT : T id0 with
   | row q cells =>
    simp only [hT] at H
    obtain ⟨s1, s2, s3, H⟩ := H
    have H := (H rfl).2
    rw [q6b kx] at H
    simp only [gdd, gx, hx, tst, dy, q06] at H
    cases hav : Z7 e a with
    | none => simp [hav] at H
    | some av =>
    simp only [hav] at H
    obtain ⟨t1, H⟩ := H
    simp only [gdd, gx, hx, tst, hav]
    refine ⟨t1, fun id hid _ => ⟨by rw [hn]; trivial, ?_⟩⟩
    have hne : id0 ≠ id := fun e => by subst e; rw [hT] at hid; cases hid
    have h := (H id (by rw [Tab.put_ne _ _ (Ne.symm hne)]; exact hid) rfl).2
    rw [q6b ky]
    have hag := q7a e (d := x.dst) (S := y.looks) (fun k hk => ha.xy k hk) (.ptr id 0)
    rw [qn0 (e' := e) (fun s hs => hag s (List.mem_append_left _ hs))]
    simp only [gdd, gy, hy, tst, hp, hv, Tab.put_ne _ _ hne, hT]
    refine ⟨s1, s2, s3, fun _ => ⟨by rw [ry]; trivial, ?_⟩⟩
    rw [dy]
    simp only [q06]
    rw [qxm _ (Ne.symm hne)]
    exact h
   | _ => simp only [hT] at H
  | _ => exact H.elim
 | vv ky kx =>
  rw [q5g ky] at H
  cases hy : qc7 y.op y.gd e L T with
  | none => simp [hy] at H
  | some vy =>
  simp only [hy] at H
  rw [q5g kx] at H
  cases hx : qc7 x.op x.gd (q06 e y.dst vy) L T with
  | none => simp [hx] at H
  | some vx =>
  simp only [hx] at H
  rw [q5g (o := { x with rc := q4l y x.rc }) kx]
  simp only
  rw [q8h (e' := e) (q7a e (fun k hk => ha.yx k hk) vy)] at hx
  rw [hx]
  simp only
  rw [q5g ky, q8h (e' := e) (q7a e (fun k hk => ha.xy k hk) vx), hy]
  exact hK _ _ _ _ _ (qcb e ha.ne vy vx) (fun _ => rfl) H
 | vl ky kx hl =>
  rw [q5g ky] at H
  cases hy : qc7 y.op y.gd e L T with
  | none => simp [hy] at H
  | some vy =>
  simp only [hy] at H
  rw [q32 kx] at H
  have hq := qrn (x := x) (e := e) (L := L) (d := y.dst) (v := vy) ha.yx ha.ne (fun l p hlw e => by subst e; exact hl l hlw (qxj hy))
  rw [q32 (o := { x with rc := q4l y x.rc }) kx]
  have hgl : glv { x with rc := q4l y x.rc } e L = glv x e L := rfl
  rw [hgl]
  cases hx : glv x e L with
  | none =>
   rw [hx] at hq
   cases hx' : glv x (q06 e y.dst vy) L with
   | none => simp [hx'] at H
   | some q => rw [hx'] at hq; exact hq.elim
  | some q =>
   obtain ⟨e2, L1⟩ := q
   rw [hx] at hq
   cases hx' : glv x (q06 e y.dst vy) L with
   | none => simp [hx'] at H
   | some q' =>
    obtain ⟨e1, L1'⟩ := q'
    rw [hx'] at hq
    simp only [hx'] at H
    simp only
    rw [q5g ky, qu7 hx ha.xy hl T, hy]
    exact hK _ _ _ _ _ hq.1 hq.2 H
 | lv ky kx hl =>
  rw [q32 ky] at H
  cases hy : glv y e L with
  | none => simp [hy] at H
  | some q =>
  obtain ⟨e1, L1⟩ := q
  simp only [hy] at H
  rw [q5g kx, qu7 hy ha.yx hl T] at H
  rw [q5g (o := { x with rc := q4l y x.rc }) kx]
  simp only
  cases hx : qc7 x.op x.gd e L T with
  | none => simp [hx] at H
  | some vx =>
  simp only [hx] at H ⊢
  have hne : x.dst ≠ y.dst \/ x.dst = none := by
   rcases ha.ne with h | h
   ·exact .inl (fun e => h e.symm)
   ·by_cases hx0 : x.dst = none
    ·exact .inr hx0
    ·exact .inl (fun e => hx0 (by rw [e, h]))
  have hq := qrn (x := y) (e := e) (L := L) (d := x.dst) (v := vx) ha.xy hne (fun l p hlw e => by subst e; exact hl l hlw (qxj hx))
  rw [q32 ky]
  rw [hy] at hq
  cases hy' : glv y (q06 e x.dst vx) L with
  | none => rw [hy'] at hq; exact hq.elim
  | some q' =>
   obtain ⟨e2, L2⟩ := q'
   rw [hy'] at hq
   exact hK _ _ _ _ _ (fun s => (hq.1 s).symm) (fun s => (hq.2 s).symm) H
 | vt ky kx hr =>
  rw [q5g ky] at H
  cases hy : qc7 y.op y.gd e L T with
  | none => simp [hy] at H
  | some vy =>
  simp only [hy] at H
  rw [q6b kx] at H
  rw [q6b (o := { x with rc := q4l y x.rc }) kx]
  simp only
  have hagx : Ag x.looks (q06 e y.dst vy) e := q7a e (fun k hk => ha.yx k hk) vy
  rw [qfv (fun s hs => hagx s (List.mem_append_right _ hs)), qn0 (fun s hs => hagx s (List.mem_append_left _ hs))] at H
  have key : ∀ v T', I2 (q06 (q06 e y.dst vy) x.dst v) L T' x.rc /\ K (q06 (q06 e y.dst vy) x.dst v) L T' ->
    (y.op.readsT = false -> ∀ T1, qc7 y.op y.gd e L T1 = some vy) ->
    I2 (q06 e x.dst v) L T' (q4l y x.rc) /\ Y5 P y K (q06 e x.dst v) L T' := by
   intro v T' ⟨h1, h2⟩ hind
   refine ⟨qxl fun p hp => ?_, ?_⟩
   ·rw [q4l, ky, if_neg (by decide), qxi, List.mem_filter] at hp
    have := qnz h1 p hp.1
    cases hd : y.dst with
    | none => simp only [hd, q06] at this; exact this
    | some k =>
     have hp2 := hp.2
     simp only [hd, Bool.and_eq_true, bne_iff_ne, ne_eq, Bool.not_eq_true'] at hp2
     have hne : k ∉ z3n p := by simpa using hp2.2
     rw [hd] at this
     have hq := qcb e (d := some k) (d' := x.dst) (by rw [<- hd]; exact ha.ne) vy v
     rw [q8h (e' := q06 (q06 e x.dst v) (some k) vy) (hq.ag _), hq p.1] at this
     rw [q8h (e' := q06 e x.dst v) (q7a _ (fun k' hk' => by injection hk' with hk'; subst hk'; exact hne) vy)] at this
     rw [this]
     simp only [q06, q1m]
     rw [if_neg (fun e => hp2.1 e.symm)]
   ·rw [q5g ky]
    have hv : qc7 y.op y.gd (q06 e x.dst v) L T' = some vy := by
     rw [q8h (e' := e) (q7a e (fun k hk => ha.xy k hk) v)]
     rcases hr with hr | ⟨k, hk, hm⟩
     ·exact hind hr T'
     ·have := qnz h1 _ hm
      simp only at this
      have hq := qcb e (d := y.dst) (d' := x.dst) ha.ne vy v
      rw [q8h (e' := q06 (q06 e x.dst v) y.dst vy) (hq.ag _), hq k] at this
      rw [q8h (e' := q06 e x.dst v) (q7a _ hyy vy), q8h (e' := e) (q7a e (fun k hk => ha.xy k hk) v), hk] at this
      simp only [q06, q1m, if_true] at this
      exact this
    rw [hv]
    exact hK _ _ _ _ _ (qcb e ha.ne vy v) (fun _ => rfl) h2
  have hind : y.op.readsT = false -> ∀ T1, qc7 y.op y.gd e L T1 = some vy := fun h T1 => by rw [z79 h e L T1 T, hy]
  exact qji (fun h => qnx (fun v T' hv hlp => key v T' (hv hlp) hind) h) (fun h => key _ _ h hind) H
 | lt ky kx =>
  rw [q32 ky] at H
  cases hy : glv y e L with
  | none => simp [hy] at H
  | some q =>
  obtain ⟨e1, L1⟩ := q
  simp only [hy] at H
  rw [q6b kx] at H
  rw [q6b (o := { x with rc := q4l y x.rc }) kx]
  simp only
  have hne : x.dst ≠ y.dst \/ x.dst = none := by
   rcases ha.ne with h | h
   ·exact .inl (fun e => h e.symm)
   ·by_cases hx0 : x.dst = none
    ·exact .inr hx0
    ·exact .inl (fun e => hx0 (by rw [e, h]))
  have hev : (∀ k, tst P x.op e1 T k = tst P x.op e T k) /\ (∀ (p q : Prop), gdd e1 x.gd p q False = gdd e x.gd p q False) := by
   rcases qpl hy ha.yx with ⟨l, _, _, h3⟩ | ⟨_, h3⟩
   ·rcases h3 with h3 | h3
    ·exact ⟨fun k => by rw [qn0 (fun s hs => h3 s (List.mem_append_left _ hs)), z10], fun p q => by rw [qfv (fun s hs => h3 s (List.mem_append_right _ hs)), qu5]⟩
    ·exact ⟨fun k => by rw [qn0 (fun s hs => h3 s (List.mem_append_left _ hs))], fun p q => by rw [qfv (fun s hs => h3 s (List.mem_append_right _ hs))]⟩
   ·exact ⟨fun k => by rw [qn0 (fun s hs => h3 s (List.mem_append_left _ hs))], fun p q => by rw [qfv (fun s hs => h3 s (List.mem_append_right _ hs))]⟩
  rw [hev.2, hev.1] at H
  have key : ∀ v T', v.isLp = false -> K (q06 e1 x.dst v) L1 T' -> Y5 P y K (q06 e x.dst v) L T' := by
   intro v T' hlp hk
   have hq := qrn (x := y) (e := e) (L := L) (d := x.dst) (v := v) ha.xy hne (fun l p _ e => by subst e; cases hlp)
   rw [q32 ky]
   rw [hy] at hq
   cases hy' : glv y (q06 e x.dst v) L with
   | none => rw [hy'] at hq; exact hq.elim
   | some q' =>
    obtain ⟨e2, L2⟩ := q'
    rw [hy'] at hq
    exact hK _ _ _ _ _ (fun s => (hq.1 s).symm) (fun s => (hq.2 s).symm) hk
  have hrc : q4l y x.rc = [] := by rw [q4l, ky, if_pos rfl]
  rw [hrc]
  exact qji (fun h => qnx (fun v T' hv hlp => ⟨trivial, key v T' hlp (hv hlp).2⟩) h) (fun h => ⟨trivial, key _ _ rfl h.2⟩) H
 | ll zy zx hy hx gy gx hd =>
  have ky : y.op.kind = .leff := by rw [hy]; rfl
  have kx : x.op.kind = .leff := by rw [hx]; rfl
  rw [q32 ky] at H
  rw [q32 (o := { x with rc := q4l y x.rc }) kx]
  cases dy : y.dst with
  | none => exact absurd dy hd
  | some ly =>
  cases dx : x.dst with
  | none =>
   have h1 : ∀ e L, glv x e L = none := fun e L => by simp [glv, gx, gdd, hx, lev, dx]
   have h2 : glv y e L = some (q96 (q1u e ly) ly (.lp ly 0), q96 L ly zy) := by simp [glv, gy, gdd, hy, lev, dy]
   simp only [h2, q32 kx, h1] at H
  | some lx =>
   have hne : ly ≠ lx := by
    rcases ha.ne with h | h
    ·intro e; exact h (by rw [dy, dx, e])
    ·exact absurd h hd
   have h1 : ∀ e L, glv x e L = some (q96 (q1u e lx) lx (.lp lx 0), q96 L lx zx) := fun e L => by simp [glv, gx, gdd, hx, lev, dx]
   have h1' : glv { dst := some lx, op := x.op, gd := x.gd, rc := q4l y x.rc } e L = some (q96 (q1u e lx) lx (.lp lx 0), q96 L lx zx) := by simp [glv, gx, gdd, hx, lev]
   have h2 : ∀ e L, glv y e L = some (q96 (q1u e ly) ly (.lp ly 0), q96 L ly zy) := fun e L => by simp [glv, gy, gdd, hy, lev, dy]
   simp only [h2, q32 kx, h1] at H
   simp only [h1', q32 ky, h2]
   refine hK _ _ _ _ _ (fun s => ?_) (fun s => ?_) H
   ·simp only [q1m, q4j]
    by_cases e1 : lx = s
    ·subst e1
     simp [hne, AV.offLp, Ne.symm hne]
    ·by_cases e2 : ly = s
     ·subst e2
      simp [e1, AV.offLp, hne]
     ·simp only [e1, e2, if_false, Option.map_map]
      congr 1
      funext v
      cases v <;> simp only [Function.comp, AV.offLp]
      rename_i l p
      by_cases q1 : l = ly
      ·subst q1
       rw [if_pos rfl, if_neg (fun e => hne e)]
       simp only [if_true]
      ·by_cases q2 : l = lx
       ·subst q2; simp only [q1, if_false, if_true]
       ·simp only [q1, q2, if_false]
   ·simp only [q1m]
    by_cases e1 : lx = s
    ·subst e1; simp [hne]
    ·simp [e1]
end Go.Aw
namespace Go.Aw
open Go
set_option linter.all false
variable [Glob]
structure OkOp (P : Program) (H : Hint) (n : Nat) (ops : Array Oper) (o : Oper) (s : SOp) : Prop where
 op : z73 P H o = some s.op
 dst : s.dst = o.dst
 lt : ∀ k, o.dst = some k -> k < n
 gd : match o.guard with
  | none => s.gd = none
  | some (j, want) => ∃ k, (ops[j]?).bind (·.dst) = some k /\ s.gd = some (k, want)
section
variable {P : Program} {H : Hint} {X0 : Cx} {T0 : Tab} {w0 : World} {X : Cx} {lam : Nat -> Nat} {env : Env} {L : Loc} {T : Tab} {a : Act} {w : World} {ops : Array Oper} {Q : Exit -> Act -> World -> Prop}
theorem qve (s : SOp) (h : s.gd = none) (K : Env -> Loc -> Tab -> Prop) (e : Env) (L : Loc) (T : Tab) : Y5 P s K e L T = q4w P s.op s.dst s.rc K e L T := by
 unfold Y5 q4w
 rw [h]
 cases hk : s.op.kind <;> simp only [qc7, gdd]
theorem qvf (s : SOp) {k : Nat} {want : Bool} (h : s.gd = some (k, want)) (K : Env -> Loc -> Tab -> Prop) (e : Env) (L : Loc) (T : Tab) (H : Y5 P s K e L T) :
  (q10 e k = some (.b want) /\ q4w P s.op s.dst s.rc K e L T) \/ ((∃ x, q10 e k = some x /\ (x = .b (!want) \/ x = .tup [])) /\ K (q06 e s.dst (.tup [])) L T) := by
 unfold Y5 at H
 rw [h] at H
 have fin : ∀ {α : Type} {y nn z : α} (r : α), gdd e (some (k, want)) y nn z = r -> (q10 e k = some (.b want) /\ r = y) \/ ((∃ x, q10 e k = some x /\ (x = .b (!want) \/ x = .tup [])) /\ r = nn) \/ r = z := by
  intro α y nn z r hr
  subst hr
  simp only [gdd]
  split
  ·rename_i x hx
   split
   ·rename_i hw; subst hw; exact .inl ⟨hx, rfl⟩
   ·rename_i hw
    refine .inr (.inl ⟨⟨_, hx, .inl ?_⟩, rfl⟩)
    cases x <;> cases want <;> simp_all
  ·rename_i hx; exact .inr (.inl ⟨⟨_, hx, .inr rfl⟩, rfl⟩)
  ·exact .inr (.inr rfl)
 unfold q4w
 cases hk : s.op.kind with
 | val =>
  simp only [hk, qc7] at H
  rcases fin _ (rfl : gdd e (some (k, want)) (vev s.op e L T) (some (.tup [])) none = _) with ⟨h1, h2⟩ | ⟨h1, h2⟩ | h2
  ·rw [h2] at H; exact .inl ⟨h1, H⟩
  ·rw [h2] at H; exact .inr ⟨h1, H⟩
  ·rw [h2] at H; exact H.elim
 | leff =>
  simp only [hk] at H
  rcases fin _ (rfl : gdd e (some (k, want)) (lev s.op s.dst e L) (some (q06 e s.dst (.tup []), L)) none = _) with ⟨h1, h2⟩ | ⟨h1, h2⟩ | h2
  ·rw [h2] at H; exact .inl ⟨h1, H⟩
  ·rw [h2] at H; exact .inr ⟨h1, H⟩
  ·rw [h2] at H; exact H.elim
 | teff =>
  simp only [hk] at H
  rcases fin _ (rfl : gdd e (some (k, want)) _ _ False = _) with ⟨h1, h2⟩ | ⟨h1, h2⟩ | h2
  ·rw [h2] at H; exact .inl ⟨h1, H⟩
  ·rw [h2] at H; exact .inr ⟨h1, H.2⟩
  ·rw [h2] at H; exact H.elim
 | snil =>
  simp only [hk] at H
  rcases fin _ (rfl : gdd e (some (k, want)) _ _ False = _) with ⟨h1, h2⟩ | ⟨h1, h2⟩ | h2
  ·rw [h2] at H
   refine .inl ⟨h1, ?_⟩
   unfold q4w at H
   rw [hk] at H
   exact H
  ·rw [h2] at H; exact .inr ⟨h1, H⟩
  ·rw [h2] at H; exact H.elim
theorem qk3 {n : Nat} {i : Nat} {o : Oper} {s : SOp} (hi : ops[i]? = some o) (ho : OkOp P H n ops o s) (h : SR X0 T0 w0 X lam env L T a w) (hn : a.tmps.size = n) {K : Env -> Loc -> Tab -> Prop} (hk : Y5 P s K env L T) :
  wpOp P ops Q i (Nx X0 T0 w0 n K) a w := by
 subst hn
 unfold wpOp
 simp only [hi]
 have hgd := ho.gd
 cases hg : o.guard with
 | none =>
  rw [hg] at hgd
  rw [qve s hgd, ho.dst] at hk
  have hw : Region.wanted o (yielded ops a.tmps) = true := by simp [Region.wanted, hg]
  rw [if_pos hw]
  exact .inl (qk1 h ho.op ho.lt hk)
 | some q =>
  obtain ⟨j, want⟩ := q
  rw [hg] at hgd
  obtain ⟨k, hj, hgd⟩ := hgd
  have hy : ∀ x, q10 env k = some x -> ∃ v, a.tmps[k]? = some v /\ evr X lam w x v := fun x hx => h.env k x hx
  rcases qvf s hgd K env L T hk with ⟨h1, h2⟩ | ⟨⟨x, h1, h2⟩, h3⟩
  ·obtain ⟨v, hv, hr⟩ := hy _ h1
   simp only [evr, vr] at hr
   subst hr
   have hw : Region.wanted o (yielded ops a.tmps) = true := by simp [Region.wanted, hg, yielded, hj, hv]
   rw [if_pos hw]
   rw [ho.dst] at h2
   exact .inl (qk1 h ho.op ho.lt h2)
  ·obtain ⟨v, hv, hr⟩ := hy _ h1
   have hw : Region.wanted o (yielded ops a.tmps) = false := by
    rcases h2 with rfl | rfl
    ·simp only [evr, vr] at hr
     subst hr
     cases want <;> simp [Region.wanted, hg, yielded, hj, hv]
    ·simp only [evr, vr, vrs] at hr
     obtain ⟨us, rfl, rfl⟩ := hr
     simp [Region.wanted, hg, yielded, hj, hv]
   rw [if_neg (by rw [hw]; decide)]
   rw [ho.dst] at h3
   exact Nx.undef h ho.lt h3
def qxn (X0 : Cx) (T0 : Tab) (w0 : World) (n : Nat) (K : Env -> Loc -> Tab -> Prop) (Q : Exit -> Act -> World -> Prop) : Prop := ∀ a w, Nx X0 T0 w0 n K a w -> Q .normal a w
def OkL (P : Program) (H : Hint) (n : Nat) (ops : Array Oper) : List Nat -> List SOp -> Prop
 | [], [] => True
 | i :: is, s :: ss => (∃ o, ops[i]? = some o /\ OkOp P H n ops o s) /\ OkL P H n ops is ss
 | _, _ => False
theorem qu8 {n : Nat} {K : Env -> Loc -> Tab -> Prop} (hQ : qxn X0 T0 w0 n K Q) : ∀ (is : List Nat) (ss : List SOp), OkL P H n ops is ss ->
  ∀ {a w}, Nx X0 T0 w0 n (qpi P ss K) a w -> wpOps P ops Q is a w
 | [], [], _, a, w, h => hQ a w h
 | [], _ :: _, hf, _, _, _ => hf.elim
 | _ :: _, [], hf, _, _, _ => hf.elim
 | i :: is, s :: ss, ⟨⟨o, hi, ho⟩, hf⟩, a, w, ⟨X, lam, env, L, T, hk, hsr, hn⟩ => by
  rw [wpOps_cons]
  exact wpOp_mono (fun a w h => qu8 hQ is ss hf h) (qk3 hi ho hsr hn hk)
theorem z4g (y x : SOp) : (qrm y.dst x.looks && qrm x.dst y.looks && (y.dst != x.dst || y.dst.isNone)) = true -> Apart y x := by
 intro h
 simp only [Bool.and_eq_true, Bool.or_eq_true, bne_iff_ne, ne_eq, Option.isNone_iff_eq_none] at h
 exact ⟨qh9 h.1.1, qh9 h.1.2, h.2⟩
def qu9 (y x : SOp) (rc : RC) : Bool :=
 match y.op.kind, x.op.kind with
 | .val, .val => true
 | .val, .leff => x.lw.isNone || y.op.lpd != x.lw
 | .leff, .val => y.lw.isNone || x.op.lpd != y.lw
 | .val, .teff => !y.op.readsT || rc.any (fun p => some p.1 == y.dst)
 | .leff, .teff => true
 | .leff, .leff => (match y.op, x.op with | .lalloc _, .lalloc _ => true | _, _ => false) && y.gd.isNone && x.gd.isNone && y.dst.isSome
 | .teff, .teff => (match y.op, x.op with | .st _ _ _, .hbox _ _ => true | _, _ => false) && y.gd.isNone && x.gd.isNone && y.dst.isNone && y.rc.isEmpty && x.rc.isEmpty
 | _, _ => false
def qma (y x : SOp) (rc : RC) : Bool :=
 qrm y.dst x.looks && qrm x.dst y.looks && (y.dst != x.dst || y.dst.isNone) && qrm y.dst y.looks && qu9 y x rc
def qxo (C : List SOp) (rc : RC) : Prop := ∀ p ∈ rc, ∃ z ∈ C, z.dst = some p.1 /\ p.2 = (z.op, z.gd)
theorem qvg {C : List SOp} {y x : SOp} {rc : RC} (h : qma y x rc = true) (hx : x.rc = rc) (hC : qxo C rc) (hd : ∀ z ∈ C, z.dst ≠ none -> z.dst = y.dst -> z.op = y.op /\ z.gd = y.gd) :
  Apart y x /\ (∀ k, y.dst = some k -> k ∉ y.looks) /\ Swaps y x := by
 unfold qma at h
 simp only [Bool.and_eq_true] at h
 obtain ⟨⟨h1, h2⟩, h3⟩ := h
 refine ⟨z4g y x (by simpa only [Bool.and_eq_true] using h1), qh9 h2, ?_⟩
 unfold qu9 at h3
 split at h3
 ·rename_i k1 k2; exact .vv k1 k2
 ·rename_i k1 k2
  refine .vl k1 k2 fun l hl e => ?_
  simp [hl, e] at h3
 ·rename_i k1 k2
  refine .lv k1 k2 fun l hl e => ?_
  simp [hl, e] at h3
 ·rename_i k1 k2
  refine .vt k1 k2 ?_
  simp only [Bool.or_eq_true, Bool.not_eq_true'] at h3
  rcases h3 with h3 | h3
  ·exact .inl h3
  ·right
   obtain ⟨p, hp, hpd⟩ := List.any_eq_true.1 h3
   have hpd : some p.1 = y.dst := by simpa using hpd
   obtain ⟨z, hz, hz1, hz2⟩ := hC p hp
   obtain ⟨e1, e2⟩ := hd z hz (by rw [hz1]; simp) (by rw [hz1, hpd])
   refine ⟨p.1, hpd.symm, ?_⟩
   rw [<- e1, <- e2, hx]
   have : (p.1, z.op, z.gd) = p := by rw [<- hz2]
   rw [this]; exact hp
 ·rename_i k1 k2; exact .lt k1 k2
 ·simp only [Bool.and_eq_true] at h3
  obtain ⟨⟨⟨h4, h5⟩, h6⟩, h7⟩ := h3
  split at h4
  ·rename_i zy zx e1 e2
   exact .ll zy zx e1 e2 (by simpa using h5) (by simpa using h6) (by intro e; simp [e] at h7)
  ·cases h4
 ·simp only [Bool.and_eq_true] at h3
  obtain ⟨⟨⟨⟨⟨h4, h5⟩, h6⟩, h7⟩, h8⟩, h9⟩ := h3
  split at h4
  ·rename_i z p v w a e1 e2
   exact .sb z w p v a e1 e2 (by simpa using h5) (by simpa using h6) (by simpa using h7) (by simpa using h8) (by simpa using h9)
  ·cases h4
 ·cases h3
def qxp (x : SOp) : List SOp -> RC -> Option RC
 | [], rc => some rc
 | y :: pre, rc => match qxp x pre rc with
  | some r => if qma y x r then some (q4l y r) else none
  | none => none
theorem qvh {y : SOp} {r r' : RC} (h : ∀ p ∈ r, p ∈ r') : ∀ p ∈ q4l y r, p ∈ q4l y r' := by
 intro p hp
 unfold q4l at hp ⊢
 split
 ·rename_i hk; rw [if_pos hk] at hp; exact hp
 ·rename_i hk
  rw [if_neg hk] at hp
  rw [qxi, List.mem_filter] at hp ⊢
  exact ⟨h p hp.1, hp.2⟩
theorem qvi {y x : SOp} {r r' : RC} (h : ∀ p ∈ r, p ∈ r') (hs : qma y x r = true) : qma y x r' = true := by
 unfold qma at hs ⊢
 simp only [Bool.and_eq_true] at hs ⊢
 refine ⟨hs.1, ?_⟩
 have h3 := hs.2
 cases hy : y.op.kind <;> cases hx : x.op.kind <;> simp only [qu9, hy, hx] at h3 ⊢ <;> first
  | exact h3
  | skip
 simp only [Bool.or_eq_true] at h3 ⊢
 rcases h3 with h3 | h3
 ·exact .inl h3
 ·obtain ⟨p, hp, hpd⟩ := List.any_eq_true.1 h3
  exact .inr (List.any_eq_true.2 ⟨p, h p hp, hpd⟩)
theorem z13 {y x : SOp} {r : RC} (h : qma y x r = true) (hsub : ∀ p ∈ r, p ∈ x.rc) : qma y { x with rc := r } r = true := by
 unfold qma at h ⊢
 simp only [Bool.and_eq_true] at h ⊢
 refine ⟨h.1, ?_⟩
 have h3 := h.2
 cases hy : y.op.kind <;> cases hx : x.op.kind <;> simp only [qu9, hy, hx] at h3 ⊢ <;> first
  | exact h3
  | skip
 simp only [Bool.and_eq_true] at h3 ⊢
 refine ⟨h3.1, ?_⟩
 have hr : x.rc = [] := by simpa using h3.2
 cases r with
 | nil => rfl
 | cons p r => have := hsub p (List.mem_cons_self ..); rw [hr] at this; cases this
theorem qcc {x : SOp} {rc : RC} : ∀ {l l' : List SOp}, l'.Sublist l -> ∀ {r}, qxp x l rc = some r -> ∃ r', qxp x l' rc = some r' /\ ∀ p ∈ r, p ∈ r'
 | _, _, .slnil, r, h => ⟨r, h, fun _ hp => hp⟩
 | y :: l, l', .cons _ hs, r, h => by
  simp only [qxp] at h
  split at h
  ·rename_i r1 h1
   split at h
   ·injection h with h; subst h
    obtain ⟨r', h2, h3⟩ := qcc hs h1
    refine ⟨r', h2, fun p hp => h3 p ?_⟩
    unfold q4l at hp
    split at hp
    ·cases hp
    ·exact (List.mem_filter.1 hp).1
   ·cases h
  ·cases h
 | y :: l, _, .cons_cons _ hs, r, h => by
  simp only [qxp] at h
  split at h
  ·rename_i r1 h1
   split at h
   ·rename_i hsw
    injection h with h; subst h
    obtain ⟨r', h2, h3⟩ := qcc hs h1
    refine ⟨q4l y r', ?_, qvh h3⟩
    simp only [qxp, h2, qvi h3 hsw, if_true]
   ·cases h
  ·cases h
theorem qn1 {C : List SOp} {x : SOp} {K : Env -> Loc -> Tab -> Prop} (hK : qxf K) (post : List SOp) (hC : qxo C x.rc) : ∀ (pre : List SOp), (∀ y ∈ pre, y ∈ C) ->
  (∀ y ∈ C, ∀ z ∈ C, z.dst ≠ none -> z.dst = y.dst -> z.op = y.op /\ z.gd = y.gd) -> ∀ {r}, qxp x pre x.rc = some r ->
  (∀ p ∈ r, p ∈ x.rc) /\ ∀ {env L T}, qpi P (pre ++ x :: post) K env L T -> Y5 P { x with rc := r } (qpi P (pre ++ post) K) env L T
 | [], _, _, r, h => by
  simp only [qxp] at h; injection h with h; subst h
  exact ⟨fun _ hp => hp, fun H => H⟩
 | y :: pre, hm, hd, r, h => by
  simp only [qxp] at h
  split at h
  ·rename_i r1 h1
   split at h
   ·rename_i hsw
    injection h with h; subst h
    obtain ⟨hsub, hih⟩ := qn1 hK post hC pre (fun z hz => hm z (List.mem_cons_of_mem _ hz)) hd h1
    refine ⟨fun p hp => ?_, fun H => ?_⟩
    ·unfold q4l at hp
     split at hp
     ·cases hp
     ·exact hsub p (List.mem_filter.1 hp).1
    ·have hy := hm y (List.mem_cons_self ..)
     have hs2 : qma y { x with rc := r1 } r1 = true := z13 hsw hsub
     obtain ⟨s1, s2, s3⟩ := qvg (C := C) (y := y) (x := { x with rc := r1 }) hs2 rfl (fun p hp => hC p (hsub p hp)) (fun z hz => hd y hy z hz)
     have H2 : Y5 P y (Y5 P { x with rc := r1 } (qpi P (pre ++ post) K)) _ _ _ :=
      qde (fun _ => rfl) (fun _ => rfl) (fun e e' L L' T he hl hk => opsG_ext_step hK (pre ++ post) he hl (hih hk)) H
     exact z12 s1 s2 s3 (qny hK _) H2
   ·cases h
  ·cases h
where
 opsG_ext_step {x : SOp} {K : Env -> Loc -> Tab -> Prop} (hK : qxf K) (l : List SOp) {e e' : Env} {L L' : Loc} {T : Tab} (he : EqE e e') (hl : EqL L L') (h : Y5 P x (qpi P l K) e L T) : Y5 P x (qpi P l K) e' L' T :=
  qde he hl (fun _ _ _ _ _ h1 h2 h3 => qny hK l _ _ _ _ _ h1 h2 h3) h
end
end Go.Aw
namespace Go.Aw
open Go
set_option linter.all false
variable [Glob]
abbrev Ent := Nat × SOp
def qcd (ops : Array Oper) (i : Nat) : List Nat :=
 match ops[i]? with
 | some o => (o.after.toList.filter (Region.binds .any)).map (·.on)
 | none => []
def zej (ops : Array Oper) : List Ent -> List (Nat × List Nat) -> List (Nat × List Nat)
 | [], acc => acc
 | (i, _) :: r, acc =>
  let es := qcd ops i
  let add (l : List Nat) (x : Nat) : List Nat := if l.contains x then l else x :: l
  let all := es.foldl (fun l e => ((q10 acc e).getD []).foldl add (add l e)) []
  zej ops r ((i, all) :: acc)
def qmb (A : List (Nat × List Nat)) (i : Nat) : List Nat := (q10 A i).getD []
def z7a (ops : Array Oper) (A : List (Nat × List Nat)) (C : List Ent) : Bool :=
 C.all fun x => (qmb A x.1).all fun y => (qcd ops x.1).any fun e => e == y || (qmb A e).contains y
def chk (ops : Array Oper) (A : List (Nat × List Nat)) : List Ent -> List Ent -> Bool
 | _, [] => true
 | l, x :: r => (qcd ops x.1).all (fun e => (l.map (·.1)).contains e) && (qxp x.2 ((l.filter fun y => !(qmb A x.1).contains y.1).map (·.2)) x.2.rc).isSome && chk ops A (l ++ [x]) r
def qpm : List Nat -> Bool
 | [] => true
 | x :: l => !l.contains x && qpm l
theorem qek : ∀ {l : List Nat}, qpm l = true -> l.Nodup
 | [], _ => List.nodup_nil
 | x :: l, h => by
  simp only [qpm, Bool.and_eq_true, Bool.not_eq_true'] at h
  exact List.nodup_cons.2 ⟨by simpa using h.1, qek h.2⟩
structure DrawOk (P : Program) (H : Hint) (n : Nat) (ops : Array Oper) (A : List (Nat × List Nat)) (C : List Ent) : Prop where
 ok : ∀ x ∈ C, ∃ o, ops[x.1]? = some o /\ OkOp P H n ops o x.2
 nodup : (C.map (·.1)).Nodup
 all : ∀ i, i < ops.size -> ∃ s, (i, s) ∈ C
 anc : z7a ops A C = true
 chk : chk ops A [] C = true
 rc : ∀ x ∈ C, qxo (C.map (·.2)) x.2.rc
 dsts : ∀ y ∈ C.map (·.2), ∀ z ∈ C.map (·.2), z.dst ≠ none -> z.dst = y.dst -> z.op = y.op /\ z.gd = y.gd
theorem qfw {ops : Array Oper} {A : List (Nat × List Nat)} : ∀ (r l : List Ent), chk ops A l r = true -> ∀ m x t, r = m ++ x :: t ->
  (∀ e ∈ qcd ops x.1, e ∈ (l ++ m).map (·.1)) /\ (qxp x.2 (((l ++ m).filter fun y => !(qmb A x.1).contains y.1).map (·.2)) x.2.rc).isSome = true
 | [], _, _, m, x, t, h => by cases m <;> cases h
 | z :: r, l, h, [], x, t, e => by
  simp only [List.nil_append, List.cons.injEq] at e
  obtain ⟨rfl, rfl⟩ := e
  simp only [Aw.chk, Bool.and_eq_true] at h
  rw [List.append_nil]
  refine ⟨fun e he => ?_, h.1.2⟩
  have := List.all_eq_true.1 h.1.1 e he
  simpa using this
 | z :: r, l, h, y :: m, x, t, e => by
  simp only [List.cons_append, List.cons.injEq] at e
  obtain ⟨rfl, rfl⟩ := e
  simp only [Aw.chk, Bool.and_eq_true] at h
  have := qfw (m ++ x :: t) (l ++ [z]) h.2 m x t rfl
  simpa using this
def unl (listed : Array Bool) (x : Ent) : Bool := !(listed.getD x.1 true)
section
variable {P : Program} {H : Hint} {X0 : Cx} {T0 : Tab} {w0 : World} {ops : Array Oper} {Q : Exit -> Act -> World -> Prop}
theorem qk4 {listed : Array Bool} {n : Nat} (hs : listed.size = n) {j : Nat} (hj : j < n) : listed.getD j true = listed.getD j false := by
 have : j < listed.size := by omega
 simp [this]
theorem qro {n : Nat} {A : List (Nat × List Nat)} {C : List Ent} (hC : DrawOk P H n ops A C) {K : Env -> Loc -> Tab -> Prop} (hK : qxf K) (hQ : qxn X0 T0 w0 n K Q) :
  ∀ (fuel : Nat) (listed : Array Bool), listed.size = ops.size -> (∀ x ∈ C, listed.getD x.1 false = true -> ∀ y ∈ qmb A x.1, listed.getD y false = true) ->
   (C.filter (unl listed)).length = fuel -> ∀ {a w}, Nx X0 T0 w0 n (qpi P ((C.filter (unl listed)).map (·.2)) K) a w -> wpAny P .any ops Q fuel listed a w := by
 have hlt : ∀ x ∈ C, x.1 < ops.size := fun x hx => by
  obtain ⟨o, ho, _⟩ := hC.ok x hx
  exact (Array.getElem?_eq_some_iff.1 ho).1
 have hanc : ∀ (listed : Array Bool), (∀ x ∈ C, listed.getD x.1 false = true -> ∀ y ∈ qmb A x.1, listed.getD y false = true) -> ∀ x ∈ C, (∀ e ∈ qcd ops x.1, listed.getD e false = true) ->
   ∀ y ∈ qmb A x.1, listed.getD y false = true := by
  intro listed hdn x hx hes y hy
  have h1 := List.all_eq_true.1 hC.anc x hx
  have h2 := List.all_eq_true.1 h1 y hy
  obtain ⟨e, he, h3⟩ := List.any_eq_true.1 h2
  have hl := hes e he
  simp only [Bool.or_eq_true, beq_iff_eq] at h3
  rcases h3 with rfl | h3
  ·exact hl
  ·have helt : e < ops.size := by
    obtain ⟨m, t, rfl⟩ := List.append_of_mem hx
    have := (qfw _ [] hC.chk m x t rfl).1 e he
    simp only [List.nil_append, List.mem_map] at this
    obtain ⟨z, hz, rfl⟩ := this
    exact hlt z (List.mem_append_left _ hz)
   obtain ⟨s, hs⟩ := hC.all e helt
   exact hdn (e, s) hs hl y (by simpa using h3)
 have hedges : ∀ {i : Nat} {o : Oper} {listed : Array Bool}, ops[i]? = some o -> ((∀ e ∈ o.after, Region.binds .any e = true -> listed.getD e.on false = true) ↔ ∀ e ∈ qcd ops i, listed.getD e false = true) := by
  intro i o listed ho
  simp only [qcd, ho, List.mem_map, List.mem_filter]
  constructor
  ·rintro h e ⟨e', ⟨h1, h2⟩, rfl⟩
   exact h e' (by simpa using h1) h2
  ·intro h e he hb
   exact h e.on ⟨e, ⟨by simpa using he, hb⟩, rfl⟩
 intro fuel
 induction fuel with
 | zero =>
  intro listed hs hdn hlen a w h
  have hnil : C.filter (unl listed) = [] := List.eq_nil_of_length_eq_zero hlen
  have hr : Region.ready .any ops listed = [] := by
   cases hr : Region.ready .any ops listed with
   | nil => rfl
   | cons i r =>
    have hi := (mem_ready (md := .any) (j := i)).1 (by rw [hr]; exact List.mem_cons_self ..)
    obtain ⟨h0, o, ho, _⟩ := hi
    obtain ⟨s, hs'⟩ := hC.all i (Array.getElem?_eq_some_iff.1 ho).1
    have : (i, s) ∈ C.filter (unl listed) := List.mem_filter.2 ⟨hs', by simp only [unl]; rw [h0]; rfl⟩
    rw [hnil] at this
    cases this
  rw [hnil] at h
  exact ⟨hr, hQ a w h⟩
 | succ fuel ih =>
  intro listed hs hdn hlen a w h
  refine ⟨fun hr => ?_, fun i hi => ?_⟩
  ·-- the first that is left is ready
   exfalso
   cases hf : C.filter (unl listed) with
   | nil => rw [hf] at hlen; cases hlen
   | cons x C' =>
    obtain ⟨l1, l2, rfl, hl1, hx, _⟩ := List.filter_eq_cons_iff.1 hf
    obtain ⟨o, ho, _⟩ := hC.ok x (List.mem_append_right _ (List.mem_cons_self ..))
    have hes : ∀ e ∈ qcd ops x.1, listed.getD e false = true := fun e he => by
     have := (qfw _ [] hC.chk l1 x l2 rfl).1 e he
     simp only [List.nil_append, List.mem_map] at this
     obtain ⟨z, hz, rfl⟩ := this
     have hz1 := hl1 z hz
     have hzl := hlt z (List.mem_append_left _ hz)
     simp only [unl, Bool.not_eq_true, Bool.not_eq_false'] at hz1
     rw [<- qk4 hs hzl]
     exact hz1
    have hm : x.1 ∈ Region.ready .any ops listed := mem_ready.2 ⟨by simpa [unl] using hx, o, ho, (hedges ho).2 hes⟩
    rw [hr] at hm
    cases hm
  ·obtain ⟨h0, o, ho, hall⟩ := mem_ready.1 hi
   have hilt := (Array.getElem?_eq_some_iff.1 ho).1
   obtain ⟨s, hsC⟩ := hC.all i hilt
   have hes := (hedges ho).1 hall
   have hanc' := hanc listed hdn (i, s) hsC hes
   obtain ⟨l1, l2, hsplit⟩ := List.append_of_mem hsC
   have hnd := hC.nodup
   rw [hsplit, List.map_append, List.map_cons] at hnd
   have hnd1 : ∀ y ∈ l1, y.1 ≠ i := fun y hy e => by
    have := (List.nodup_append.1 hnd).2.2 y.1 (List.mem_map_of_mem hy) i (List.mem_cons_self ..)
    exact this e
   have hnd2 : ∀ y ∈ l2, y.1 ≠ i := fun y hy e => by
    have h1 := (List.nodup_cons.1 (List.nodup_append.1 hnd).2.1).1
    have h2 : y.1 ∈ l2.map (·.1) := List.mem_map_of_mem hy
    rw [e] at h2
    exact h1 h2
   have hxu : unl listed (i, s) = true := by simp only [unl]; rw [h0]; rfl
   have hset : ∀ y : Ent, y.1 ≠ i -> unl (listed.setIfInBounds i true) y = unl listed y := fun y hy => by
    simp only [unl]; rw [getD_set_ne true (Ne.symm hy)]
   have hseti : unl (listed.setIfInBounds i true) (i, s) = false := by
    have : i < listed.size := by omega
    simp [unl, this]
   have hC1 : C.filter (unl listed) = l1.filter (unl listed) ++ (i, s) :: l2.filter (unl listed) := by
    rw [hsplit, List.filter_append, List.filter_cons_of_pos hxu]
   have hC2 : C.filter (unl (listed.setIfInBounds i true)) = l1.filter (unl listed) ++ l2.filter (unl listed) := by
    rw [hsplit, List.filter_append, List.filter_cons_of_neg (by rw [hseti]; decide)]
    congr 1
    ·exact List.filter_congr fun y hy => hset y (hnd1 y hy)
    ·exact List.filter_congr fun y hy => hset y (hnd2 y hy)
   obtain ⟨hce, hcm⟩ := qfw _ [] hC.chk l1 (i, s) l2 hsplit
   simp only [List.nil_append] at hcm
   obtain ⟨r, hr⟩ := Option.isSome_iff_exists.1 hcm
   have hsub : ((l1.filter (unl listed)).map (·.2)).Sublist ((l1.filter fun y => !(qmb A i).contains y.1).map (·.2)) := by
    refine List.Sublist.map _ ?_
    have : l1.filter (unl listed) = (l1.filter fun y => !(qmb A i).contains y.1).filter (unl listed) := by
     rw [List.filter_filter]
     refine List.filter_congr fun y hy => ?_
     cases hu : unl listed y with
     | false => simp
     | true =>
      have : y.1 ∉ qmb A i := fun hm => by
       have hl := hanc' y.1 hm
       have hyl := hlt y (by rw [hsplit]; exact List.mem_append_left _ hy)
       simp only [unl, Bool.not_eq_true'] at hu
       rw [qk4 hs hyl, hl] at hu
       cases hu
      simp [this]
    rw [this]
    exact List.filter_sublist
   obtain ⟨r', hr', _⟩ := qcc hsub hr
   obtain ⟨_, hmove⟩ := qn1 (P := P) (C := C.map (·.2)) (x := s) hK ((l2.filter (unl listed)).map (·.2)) (hC.rc (i, s) hsC) ((l1.filter (unl listed)).map (·.2))
    (fun y hy => by
     obtain ⟨z, hz, rfl⟩ := List.mem_map.1 hy
     exact List.mem_map_of_mem (by rw [hsplit]; exact List.mem_append_left _ (List.mem_filter.1 hz).1)) hC.dsts hr'
   obtain ⟨X, lam, env, L, T, hk, hsr, hn⟩ := h
   rw [hC1, List.map_append, List.map_cons] at hk
   have hk2 := hmove hk
   obtain ⟨o', ho', hok⟩ := hC.ok (i, s) hsC
   simp only at ho'
   rw [ho] at ho'
   injection ho' with ho'
   subst ho'
   have hok' : OkOp P H n ops o { s with rc := r' } := ⟨hok.op, hok.dst, hok.lt, hok.gd⟩
   refine wpOp_mono (fun a' w' h' => ?_) (qk3 ho hok' hsr hn hk2)
   refine ih (listed.setIfInBounds i true) (by simp [hs]) (fun x hx hl y hy => ?_) ?_ (by rw [hC2, List.map_append]; exact h')
   ·by_cases e : x.1 = i
    ·exact getD_set_true (hanc' y (by rw [<- e]; exact hy))
    ·rw [getD_set_ne false (Ne.symm e)] at hl
     exact getD_set_true (hdn x hx hl y hy)
   ·rw [hC2]
    rw [hC1] at hlen
    simp at hlen ⊢
    omega
theorem qk5 {n : Nat} {A : List (Nat × List Nat)} {C : List Ent} (hC : DrawOk P H n ops A C) (hm : P.follows .mixedOrders = true) {K : Env -> Loc -> Tab -> Prop} (hK : qxf K) (hQ : qxn X0 T0 w0 n K Q) {id : Nat} {a : Act} {w : World}
  (h : Nx X0 T0 w0 n (qpi P (C.map (·.2)) K) a w) : (Code.region id ops true).wp P Q a w := by
 have hall : C.filter (unl (Array.replicate ops.size false)) = C := by
  refine List.filter_eq_self.2 fun x hx => ?_
  obtain ⟨o, ho, _⟩ := hC.ok x hx
  have := (Array.getElem?_eq_some_iff.1 ho).1
  simp [unl, this]
 have hlen : C.length = ops.size := by
  have h1 : (C.map (·.1)).length = ops.size := by
   have hp : (C.map (·.1)).Perm (List.range ops.size) := by
    refine (List.perm_ext_iff_of_nodup hC.nodup List.nodup_range).2 fun i => ?_
    rw [List.mem_range, List.mem_map]
    constructor
    ·rintro ⟨x, hx, rfl⟩
     obtain ⟨o, ho, _⟩ := hC.ok x hx
     exact (Array.getElem?_eq_some_iff.1 ho).1
    ·intro hi
     obtain ⟨s, hs⟩ := hC.all i hi
     exact ⟨_, hs, rfl⟩
   rw [hp.length_eq, List.length_range]
  simpa using h1
 refine wp_region_any hm ?_
 obtain ⟨X, lam, env, L, T, hk, hsr, hn⟩ := h
 have hsr' : SR X0 T0 w0 X lam env L T a { w with drawn := w.drawn + 1 } := hsr.grow (qht w none)
 refine qro hC hK hQ ops.size _ (by simp) (fun x hx hl => ?_) (by rw [hall, hlen]) (by rw [hall]; exact ⟨X, lam, env, L, T, hk, hsr', hn⟩)
 exfalso
 by_cases hj : x.1 < ops.size
 ·simp [hj] at hl
 ·simp [hj] at hl
end
end Go.Aw
namespace Go.Aw
open Go
set_option linter.all false
variable [Glob]
def qua (T : Tab) (S : List Nat) (s' s : Slot) : Prop := s' = s \/ ∃ z c c', s = .row z c /\ s' = .row z c' /\ c'.length = c.length /\ ∀ X w us, vrs X w (c.map (qc6 T S)) us -> vrs X w c' us
theorem qxq (T : Tab) (id : Nat) : ∀ S : List Nat, qfo T S id = T id \/ qfo T S id = .unused
 | [] => .inl rfl
 | j :: S => by
  simp only [qfo]
  by_cases h : id = j
  ·subst h; exact .inr (Tab.put_same ..)
  ·rw [Tab.put_ne _ _ h]; exact qxq T id S
theorem SR.frT {X0 : Cx} {T0 : Tab} {w0 : World} {X : Cx} {lam : Nat -> Nat} {env : Env} {L : Loc} {T T' : Tab} {a : Act} {w : World}
  (h : SR X0 T0 w0 X lam env L T a w) (S : List Nat) (h1 : S.Nodup) (h2 : ∀ id ∈ S, T id ≠ .unused) (h3 : ∀ j, qua T S (T' j) (qfo T S j)) : SR X0 T0 w0 (X.addFzs S) lam env L T' a w := by
 have h4 := h.freezes S h1 h2
 have hu : ∀ id, T' id = .unused ↔ qfo T S id = .unused := fun id => by
  rcases h3 id with e | ⟨z, c, c', e1, e2, _⟩
  ·rw [e]
  ·rw [e1, e2]; constructor <;> intro h <;> cases h
 have hlive : ∀ b, qfl (X.addFzs S) T' b -> qfl (X.addFzs S) (qfo T S) b := fun b ⟨id, hid, e⟩ => ⟨id, fun k => hid ((hu id).2 k), e⟩
 refine ⟨⟨fun id hid => (hu id).2 (h4.rel.fresh id hid), h4.rel.fzlt, fun id esz cells hT => ?_, fun id es hT => ?_, fun id hid => h4.rel.live_fz id (fun k => hid ((hu id).2 k)),
  fun id id' a1 a2 => h4.rel.live_inj id id' (fun k => a1 ((hu id).2 k)) (fun k => a2 ((hu id').2 k)), h4.rel.loc, h4.rel.loc_fz, h4.rel.loc_inj, fun l c hc hl => h4.rel.loc_live l c hc (hlive _ hl), h4.rel.glob⟩,
  ⟨h4.step.le, h4.step.os, h4.step.tape, h4.step.output, h4.step.size, h4.step.kept, h4.step.fznew, fun b hb hl => h4.step.livenew b hb (hlive b hl), fun id hid hT => (hu id).2 (h4.step.idnew id hid hT)⟩, h4.locnew, h4.env, h4.defers⟩
 ·rcases h3 id with e | ⟨z, c, c', e1, e2, e3, e4⟩
  ·exact h4.rel.row id esz cells (e ▸ hT)
  ·rw [e2] at hT
   injection hT with q1 q2
   subst q1; subst q2
   have hk : T id = .row z c := by
    rcases qxq T id S with e | e
    ·rw [<- e, e1]
    ·rw [e] at e1; cases e1
   obtain ⟨cur, e, us, g1, g2, g3, g4, g5, g6, g7⟩ := h.rel.row id z c hk
   have hb : (X.addFzs S).β id = X.β id := by rw [Cx.addFzs_β]
   refine ⟨cur, e, us, by rw [hb]; exact g1, e4 _ _ _ (g2.map fun x v hx => qa0 h.rel hx), g3, by rw [hb]; exact g4, by rw [hb, e3]; exact g5, by rw [hb]; exact g6, by rw [hb]; exact g7⟩
 ·rcases h3 id with e | ⟨z, c, c', e1, e2, _⟩
  ·exact h4.rel.map id es (e ▸ hT)
  ·rw [e2] at hT; cases hT
inductive SC where
 | skip
 | ops (l : List SOp)
 | seq (a b : SC)
 | cond (c : Operand) (a b : SC)
 | block (id : Nat) (b : SC)
 | loop (b : SC)
 | exit (id : Nat)
 | ret
 | keep (ts ls : List Nat)
 | gfz
 deriving Inhabited
def frX (T : Tab) (S : List Nat) : AV -> AV
 | .lp l o => .lp l o
 | x => qm5 T S x
def z4h (T : Tab) (S : List Nat) (e e' : Env) : Prop := ∀ s x', q10 e' s = some x' -> ∃ x, q10 e s = some x /\ (x' = frX T S x \/ ∃ n c k, x = .fz n c k /\ x' = .fz n (c.map (qc6 T S)) k)
def qce {α : Type} : List Nat -> List (Nat × α) -> List (Nat × α)
 | [], _ => []
 | t :: ts, e => match q10 e t with
  | some x => (t, x) :: qce ts e
  | none => qce ts e
theorem qo0 {α : Type} {e e' : List (Nat × α)} (h : ∀ s, q10 e s = q10 e' s) : ∀ ts, qce ts e = qce ts e'
 | [] => rfl
 | t :: ts => by simp only [qce, h t, qo0 h ts]
theorem qdg {α : Type} {e : List (Nat × α)} {s : Nat} {x : α} : ∀ {ts : List Nat}, q10 (qce ts e) s = some x -> q10 e s = some x
 | [], h => by simp [qce, q10] at h
 | t :: ts, h => by
  simp only [qce] at h
  split at h
  ·rename_i y hy
   simp only [q10] at h
   split at h
   ·rename_i e1; subst e1; injection h with h; subst h; exact hy
   ·exact qdg h
  ·exact qdg h
inductive XE where
 | normal
 | exit (id : Nat)
 | ret
 deriving DecidableEq
abbrev G9 := XE -> Env -> Loc -> Tab -> Prop
def qa5 (K : Env -> Loc -> Tab -> Prop) (R : G9) : G9
 | .normal => K
 | .exit id => R (.exit id)
 | .ret => R .ret
def qwp (id : Nat) (R : G9) : G9
 | .normal => R .normal
 | .exit id' => if id' = id then R .normal else R (.exit id')
 | .ret => R .ret
def AW (P : Program) : SC -> G9 -> Env -> Loc -> Tab -> Prop
 | .skip, R => R .normal
 | .ops l, R => qpi P l (R .normal)
 | .seq a b, R => AW P a (qa5 (AW P b R) R)
 | .cond c a b, R => fun e L T => match Z7 e c with
  | some (.b x) => if x = true then AW P a R e L T else AW P b R e L T
  | _ => False
 | .block id c, R => AW P c (qwp id R)
 | .loop c, R => fun e L T => ∀ I : Env -> Loc -> Tab -> Prop, (∀ e L T, AW P c (qa5 I R) e L T -> I e L T) -> I e L T
 | .exit id, R => R (.exit id)
 | .ret, R => R .ret
 | .keep ts ls, R => fun e L T => R .normal (qce ts e) (qce ls L) T
 | .gfz, R => fun e L T => ∃ (S : List Nat) (T' : Tab) (E' : Env), S.Nodup /\ (∀ id ∈ S, T id ≠ .unused) /\ (∀ j, qua T S (T' j) (qfo T S j)) /\ z4h T S e E' /\ R .normal E' L T'
def z4i (R R' : G9) : Prop := ∀ x e e' L L' T, EqE e e' -> EqL L L' -> R x e L T -> R' x e' L' T
def ExtR (R : G9) : Prop := z4i R R
theorem ExtR.k {R : G9} (h : ExtR R) (x : XE) : qxf (R x) := fun e e' L L' T he hl hk => h x e e' L L' T he hl hk
theorem qcf {P : Program} : ∀ (c : SC) {R R' : G9}, z4i R R' -> ∀ {e e' : Env} {L L' : Loc} {T : Tab}, EqE e e' -> EqL L L' -> AW P c R e L T -> AW P c R' e' L' T
 | .skip, _, _, hR, _, _, _, _, _, he, hl, h => hR _ _ _ _ _ _ he hl h
 | .ops l, R, R', hR, _, _, _, _, _, he, hl, h => ops hR l he hl h
 | .seq a b, R, R', hR, _, _, _, _, _, he, hl, h => qcf a (R := qa5 (AW P b R) R) (R' := qa5 (AW P b R') R') (fun x e e' L L' T he hl h => by
   cases x with
   | normal => exact qcf b hR he hl h
   | exit id => exact hR _ _ _ _ _ _ he hl h
   | ret => exact hR _ _ _ _ _ _ he hl h) he hl h
 | .cond c a b, R, R', hR, e, e', _, _, _, he, hl, h => by
  simp only [AW] at h ⊢
  rw [q1a (he.ag _)] at h
  split at h
  ·split at h
   ·rename_i hx; simp only [hx, if_true]; exact qcf a hR he hl h
   ·rename_i hx; simp only [hx]; exact qcf b hR he hl h
  ·exact h.elim
 | .block id c, R, R', hR, _, _, _, _, _, he, hl, h => qcf c (R := qwp id R) (R' := qwp id R') (fun x e e' L L' T he hl h => by
   cases x with
   | normal => exact hR _ _ _ _ _ _ he hl h
   | exit id' =>
    simp only [qwp] at h ⊢
    split at h
    ·rename_i hx; rw [if_pos hx]; exact hR _ _ _ _ _ _ he hl h
    ·rename_i hx; rw [if_neg hx]; exact hR _ _ _ _ _ _ he hl h
   | ret => exact hR _ _ _ _ _ _ he hl h) he hl h
 | .loop c, R, R', hR, e, e', L, L', T, he, hl, h => by
  intro I hI
  refine h (fun e L T => ∀ e' L', EqE e e' -> EqL L L' -> I e' L' T) (fun e1 L1 T1 h1 e2 L2 he2 hl2 => hI _ _ _ ?_) e' L' he hl
  refine qcf c (R := qa5 _ R) (R' := qa5 I R') (fun x e e' L L' T he hl h => ?_) he2 hl2 h1
  cases x with
  | normal => exact h e' L' he hl
  | exit id => exact hR _ _ _ _ _ _ he hl h
  | ret => exact hR _ _ _ _ _ _ he hl h
 | .exit id, _, _, hR, _, _, _, _, _, he, hl, h => hR _ _ _ _ _ _ he hl h
 | .ret, _, _, hR, _, _, _, _, _, he, hl, h => hR _ _ _ _ _ _ he hl h
 | .keep ts ls, _, _, hR, _, _, _, _, _, he, hl, h => by
  simp only [AW] at h ⊢
  rw [<- qo0 he ts, <- qo0 hl ls]
  exact hR _ _ _ _ _ _ (fun _ => rfl) (fun _ => rfl) h
 | .gfz, _, _, hR, _, _, _, _, _, he, hl, h => by
  obtain ⟨S, m, E, h1, h2, h2', h5, h3⟩ := h
  exact ⟨S, m, E, h1, h2, h2', fun s x' hx => by
   have := h5 s x' hx
   rwa [he s] at this, hR _ _ _ _ _ _ (fun _ => rfl) hl h3⟩
where
 ops {R R' : G9} (hR : z4i R R') : ∀ (l : List SOp) {e e' : Env} {L L' : Loc} {T : Tab}, EqE e e' -> EqL L L' -> qpi P l (R .normal) e L T -> qpi P l (R' .normal) e' L' T
  | [], _, _, _, _, _, he, hl, h => hR _ _ _ _ _ _ he hl h
  | _ :: l, _, _, _, _, _, he, hl, h => qde he hl (fun _ _ _ _ _ h1 h2 h3 => ops hR l h1 h2 h3) h
theorem V8 {P : Program} (c : SC) {R : G9} (hR : ExtR R) : qxf (AW P c R) := fun _ _ _ _ _ he hl h => qcf c hR he hl h
theorem EqE.refl (e : Env) : EqE e e := fun _ => rfl
theorem EqL.refl (L : Loc) : EqL L L := fun _ => rfl
theorem V1 {P : Program} {c : SC} {R : G9} {e : Env} {L : Loc} {T : Tab} (hR : ExtR R) (h : AW P c (qa5 (AW P (.loop c) R) R) e L T) : AW P (.loop c) R e L T := by
 intro I hI
 refine hI _ _ _ (qcf c (R := qa5 (AW P (.loop c) R) R) (R' := qa5 I R) (fun x e e' L L' T he hl h => ?_) (EqE.refl e) (EqL.refl L) h)
 cases x with
 | normal =>
  have h' := V8 (.loop c) hR e e' L L' T he hl h
  exact h' I hI
 | exit id => exact hR _ _ _ _ _ _ he hl h
 | ret => exact hR _ _ _ _ _ _ he hl h
theorem N4 {K : Env -> Loc -> Tab -> Prop} {R : G9} (hK : qxf K) (hR : ExtR R) : ExtR (qa5 K R) := fun x e e' L L' T he hl h => by
 cases x with
 | normal => exact hK _ _ _ _ _ he hl h
 | exit id => exact hR _ _ _ _ _ _ he hl h
 | ret => exact hR _ _ _ _ _ _ he hl h
theorem O5 {id : Nat} {R : G9} (hR : ExtR R) : ExtR (qwp id R) := fun x e e' L L' T he hl h => by
 cases x with
 | normal => exact hR _ _ _ _ _ _ he hl h
 | exit id' =>
  simp only [qwp] at h ⊢
  split at h
  ·rename_i hx; rw [if_pos hx]; exact hR _ _ _ _ _ _ he hl h
  ·rename_i hx; rw [if_neg hx]; exact hR _ _ _ _ _ _ he hl h
 | ret => exact hR _ _ _ _ _ _ he hl h
def z4j (d : Option Nat) (n : Nat) : Bool := match d with | some k => decide (k < n) | none => true
theorem qvj {d : Option Nat} {n k : Nat} (h : z4j d n = true) (hk : d = some k) : k < n := by
 subst hk; simpa [z4j] using h
def qrp (P : Program) (H : Hint) (n : Nat) (ops : Array Oper) (i : Nat) : Option SOp :=
 (ops[i]?).bind fun o => (z73 P H o).bind fun s =>
  if z4j o.dst n = true then
   match o.guard with
   | none => some ⟨o.dst, s, none, []⟩
   | some (j, want) => ((ops[j]?).bind (·.dst)).map fun k => ⟨o.dst, s, some (k, want), []⟩
  else none
def qn2 (P : Program) (H : Hint) (n : Nat) (ops : Array Oper) : List Nat -> Option (List SOp)
 | [] => some []
 | i :: l => (qrp P H n ops i).bind fun s => (qn2 P H n ops l).map (s :: ·)
def z74 (P : Program) (H : Hint) (n : Nat) (ops : Array Oper) : List Nat -> Option RC
 | [] => some []
 | j :: l => (qrp P H n ops j).bind fun z => z.dst.bind fun k => (z74 P H n ops l).map ((k, z.op, z.gd) :: ·)
def qpn (P : Program) (H : Hint) (n : Nat) (ops : Array Oper) : List (Nat × List Nat) -> Option (List Ent)
 | [] => some []
 | (i, js) :: l => (qrp P H n ops i).bind fun s => (z74 P H n ops js).bind fun rc => (qpn P H n ops l).map ((i, { s with rc := rc }) :: ·)
def z14 (P : Program) (H : Hint) (n : Nat) (ops : Array Oper) (ord : List (Nat × List Nat)) : Option SC :=
 (qpn P H n ops ord).bind fun C =>
  let A := zej ops C []
  if (ord.length == ops.size && qpm (ord.map (·.1)) && (List.range ops.size).all (fun i => (ord.map (·.1)).contains i) && ord.all (fun p => p.2.all fun j => decide (j < ops.size)) &&
      z7a ops A C && chk ops A [] C && qpm (C.filterMap fun x => x.2.dst)) = true then some (.ops (C.map (·.2))) else none
def qel : Code -> Nat
 | .region id _ _ => id
 | .seq a b => match qel a with
  | 0 => qel b
  | k => k
 | .cond _ a b => match qel a with
  | 0 => qel b
  | k => k
 | .block _ b | .loop b => qel b
 | _ => 0
def z15 (o : Option (List Nat × List Nat)) (s : SC) : SC :=
 match o with
 | none => s
 | some (ts, ls) => .seq s (.keep ts ls)
def z4k (o : Option (List Nat × List Nat)) (s : SC) : SC :=
 match o with
 | none => .loop s
 | some (ts, ls) => .seq (.keep ts ls) (.loop (.seq s (.keep ts ls)))
def zbb (b : Bool) (s : SC) : SC := if b then .seq .gfz s else s
def tr (P : Program) (H : Hint) (n : Nat) : Code -> Option SC
 | .skip => some .skip
 | .region id ops draw => ((if draw then (q10 H.ord id).bind (z14 P H n ops) else (qn2 P H n ops (List.range ops.size)).map .ops).map (z15 (q10 H.keep id))).map (zbb (H.gfz.contains id))
 | .seq a b => (tr P H n a).bind fun x => (tr P H n b).map fun y => .seq x y
 | .cond c a b => (tr P H n a).bind fun x => (tr P H n b).map fun y => .cond c x y
 | .block id b => (tr P H n b).map (.block id)
 | .loop b => (tr P H n b).map (z4k (q10 H.lkeep (qel b)))
 | .exit id => some (.exit id)
 | .ret => some .ret
 | _ => none
section
variable {P : Program} {H : Hint} {X0 : Cx} {T0 : Tab} {w0 : World} {X : Cx} {lam : Nat -> Nat} {env : Env} {L : Loc} {T : Tab} {a : Act} {w : World} {ops : Array Oper}
theorem qn3 {n i : Nat} {s : SOp} (h : qrp P H n ops i = some s) : s.rc = [] /\ ∃ o, ops[i]? = some o /\ OkOp P H n ops o s := by
 unfold qrp at h
 obtain ⟨o, ho, h⟩ := J8 h
 obtain ⟨q, hq, h⟩ := J8 h
 split at h
 ·rename_i hd
  have hlt : ∀ k, o.dst = some k -> k < n := fun k hk => qvj hd hk
  split at h
  ·rename_i hg
   injection h with h; subst h
   exact ⟨rfl, o, ho, hq, rfl, hlt, by rw [hg]⟩
  ·rename_i j want hg
   obtain ⟨k, hk, rfl⟩ := N8 h
   exact ⟨rfl, o, ho, hq, rfl, hlt, by rw [hg]; exact ⟨k, hk, rfl⟩⟩
 ·cases h
theorem qk6 {n : Nat} : ∀ {is : List Nat} {ss : List SOp}, qn2 P H n ops is = some ss -> OkL P H n ops is ss
 | [], ss, h => by simp only [qn2] at h; injection h with h; subst h; trivial
 | i :: is, ss, h => by
  simp only [qn2] at h
  obtain ⟨s, hs, h⟩ := J8 h
  obtain ⟨r, hr, rfl⟩ := N8 h
  exact ⟨(qn3 hs).2, qk6 hr⟩
theorem qpo {n : Nat} : ∀ {js : List Nat} {rc : RC}, z74 P H n ops js = some rc -> ∀ p ∈ rc, ∃ j ∈ js, ∃ z, qrp P H n ops j = some z /\ z.dst = some p.1 /\ p.2 = (z.op, z.gd)
 | [], rc, h, p, hp => by simp only [z74] at h; injection h with h; subst h; cases hp
 | j :: js, rc, h, p, hp => by
  simp only [z74] at h
  obtain ⟨z, hz, h⟩ := J8 h
  obtain ⟨k, hk, h⟩ := J8 h
  obtain ⟨r, hr, rfl⟩ := N8 h
  rcases List.mem_cons.1 hp with rfl | hp
  ·exact ⟨j, List.mem_cons_self .., z, hz, hk, rfl⟩
  ·obtain ⟨j', hj', q⟩ := qpo hr p hp
   exact ⟨j', List.mem_cons_of_mem _ hj', q⟩
theorem qk7 {n : Nat} : ∀ {ord : List (Nat × List Nat)} {C : List Ent}, qpn P H n ops ord = some C -> C.map (·.1) = ord.map (·.1) /\
  ∀ x ∈ C, ∃ s, qrp P H n ops x.1 = some s /\ x.2.op = s.op /\ x.2.dst = s.dst /\ x.2.gd = s.gd /\ ∃ js, (x.1, js) ∈ ord /\ z74 P H n ops js = some x.2.rc
 | [], C, h => by simp only [qpn] at h; injection h with h; subst h; exact ⟨rfl, fun x hx => by cases hx⟩
 | (i, js) :: ord, C, h => by
  simp only [qpn] at h
  obtain ⟨s, hs, h⟩ := J8 h
  obtain ⟨rc, hrc, h⟩ := J8 h
  obtain ⟨r, hr, rfl⟩ := N8 h
  obtain ⟨h1, h2⟩ := qk7 hr
  refine ⟨by simp [h1], fun x hx => ?_⟩
  rcases List.mem_cons.1 hx with rfl | hx
  ·exact ⟨s, hs, rfl, rfl, rfl, js, List.mem_cons_self .., hrc⟩
  ·obtain ⟨s', q1, q2, q3, q4, js', q5, q6⟩ := h2 x hx
   exact ⟨s', q1, q2, q3, q4, js', List.mem_cons_of_mem _ q5, q6⟩
theorem qfx {C : List Ent} (h : (C.filterMap fun x => x.2.dst).Nodup) : ∀ x ∈ C, ∀ y ∈ C, x.2.dst ≠ none -> x.2.dst = y.2.dst -> x.2 = y.2 := by
 induction C with
 | nil => intro x hx; cases hx
 | cons q C ih =>
  have hmem : ∀ y ∈ C, ∀ k, y.2.dst = some k -> k ∈ C.filterMap fun x => x.2.dst := fun y hy k hk => List.mem_filterMap.2 ⟨y, hy, hk⟩
  intro x hx y hy hne he
  cases hz : q.2.dst with
  | none =>
   rw [List.filterMap_cons_none (by rw [hz])] at h
   rcases List.mem_cons.1 hx with e1 | hx
   ·rw [e1] at hne; exact absurd hz hne
   ·rcases List.mem_cons.1 hy with e2 | hy
    ·rw [e2, hz] at he; exact absurd he hne
    ·exact ih h x hx y hy hne he
  | some k =>
   rw [List.filterMap_cons_some (by rw [hz])] at h
   have hnd := List.nodup_cons.1 h
   rcases List.mem_cons.1 hx with e1 | hx
   ·rcases List.mem_cons.1 hy with e2 | hy
    ·rw [e1, e2]
    ·rw [e1, hz] at he
     exact absurd (hmem y hy k he.symm) hnd.1
   ·rcases List.mem_cons.1 hy with e2 | hy
    ·rw [e2, hz] at he
     exact absurd (hmem x hx k he) hnd.1
    ·exact ih hnd.2 x hx y hy hne he
theorem qvk {n : Nat} {ord : List (Nat × List Nat)} {sc : SC} (h : z14 P H n ops ord = some sc) : ∃ A C, sc = .ops (C.map (·.2)) /\ DrawOk P H n ops A C := by
 unfold z14 at h
 obtain ⟨C, hC, h⟩ := J8 h
 simp only at h
 split at h
 ·rename_i hc
  injection h with h; subst h
  simp only [Bool.and_eq_true] at hc
  obtain ⟨⟨⟨⟨⟨⟨c1, c2⟩, c3⟩, c4⟩, c5⟩, c6⟩, c7⟩ := hc
  obtain ⟨h1, h2⟩ := qk7 hC
  have hall : ∀ i, i < ops.size -> ∃ s, (i, s) ∈ C := fun i hi => by
   have := List.all_eq_true.1 c3 i (List.mem_range.2 hi)
   have : i ∈ C.map (·.1) := by rw [h1]; simpa using this
   obtain ⟨x, hx, rfl⟩ := List.mem_map.1 this
   exact ⟨x.2, hx⟩
  have hds := qfx (qek c7)
  refine ⟨_, C, rfl, ⟨fun x hx => ?_, by rw [h1]; exact qek c2, hall, c5, c6, fun x hx p hp => ?_, fun y hy z hz hne he => ?_⟩⟩
  ·obtain ⟨s, hs, e1, e2, e3, _⟩ := h2 x hx
   obtain ⟨_, o, ho, hok⟩ := qn3 hs
   refine ⟨o, ho, by rw [e1]; exact hok.op, by rw [e2]; exact hok.dst, hok.lt, ?_⟩
   have := hok.gd
   rw [e3]
   exact this
  ·obtain ⟨s, hs, e1, e2, e3, js, hjs, hrc⟩ := h2 x hx
   obtain ⟨j, hj, z, hz, hz1, hz2⟩ := qpo hrc p hp
   have hjlt : j < ops.size := by
    have := List.all_eq_true.1 (List.all_eq_true.1 c4 _ hjs) j hj
    simpa using this
   obtain ⟨s', hs'⟩ := hall j hjlt
   obtain ⟨s2, hs2, e4, e5, e6, _⟩ := h2 _ hs'
   simp only at hs2 e4 e5 e6
   rw [hz] at hs2
   injection hs2 with hs2
   subst hs2
   exact ⟨s', List.mem_map_of_mem hs', by rw [e5, hz1], by rw [hz2, e4, e6]⟩
  ·obtain ⟨y', hy', rfl⟩ := List.mem_map.1 hy
   obtain ⟨z', hz', rfl⟩ := List.mem_map.1 hz
   have := hds z' hz' y' hy' hne he
   rw [this]; exact ⟨rfl, rfl⟩
 ·cases h
def z0r (X0 : Cx) (T0 : Tab) (w0 : World) (n : Nat) (R : G9) : Exit -> Act -> World -> Prop
 | .normal, a, w => Nx X0 T0 w0 n (R .normal) a w
 | .exit id, a, w => Nx X0 T0 w0 n (R (.exit id)) a w
 | .ret, a, w => Nx X0 T0 w0 n (R .ret) a w
 | _, _, _ => False
theorem SR.eqE (h : SR X0 T0 w0 X lam env L T a w) {env' : Env} {L' : Loc} (he : EqE env env') (hl : EqL L L') : SR X0 T0 w0 X lam env' L' T a w :=
 h.weaken (fun s x hx => by rw [he s]; exact hx) (fun l c hc => by rw [hl l]; exact hc)
theorem Nx.elim {n : Nat} {K : Env -> Loc -> Tab -> Prop} (h : Nx X0 T0 w0 n K a w) : ∃ X lam env L T, K env L T /\ SR X0 T0 w0 X lam env L T a w /\ a.tmps.size = n := h
theorem Nx.keep {n : Nat} {K : Env -> Loc -> Tab -> Prop} {ts ls : List Nat} {a : Act} {w : World} (h : Nx X0 T0 w0 n (fun e L T => K (qce ts e) (qce ls L) T) a w) : Nx X0 T0 w0 n K a w := by
 obtain ⟨X, lam, env, L, T, hk, hsr, hn⟩ := h
 exact ⟨X, lam, _, _, T, hk, hsr.weaken (fun _ _ h => qdg h) (fun _ _ h => qdg h), hn⟩
theorem Nx.gfz {n : Nat} {K : Env -> Loc -> Tab -> Prop} {a : Act} {w : World} (h : Nx X0 T0 w0 n (fun e L T => ∃ (S : List Nat) (T' : Tab) (E' : Env), S.Nodup /\ (∀ id ∈ S, T id ≠ .unused) /\ (∀ j, qua T S (T' j) (qfo T S j)) /\ z4h T S e E' /\ K E' L T') a w) : Nx X0 T0 w0 n K a w := by
 obtain ⟨X, lam, env, L, T, ⟨S, m, E, h1, h2, h2', h5, h3⟩, hsr, hn⟩ := h
 have h4 := hsr.frT S h1 h2 h2'
 refine ⟨X.addFzs S, lam, _, _, _, h3, ⟨h4.rel, h4.step, h4.locnew, fun s x hx => ?_, h4.defers⟩, hn⟩
 obtain ⟨y, hy, hc⟩ := h5 s x hx
 obtain ⟨v, hv, hr⟩ := hsr.env s y hy
 refine ⟨v, hv, ?_⟩
 rcases hc with rfl | ⟨k, c, cap, rfl, rfl⟩
 ·cases y with
  | lp l o => exact hr
  | _ =>
   exact V5 (qmw hsr.rel (S := S) hr)
 ·have hr' : vr X w (.fz k c cap) v := hr
  simp only [vr] at hr'
  obtain ⟨us, q1, q2⟩ := hr'
  refine V5 ?_
  simp only [vr]
  exact ⟨us, vrs.map (fun x v h => qa0 hsr.rel h) q1, q2.mono (X.le_addFzs S) (fun _ _ => rfl)⟩
theorem qfy {n : Nat} {R : G9} {ts ls : List Nat} {e : Exit} {a : Act} {w : World} (h : z0r X0 T0 w0 n (qa5 (AW P (.keep ts ls) R) R) e a w) : z0r X0 T0 w0 n R e a w := by
 cases e <;> first
  | exact h
  | exact Nx.keep h
theorem qn4 {c : Code} {sc : SC} {n : Nat} (hc : ∀ {R : G9}, ExtR R -> ∀ {a w}, Nx X0 T0 w0 n (AW P sc R) a w -> c.wp P (z0r X0 T0 w0 n R) a w) {R : G9} (hR : ExtR R) {a : Act} {w : World} (hk : Nx X0 T0 w0 n (AW P (.loop sc) R) a w) :
  (Code.loop c).wp P (z0r X0 T0 w0 n R) a w := by
 obtain ⟨X, lam, env, L, T, hk, hsr, hn⟩ := hk
 intro b k cs
 have key := hk (fun env L T => ∀ X lam a w, SR X0 T0 w0 X lam env L T a w -> a.tmps.size = n -> ∀ (b : Frame) (k : List Item) (cs : List Frame),
  ∃ e a' w', z0r X0 T0 w0 n R e a' w' /\ Arrives P (lone (b.at a (.code c :: .inLoop c :: k)) cs w) b k cs e a' w') ?_
 ·obtain ⟨e, a', w', hq, harr⟩ := key X lam a w hsr hn b k cs
  exact ⟨e, a', w', hq, .of_steps (.one step_loop) harr⟩
 ·intro env L T hI X lam a w hsr hn b k cs
  have hext : qxf (fun env L T => ∀ X lam a w, SR X0 T0 w0 X lam env L T a w -> a.tmps.size = n -> ∀ (b : Frame) (k : List Item) (cs : List Frame),
    ∃ e a' w', z0r X0 T0 w0 n R e a' w' /\ Arrives P (lone (b.at a (.code c :: .inLoop c :: k)) cs w) b k cs e a' w') :=
   fun e e' L L' T he hl hh X lam a w hs => hh X lam a w (hs.eqE (fun s => (he s).symm) (fun l => (hl l).symm))
  obtain ⟨e, a₁, w₁, hq, harr⟩ := hc (N4 hext hR) ⟨X, lam, env, L, T, hI, hsr, hn⟩ b (.inLoop c :: k) cs
  cases e with
  | normal =>
   obtain ⟨X1, lam1, env1, L1, T1, hk1, hsr1, hn1⟩ := hq
   obtain ⟨e₂, a₂, w₂, hq₂, harr₂⟩ := hk1 X1 lam1 a₁ w₁ hsr1 hn1 b k cs
   exact ⟨e₂, a₂, w₂, hq₂, .of_steps (Steps.trans harr (.one step_inLoop)) harr₂⟩
  | exit id => exact ⟨.exit id, a₁, w₁, hq, .pass (x := .inLoop c) rfl (fun _ _ => .inl (by simp)) harr⟩
  | ret => exact ⟨.ret, a₁, w₁, hq, .pass (x := .inLoop c) rfl (fun _ _ => .inl (by simp)) harr⟩
  | goto l => exact hq.elim
  | panic ch => exact hq.elim
  | outgrown => exact hq.elim
theorem qxr (hm : P.follows .mixedOrders = true) {n : Nat} {id : Nat} {ops : Array Oper} {draw : Bool} {sc' : SC}
  (h2 : (if draw then (q10 H.ord id).bind (z14 P H n ops) else (qn2 P H n ops (List.range ops.size)).map .ops) = some sc') {R : G9} (hR : ExtR R) {a : Act} {w : World}
  (hk : Nx X0 T0 w0 n (AW P (z15 (q10 H.keep id) sc') R) a w) : (Code.region id ops draw).wp P (z0r X0 T0 w0 n R) a w := by
  have key : ∀ {R : G9}, ExtR R -> Nx X0 T0 w0 n (AW P sc' R) a w -> (Code.region id ops draw).wp P (z0r X0 T0 w0 n R) a w := by
   intro R hR hk
   cases draw with
   | true =>
    simp only [if_true] at h2
    obtain ⟨ord, _, h2⟩ := J8 h2
    obtain ⟨A, C, rfl, hC⟩ := qvk h2
    exact qk5 hC hm (hR.k .normal) (fun a w h => h) hk
   | false =>
    simp only [Bool.false_eq_true, if_false] at h2
    obtain ⟨ss, hs, rfl⟩ := N8 h2
    exact wp_region (qu8 (fun a w h => h) _ _ (qk6 hs) hk)
  cases ho : q10 H.keep id with
  | none =>
   simp only [ho, z15] at hk
   exact key hR hk
  | some p =>
   obtain ⟨ts, ls⟩ := p
   simp only [ho, z15] at hk
   exact wp_mono (key (R := qa5 (AW P (.keep ts ls) R) R) (N4 (V8 (.keep ts ls) hR) hR) hk) fun e a w he => qfy he
theorem q9a (hm : P.follows .mixedOrders = true) {n : Nat} : ∀ (c : Code) {sc : SC}, tr P H n c = some sc -> ∀ {R : G9}, ExtR R -> ∀ {a w}, Nx X0 T0 w0 n (AW P sc R) a w -> c.wp P (z0r X0 T0 w0 n R) a w
 | .skip, sc, h, R, _, a, w, hk => by
  simp only [tr] at h; injection h with h; subst h
  exact wp_skip hk
 | .region id ops draw, sc, h, R, hR, a, w, hk => by
  simp only [tr] at h
  obtain ⟨sc0, h, e0⟩ := N8 h
  obtain ⟨sc', h2, e2⟩ := N8 h
  subst e2
  subst e0
  refine qxr hm h2 hR ?_
  cases hg : H.gfz.contains id with
  | false => simp only [hg, zbb] at hk; exact hk
  | true => simp only [hg, zbb] at hk; exact Nx.gfz hk
 | .seq x y, sc, h, R, hR, a, w, hk => by
  simp only [tr] at h
  obtain ⟨sx, hx, h⟩ := J8 h
  obtain ⟨sy, hy, rfl⟩ := N8 h
  refine wp_seq (wp_mono (q9a hm x hx (R := qa5 (AW P sy R) R) (N4 (V8 sy hR) hR) hk) fun e a w he => ?_)
  cases e <;> first
   | exact q9a hm y hy hR he
   | exact he
 | .cond c x y, sc, h, R, hR, a, w, ⟨X, lam, env, L, T, hk, hsr, hn⟩ => by
  simp only [tr] at h
  obtain ⟨sx, hx, h⟩ := J8 h
  obtain ⟨sy, hy, rfl⟩ := N8 h
  simp only [AW] at hk
  cases hc : Z7 env c with
  | none => simp [hc] at hk
  | some cv =>
  cases cv <;> simp only [hc] at hk <;> first | (exact hk.elim) | skip
  rename_i b
  have hv := O2 hsr hc
  simp only [vr] at hv
  cases b with
  | true =>
   simp only [if_true] at hk
   exact wp_cond_true hv (q9a hm x hx hR ⟨X, lam, env, L, T, hk, hsr, hn⟩)
  | false =>
   simp only [Bool.false_eq_true, if_false] at hk
   exact wp_cond_false hv (q9a hm y hy hR ⟨X, lam, env, L, T, hk, hsr, hn⟩)
 | .block id c, sc, h, R, hR, a, w, hk => by
  simp only [tr] at h
  obtain ⟨sc', hc, rfl⟩ := N8 h
  refine wp_block (wp_mono (q9a hm c hc (R := qwp id R) (O5 hR) hk) fun e a w he => ?_)
  cases e with
  | exit id' =>
   simp only [z0r, qwp] at he
   simp only [Exit.inBlock]
   split
   ·rename_i e; rw [if_pos e] at he; exact he
   ·rename_i e; rw [if_neg e] at he; exact he
  | _ => exact he
 | .loop c, sc, h, R, hR, a, w, hk => by
  simp only [tr] at h
  obtain ⟨sc', hc, rfl⟩ := N8 h
  cases ho : q10 H.lkeep (qel c) with
  | none =>
   simp only [ho, z4k] at hk
   exact qn4 (fun hR => q9a hm c hc hR) hR hk
  | some p =>
   obtain ⟨ts, ls⟩ := p
   simp only [ho, z4k] at hk
   refine qn4 (sc := .seq sc' (.keep ts ls)) (fun {R} hR {a w} h => ?_) hR (Nx.keep hk)
   exact wp_mono (q9a hm c hc (R := qa5 (AW P (.keep ts ls) R) R) (N4 (V8 (.keep ts ls) hR) hR) h) fun e a w he => qfy he
 | .exit id, sc, h, R, _, a, w, hk => by
  simp only [tr] at h; injection h with h; subst h
  exact wp_exit hk
 | .ret, sc, h, R, _, a, w, hk => by
  simp only [tr] at h; injection h with h; subst h
  exact wp_ret hk
 | .rangeFunc _ _ _ _, _, h, _, _, _, _, _ => by simp [tr] at h
 | .scope _, _, h, _, _, _, _, _ => by simp [tr] at h
 | .label _, _, h, _, _, _, _, _ => by simp [tr] at h
 | .goto _, _, h, _, _, _, _, _ => by simp [tr] at h
 | .refuse _, _, h, _, _, _, _, _ => by simp [tr] at h
end
end Go.Aw
namespace Go.Aw
open Go
set_option linter.all false
variable [Glob]
def z16 (P : Program) (H : Hint) : ResultVar -> Option SO
 | .tmp t => some (.mv (.tmp t))
 | .cell a t => (ldT P t).map fun sz => match z0x H (.tmp a) with
  | some l => .lld l sz (.tmp a)
  | none => .ld sz (.tmp a)
def z4l (P : Program) (H : Hint) : List ResultVar -> Option (List SO)
 | [] => some []
 | r :: l => (z16 P H r).bind fun x => (z4l P H l).map (x :: ·)
def qbr : List SO -> Env -> Loc -> Tab -> Option (List AV)
 | [], _, _, _ => some []
 | o :: l, e, L, T => (vev o e L T).bind fun x => (qbr l e L T).map (x :: ·)
def qo1 : List AV -> AV
 | [x] => x
 | l => .tup l
def Wk (x y : AV) : Prop := ∀ X w v, vr X w x v -> vr X w y v
def SlotLe (s' s : Slot) : Prop := s' = .unused \/ s' = s \/ ∃ z cs k, s = .row z cs /\ s' = .row z (cs.take k)
def qn5 (r : AV) (Q : AV -> Tab -> Prop) (T : Tab) : Prop :=
 ∃ S T' r', S.Nodup /\ (∀ id ∈ S, T id ≠ .unused) /\ (∀ id, SlotLe (T' id) (qfo T S id)) /\ Wk (qm5 T S r) r' /\ Q r' T'
def fin (x : Option (List AV)) (Q : AV -> Tab -> Prop) (T : Tab) : Prop :=
 match x with
 | none => False
 | some l => qn5 (qo1 l) Q T
def z0s (rs : List SO) (Q : AV -> Tab -> Prop) (e : Env) (L : Loc) (T : Tab) : Prop := fin (qbr rs e L T) Q T
def z7b (rs : List SO) (Q : AV -> Tab -> Prop) : G9
 | .normal => z0s rs Q
 | .ret => z0s rs Q
 | .exit _ => fun _ _ _ => False
def z3o : Nat -> List AV -> Env
 | _, [] => []
 | n, x :: l => (n, x) :: z3o (n + 1) l
theorem qpp : ∀ (l : List AV) (n s : Nat) (x : AV), q10 (z3o n l) s = some x -> n <= s /\ l[s - n]? = some x
 | [], n, s, x, h => by simp [z3o, q10] at h
 | y :: l, n, s, x, h => by
  simp only [z3o, q10] at h
  split at h
  ·rename_i e; subst e; injection h with h; subst h; simp
  ·rename_i e
   obtain ⟨h1, h2⟩ := qpp l (n + 1) s x h
   refine ⟨by omega, ?_⟩
   rw [show s - n = (s - (n + 1)) + 1 by omega]
   simpa using h2
section
variable {P : Program} {H : Hint} {X0 : Cx} {T0 : Tab} {w0 : World} {X : Cx} {lam : Nat -> Nat} {env : Env} {L : Loc} {T : Tab} {a : Act} {w : World}
theorem SR.sub (h : SR X0 T0 w0 X lam env L T a w) {T' : Tab} (hs : ∀ id, SlotLe (T' id) (T id)) : SR X0 T0 w0 X lam env L T' a w := by
 have hun : ∀ j, T j = .unused -> T' j = .unused := fun j hj => by
  rcases hs j with e | e | ⟨z, cs, k, e, e'⟩
  ·exact e
  ·rw [e, hj]
  ·rw [hj] at e; cases e
 have hne : ∀ j, T' j ≠ .unused -> T j ≠ .unused := fun j hj e => hj (hun j e)
 have hlv : ∀ b, qfl X T' b -> qfl X T b := fun b ⟨j, hj, hb⟩ => ⟨j, hne j hj, hb⟩
 refine ⟨⟨fun j hj => hun j (h.rel.fresh j hj), h.rel.fzlt, fun j esz cs hT => ?_, fun j es hT => ?_, fun j hj => h.rel.live_fz j (hne j hj), fun j j' h1 h2 h3 => h.rel.live_inj j j' (hne j h1) (hne j' h2) h3, h.rel.loc, h.rel.loc_fz, h.rel.loc_inj, fun l c hc hl => h.rel.loc_live l c hc (hlv _ hl), (by first | exact h.rel.glob | exact q19 hx hk h.rel.glob | exact q19 (Cx.Le.refl _) hk h.rel.glob)⟩,
  ⟨h.step.le, h.step.os, h.step.tape, h.step.output, h.step.size, h.step.kept, h.step.fznew, fun c hc hl => h.step.livenew c hc (hlv c hl), fun j hj hT => hun j (h.step.idnew j hj hT)⟩, h.locnew, h.env, h.defers⟩
 ·rcases hs j with e | e | ⟨z, cs', k, e, e'⟩
  ·rw [e] at hT; cases hT
  ·rw [e] at hT; exact h.rel.row j esz cs hT
  ·rw [e'] at hT
   injection hT with hz hcs
   subst hz; subst hcs
   obtain ⟨cur, ee, us, h1, h2, h3, h4, h5, h6, h7⟩ := h.rel.row j z cs' e
   refine ⟨cur, ee, us.take k, h1, h2.take k, fun u hu => h3 u (List.mem_of_mem_take hu), fun j' u hu => h4 j' u ?_, ?_, h6, h7⟩
   ·rw [List.getElem?_take] at hu
    split at hu
    ·exact hu
    ·cases hu
   ·rw [List.length_take]; omega
 ·rcases hs j with e | e | ⟨z, cs', k, e, e'⟩
  ·rw [e] at hT; cases hT
  ·rw [e] at hT; exact h.rel.map j es hT
  ·rw [e'] at hT; cases hT
theorem qn6 {e e' : Env} (he : EqE e e') {L L' : Loc} (hl : EqL L L') (T : Tab) : ∀ l, qbr l e L T = qbr l e' L' T
 | [] => rfl
 | o :: l => by simp only [qbr, qxg he hl T, qn6 he hl T l]
theorem O6 (rs : List SO) (Q : AV -> Tab -> Prop) : ExtR (z7b rs Q) := fun x e e' L L' T he hl h => by
 have key : z0s rs Q e L T -> z0s rs Q e' L' T := fun h => by
  unfold z0s at h ⊢; rw [<- qn6 he hl T rs]; exact h
 cases x with
 | normal => exact key h
 | ret => exact key h
 | exit _ => exact h
def zbc (a : Act) : ResultVar -> Sem Value
 | .tmp t => pure (a.tmps.getD t undef)
 | .cell b t => do loadVar t (<- asAddr (a.tmps.getD b undef))
theorem qa6 {t : TypeId} {u q : Value} (h : (Instr.loadAt t u).run P w = .ok q w) : ((do loadVar t (<- asAddr u)) : Sem Value).run P w = .ok q w := by
 unfold Instr.loadAt at h
 cases u <;> first
  | (simp [Instr.sureAddr, stuck, Sem.run_bind] at h; done)
  | skip
 rename_i p
 cases p with
 | none => simp [Instr.sureAddr, stuck, Sem.run_bind] at h
 | some ad => exact h
theorem qrq (h : SR X0 T0 w0 X lam env L T a w) {r : ResultVar} {o : SO} (hr : z16 P H r = some o) {x : AV} (hx : vev o env L T = some x) :
  ∃ v, (zbc a r).run P w = .ok v w /\ vr X w x v := by
 cases r with
 | tmp t =>
  simp only [z16] at hr; injection hr with hr; subst hr
  exact ⟨_, rfl, O2 h (o := .tmp t) hx⟩
 | cell b t =>
  simp only [z16] at hr
  obtain ⟨sz, hsz, hr⟩ := N8 hr
  have ht := qfq hsz
  cases hl : z0x H (.tmp b) with
  | none =>
   simp only [hl] at hr; subst hr
   simp only [vev, pev] at hx
   obtain ⟨y, hy, hx⟩ := J8 hx
   obtain ⟨q, hq, hv⟩ := qu0 h.rel (V5 (lam := lam) (O2 h hy)) ht hx
   exact ⟨q, qa6 hq, hv⟩
  | some l =>
   simp only [hl] at hr; subst hr
   simp only [vev, pev] at hx
   obtain ⟨y, hy, hx⟩ := J8 hx
   obtain ⟨q, hq, hv⟩ := qpd h.rel (q8e h hy) ht hx
   exact ⟨q, qa6 hq, hv⟩
theorem qn7 (h : SR X0 T0 w0 X lam env L T a w) : ∀ {rs : List ResultVar} {os : List SO}, z4l P H rs = some os -> ∀ {xs : List AV}, qbr os env L T = some xs ->
  ∃ vs, (rs.mapM (zbc a)).run P w = .ok vs w /\ vrs X w xs vs
 | [], os, hr, xs, hx => by
  simp only [z4l] at hr; injection hr with hr; subst hr
  simp only [qbr] at hx; injection hx with hx; subst hx
  exact ⟨[], rfl, rfl⟩
 | r :: rs, os, hr, xs, hx => by
  simp only [z4l] at hr
  obtain ⟨o, ho, hr⟩ := J8 hr
  obtain ⟨os', hos, rfl⟩ := N8 hr
  simp only [qbr] at hx
  obtain ⟨x, hx1, hx⟩ := J8 hx
  obtain ⟨xs', hxs, rfl⟩ := N8 hx
  obtain ⟨v, h1, h2⟩ := qrq h ho hx1
  obtain ⟨vs, h3, h4⟩ := qn7 h hos hxs
  refine ⟨v :: vs, ?_, v, vs, rfl, h2, h4⟩
  simp only [List.mapM_cons, Sem.run_bind, h1, h3, Result.andThen_ok, Sem.run_pure]
theorem qo2 (h : SR X0 T0 w0 X lam env L T a w) {fn : Func} {os : List SO} (hr : z4l P H fn.results.toList = some os) {xs : List AV} (hx : qbr os env L T = some xs) :
  ∃ v, (results fn a.tmps).run P w = .ok v w /\ vr X w (qo1 xs) v := by
 obtain ⟨vs, h1, h2⟩ := qn7 h hr hx
 have hlen := h2.length
 have hrun : (results fn a.tmps).run P w = .ok (if hs : vs.toArray.size = 1 then vs.toArray[0] else .tuple vs.toArray) w := by
  have e : results fn a.tmps = (do let vs <- fn.results.mapM (zbc a); pure (if h : vs.size = 1 then vs[0] else .tuple vs)) := rfl
  rw [e, Array.mapM_eq_mapM_toList]
  simp only [Sem.run_bind, Sem.run_map, h1, Result.andThen_ok, Sem.run_pure]
 refine ⟨_, hrun, ?_⟩
 match xs, vs, h2, hlen with
 | [], [], h2, _ => simpa [qo1, vr] using h2
 | [x], [v], h2, _ =>
  simp only [vrs] at h2
  obtain ⟨u, us', e, h3, h4⟩ := h2
  injection e with e1 e2
  subst e1
  simpa [qo1] using h3
 | x :: y :: l, v :: u :: us, h2, _ =>
  simp only [qo1, vr]
  exact ⟨v :: u :: us, h2, by simp⟩
structure FnTxt (P : Program) (f : FuncId) (n : Nat) (sc : SC) (rs : List SO) : Prop where
 mk :: (is : ∃ fn c H, P.funcs[f]? = some fn /\ fn.body = some c /\ fn.ntmps = n /\ tr P H n c = some sc /\ z4l P H fn.results.toList = some rs)
def fnT (P : Program) (H : Hint) (f : FuncId) : Option (Nat × SC × List SO) :=
 (P.funcs[f]?).bind fun fn => fn.body.bind fun c => (tr P H fn.ntmps c).bind fun sc => (z4l P H fn.results.toList).map fun rs => (fn.ntmps, sc, rs)
theorem FnTxt.of (H : Hint) {f : FuncId} {n : Nat} {sc : SC} {rs : List SO} (h : fnT P H f = some (n, sc, rs)) : FnTxt P f n sc rs := by
 unfold fnT at h
 obtain ⟨fn, h1, h⟩ := J8 h
 obtain ⟨c, h2, h⟩ := J8 h
 obtain ⟨s, h3, h⟩ := J8 h
 obtain ⟨r, h4, h⟩ := N8 h
 injection h with e1 h
 injection h with e2 e3
 subst e1; subst e2; subst e3
 exact ⟨fn, c, H, h1, h2, rfl, h3, h4⟩
theorem U7 (hm : P.follows .mixedOrders = true) {f : FuncId} {n : Nat} {sc : SC} {rs : List SO} (ht : FnTxt P f n sc rs) {args : List AV} {T : Tab} {Q : AV -> Tab -> Prop} (hl : args.length <= n)
  (h : AW P sc (z7b rs Q) (z3o 0 args) [] T) : ACalls P f args T Q := by
 obtain ⟨fn, c, H, h1, h2, rfl, h3, h4⟩ := ht.is
 intro X lam w cargs hr hv
 have hlen := hv.length
 refine calls_of_wp h1 h2 (wp_mono (q9a (X0 := X) (T0 := T) (w0 := w) hm c h3 (O6 rs Q) ⟨X, lam, z3o 0 args, [], T, h, ⟨hr, .refl X T w, fun l c hc => by simp [q10] at hc, fun s x hs => ?_, rfl⟩, by simp; omega⟩) ?_)
 ·obtain ⟨_, hs⟩ := qpp args 0 s x hs
  obtain ⟨u, hu, hx⟩ := hv.get hs
  have : s < cargs.length := (List.getElem?_eq_some_iff.1 hu).1
  refine ⟨u, ?_, V5 hx⟩
  simp only [Nat.sub_zero] at hu
  rw [Array.getElem?_append_left (by simpa using this)]
  simpa using hu
 ·have key : ∀ a w', Nx X T w fn.ntmps (z0s rs Q) a w' -> a.defers = [] /\ ∃ v, (results fn a.tmps).run P w' = .ok v w' /\ z76 X T w Q (.returned v) w' := by
   rintro a w' ⟨X', lam', env, L, T', hk, hsr, _⟩
   refine ⟨hsr.defers, ?_⟩
   unfold z0s at hk
   cases hl : qbr rs env L T' with
   | none => rw [hl] at hk; exact hk.elim
   | some l =>
    rw [hl] at hk
    obtain ⟨S, T'', r', k1, k2, k3, kw, k4⟩ := hk
    obtain ⟨v, r1, r2⟩ := qo2 hsr h4 hl
    have s1 := ((hsr.freezes S k1 k2).sub k3).weaken (env' := []) (L' := []) (fun _ _ hx => by simp [q10] at hx) (fun _ _ hx => by simp [q10] at hx)
    exact ⟨v, r1, v, _, T'', _, lam', rfl, k4, kw _ _ _ (qmw hsr.rel r2), s1.rel, s1.step⟩
  intro e a w' he
  cases e <;> first
   | exact key a w' he
   | exact he.elim
   | (obtain ⟨_, _, _, _, _, hk, _⟩ := he; exact hk.elim)
end
end Go.Aw
