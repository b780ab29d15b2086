import Derived.Test.YteiamcnjlpbihaaGreatDoorAwB
namespace Go.Aw
open Go
set_option linter.all false
variable [Glob]
def q4m : Operand -> List Nat
 | .tmp t => [t]
 | _ => []
def qob : Option Operand -> List Nat
 | some o => q4m o
 | none => []
def SO.looks : SO -> List Nat
 | .bad | .mkm => []
 | .lku _ _ _ x y => q4m x ++ q4m y
 | .mup _ x y z => q4m x ++ q4m y ++ q4m z
 | .apz _ _ _ x y => q4m x ++ q4m y
 | .hbs _ _ _ ps => ps.flatMap fun p => q4m p.2.2
 | .cap x | .cvm x | .mv x | .un _ x | .cvi _ x | .b2s x | .s2b x | .cvs x | .ifc _ x | .fadr _ _ x | .fld _ _ x | .ext _ x | .len _ x | .nilck _ x | .ld _ x | .lld _ _ x | .lbox x | .hbox _ x | .fbox x | .clr _ _ x | .snil _ x => q4m x
 | .pick c x y => q4m c ++ q4m x ++ q4m y
 | .bin _ x y | .eq _ _ x y | .iadr _ _ _ x y | .idxs x y | .idxa _ _ _ x y | .mnx _ x y | .st _ x y | .lst _ _ x y | .app _ _ x y | .mksl _ _ _ x y => q4m x ++ q4m y
 | .mkfn _ f c => f.flatMap q4m ++ c.flatMap q4m
 | .slc _ x a b c => q4m x ++ qob a ++ qob b ++ qob c
 | .slcs x a b => q4m x ++ qob a ++ qob b
 | .bld _ ps | .bsl _ _ _ ps => ps.flatMap fun p => q4m p.2.2
 | .lalloc _ | .halloc _ _ => []
 | .call _ args => args.flatMap q4m
 | .callv x args => q4m x ++ args.flatMap q4m
def SOp.looks (o : SOp) : List Nat := o.op.looks ++ (match o.gd with | some (s, _) => [s] | none => [])
def SO.lpd : SO -> Option Nat
 | .fadr l _ _ | .iadr l _ _ _ _ | .nilck l _ => l
 | .lld l _ _ | .lst l _ _ _ => some l
 | _ => none
def SO.readsT : SO -> Bool
 | .ld _ _ | .slc _ _ _ _ _ | .b2s _ => true
 | _ => false
def Ag (S : List Nat) (e e' : Env) : Prop := ∀ s ∈ S, q2d e s = q2d e' s
theorem Ag.left {S S' : List Nat} {e e' : Env} (h : Ag (S ++ S') e e') : Ag S e e' := fun s hs => h s (List.mem_append_left _ hs)
theorem Ag.right {S S' : List Nat} {e e' : Env} (h : Ag (S ++ S') e e') : Ag S' e e' := fun s hs => h s (List.mem_append_right _ hs)
theorem Ag.symm {S : List Nat} {e e' : Env} (h : Ag S e e') : Ag S e' e := fun s hs => (h s hs).symm
theorem zag {o : Operand} {e e' : Env} (h : Ag (q4m o) e e') : opd e o = opd e' o := by
 cases o <;> first | rfl | exact h _ (List.mem_singleton.2 rfl)
theorem q2e {o : Operand} {e e' : Env} (h : Ag (q4m o) e e') : q02 e o = q02 e' o := by simp only [q02, zag h]
theorem quv {l : Option Nat} {o : Operand} {e e' : Env} (h : Ag (q4m o) e e') : qpx e l o = qpx e' l o := by cases l <;> simp only [qpx, zag h, q2e h]
theorem qmf {e e' : Env} : ∀ {l : List Operand}, Ag (l.flatMap q4m) e e' -> qcg e l = qcg e' l
 | [], _ => rfl
 | o :: l, h => by
  simp only [List.flatMap_cons] at h
  simp only [qcg, q2e h.left, qmf h.right]
theorem qhj {o : Option Operand} {e e' : Env} (h : Ag (qob o) e e') : q8i e o = q8i e' o := by
 cases o <;> first | rfl | simp only [q8i, q2e h]
theorem quw {e e' : Env} : ∀ {ps : List (Nat × Nat × Operand)} {c : List AV}, Ag (ps.flatMap fun p => q4m p.2.2) e e' -> qdc e c ps = qdc e' c ps
 | [], _, _ => rfl
 | (off, sz, o) :: r, c, h => by
  simp only [List.flatMap_cons] at h
  simp only [qdc, q2e h.left]
  split
  ·split
   ·exact quw h.right
   ·rfl
  ·rfl
theorem zah {o : SO} {e e' : Env} (h : Ag o.looks e e') (L : Loc) (T : Tab) : vev o e L T = vev o e' L T := by
 cases o <;> simp only [SO.looks] at h <;> simp only [vev, pev] <;> first
  | rfl
  | (simp only [q2e h]; done)
  | (simp only [quv h]; done)
  | (simp only [q2e h.left, q2e h.right]; done)
  | (simp only [quv h.left, q2e h.right]; done)
  | (simp only [q2e h.left.left, q2e h.left.right, q2e h.right]; done)
  | (simp only [qmf h.left, qmf h.right]; done)
  | (simp only [q2e h.left.left.left, qhj h.left.left.right, qhj h.left.right, qhj h.right]; done)
  | (simp only [q2e h.left.left, qhj h.left.right, qhj h.right]; done)
  | (simp only [quw h]; done)
theorem qwx {P : Program} {o : SO} {e e' : Env} (h : Ag o.looks e e') (T : Tab) (k : AV -> Tab -> Prop) : tst P o e T k = tst P o e' T k := by
 cases o <;> simp only [SO.looks] at h <;> simp only [tst] <;> first
  | rfl
  | (simp only [q2e h]; done)
  | (simp only [q2e h.left, q2e h.right]; done)
  | (simp only [q2e h.left.left, q2e h.left.right, q2e h.right]; done)
  | (simp only [qmf h]; done)
  | (simp only [q2e h.left, qmf h.right]; done)
  | (simp only [quw h]; done)
theorem qmg {α : Type} {gd : Option (Nat × Bool)} {e e' : Env} (h : Ag (match gd with | some (s, _) => [s] | none => []) e e') (y n z : α) : gdd e gd y n z = gdd e' gd y n z := by
 cases gd with
 | none => rfl
 | some p => obtain ⟨s, w⟩ := p; simp only [gdd, h s (List.mem_singleton.2 rfl)]
theorem ze8 {o : SO} {L L' : Loc} (h : ∀ l, o.lpd = some l -> q2d L l = q2d L' l) (e : Env) (T : Tab) : vev o e L T = vev o e L' T := by
 cases o <;> simp only [vev, pev]
 rename_i l sz x
 have hl := h l rfl
 congr 1
 funext p
 cases p <;> simp only [qz8, hl]
theorem zia {o : SO} (h : o.readsT = false) (e : Env) (L : Loc) (T T' : Tab) : vev o e L T = vev o e L T' := by
 cases o <;> simp only [SO.readsT] at h <;> first
  | rfl
  | (cases h; done)
theorem qer (e : Env) (l : Nat) (o : Operand) : q02 (q3a e l) o = q02 e o := by
 cases o with
 | tmp t =>
  simp only [q02, opd, q78]
  cases q2d e t with
  | none => rfl
  | some x =>
   cases x <;> simp only [Option.map_some, AV.offLp]
   rename_i l' p
   split <;> rfl
 | _ => rfl
theorem z4n (e : Env) {l : Nat} {l' : Option Nat} (h : l' ≠ some l) (o : Operand) : qpx (q3a e l) l' o = qpx e l' o := by
 cases l' with
 | none => exact qer e l o
 | some l' =>
  have hne : l' ≠ l := fun e => h (by rw [e])
  cases o with
  | tmp t =>
   simp only [qpx, opd, q78]
   cases q2d e t with
   | none => rfl
   | some x =>
    cases x <;> simp only [Option.map_some, AV.offLp]
    rename_i l2 p
    by_cases h2 : l2 = l
    ·subst h2
     simp only [if_true]
     rw [if_neg (fun e => hne e.symm)]
    ·simp only [h2, if_false]
  | _ => rfl
theorem qoc (e : Env) (l : Nat) : ∀ os : List Operand, qcg (q3a e l) os = qcg e os
 | [] => rfl
 | o :: os => by simp only [qcg, qer, qoc e l os]
theorem qzc (e : Env) (l : Nat) (o : Option Operand) : q8i (q3a e l) o = q8i e o := by
 cases o <;> simp only [q8i, qer]
theorem qod (e : Env) (l : Nat) : ∀ (ps : List (Nat × Nat × Operand)) (c : List AV), qdc (q3a e l) c ps = qdc e c ps
 | [], _ => rfl
 | (off, sz, o) :: r, c => by
  simp only [qdc, qer]
  split
  ·split
   ·exact qod e l r _
   ·rfl
  ·rfl
theorem z7y {o : SO} {l : Nat} (h : o.lpd ≠ some l) (e : Env) (L : Loc) (T : Tab) : vev o (q3a e l) L T = vev o e L T := by
 cases o <;> simp only [SO.lpd] at h <;> simp only [vev, pev, qer, qoc, qzc, qod] <;> first
  | rfl
  | (simp only [z4n e h]; done)
theorem z7z {P : Program} {o : SO} (e : Env) (l : Nat) (T : Tab) (k : AV -> Tab -> Prop) : tst P o (q3a e l) T k = tst P o e T k := by
 cases o <;> simp only [tst, qer, qoc, qod]
theorem z1i {α : Type} (e : Env) (l : Nat) (gd : Option (Nat × Bool)) (y n z : α) : gdd (q3a e l) gd y n z = gdd e gd y n z := by
 cases gd with
 | none => rfl
 | some p =>
  obtain ⟨s, w⟩ := p
  simp only [gdd, q78]
  cases q2d e s with
  | none => rfl
  | some x =>
   cases x <;> simp only [Option.map_some, AV.offLp]
   rename_i l2 p
   by_cases h2 : l2 = l
   ·simp only [h2, if_true]
   ·simp only [h2, if_false]
def EqE (e e' : Env) : Prop := ∀ s, q2d e s = q2d e' s
def EqL (L L' : Loc) : Prop := ∀ l, q2d L l = q2d L' l
def z3y (K : Env -> Loc -> Tab -> Prop) : Prop := ∀ e e' L L' T, EqE e e' -> EqL L L' -> K e L T -> K e' L' T
theorem EqE.ag {e e' : Env} (h : EqE e e') (S : List Nat) : Ag S e e' := fun s _ => h s
theorem EqE.aset {e e' : Env} (h : EqE e e') (d : Nat) (x : AV) : EqE (Aw.qdb e d x) (Aw.qdb e' d x) := fun s => by simp only [q2w, h s]
theorem EqE.eset {e e' : Env} (h : EqE e e') (d : Option Nat) (x : AV) : EqE (Aw.q0y e d x) (Aw.q0y e' d x) := by
 cases d with
 | none => exact h
 | some d => exact h.aset d x
theorem EqE.drop {e e' : Env} (h : EqE e e') (l : Nat) : EqE (q3a e l) (q3a e' l) := fun s => by simp only [q78, h s]
theorem EqL.aset {L L' : Loc} (h : EqL L L') (d : Nat) (x : List AV) : EqL (Aw.qdb L d x) (Aw.qdb L' d x) := fun s => by simp only [q2w, h s]
theorem z4o {o : SO} {e e' : Env} {L L' : Loc} (he : EqE e e') (hl : EqL L L') (T : Tab) : vev o e L T = vev o e' L' T := by
 rw [zah (he.ag _) L T, ze8 (fun l _ => hl l) e' T]
theorem z1j {o : SO} {gd : Option (Nat × Bool)} {e e' : Env} {L L' : Loc} (he : EqE e e') (hl : EqL L L') (T : Tab) : qh2 o gd e L T = qh2 o gd e' L' T := by
 simp only [qh2, z4o he hl T, qmg (he.ag _)]
theorem qux {e e' : Env} {L L' : Loc} (he : EqE e e') (hl : EqL L L') (T : Tab) : ∀ {rc : RC}, G6 e L T rc -> G6 e' L' T rc
 | [], _ => trivial
 | (d, o, gd) :: r, h => ⟨by rw [<- z1j he hl T, h.1, he d], qux he hl T h.2⟩
def Eq2 (p q : Option (Env × Loc)) : Prop :=
 match p, q with
 | some (e, L), some (e', L') => EqE e e' /\ EqL L L'
 | none, none => True
 | _, _ => False
theorem zbc {o : SO} {d : Option Nat} {e e' : Env} {L L' : Loc} (he : EqE e e') (hl : EqL L L') : Eq2 (lev o d e L) (lev o d e' L') := by
 cases o <;> simp only [lev] <;> first
  | trivial
  | skip
 ·rename_i l sz x v
  rw [quv (he.ag _), q2e (he.ag _)]
  cases qpx e' (some l) x with
  | none => trivial
  | some p =>
  cases q02 e' v with
  | none => trivial
  | some y =>
  cases p <;> simp only [Option.bind_some] <;> first | trivial | skip
  rw [hl l]
  cases q2d L' l with
  | none => trivial
  | some cells =>
   simp only [Option.bind_some]
   split
   ·exact ⟨he.eset _ _, hl.aset _ _⟩
   ·trivial
 ·cases d with
  | none => trivial
  | some l => exact ⟨(he.drop l).aset l _, hl.aset l _⟩
 ·rename_i x
  cases d with
  | none => trivial
  | some l =>
  simp only [Option.bind_some]
  rw [q2e (he.ag _)]
  cases q02 e' x with
  | none => trivial
  | some v =>
   simp only [Option.bind_some]
   split
   ·exact ⟨(he.drop l).aset l _, hl.aset l _⟩
   ·trivial
theorem qwy {esz bytes : Nat} {T : Tab} {x y : AV} {k k' : AV -> Tab -> Prop} (h : ∀ v T, k v T -> k' v T) (H : q1q esz bytes T x y k) : q1q esz bytes T x y k' := by
 unfold q1q at H ⊢
 split at H
 ·exact H
 ·rename_i news hs
  split at H
  ·split at H
   ·rename_i h0; rw [if_pos h0]; exact h _ _ H
   ·rename_i h0
    rw [if_neg h0]
    split at H
    ·exact ⟨H.1, H.2.1, H.2.2.1, H.2.2.2.1, fun id hid => h _ _ (H.2.2.2.2 id hid)⟩
    ·exact H
  ·split at H
   ·refine ⟨H.1, ?_⟩
    obtain ⟨_, H⟩ := H
    split at H
    ·split at H
     ·rename_i hc; rw [if_pos hc]; exact ⟨H.1, H.2.1, fun id hid => h _ _ (H.2.2 id hid)⟩
     ·rename_i hc; rw [if_neg hc]; exact ⟨H.1, h _ _ H.2⟩
    ·split at H
     ·rename_i hc; simp only [if_pos hc]; exact ⟨H.1, H.2.1, H.2.2.1, fun id hid => h _ _ (H.2.2.2 id hid)⟩
     ·rename_i hc; simp only [if_neg hc]; exact ⟨H.1, h _ _ H.2⟩
   ·exact H
  ·exact H
theorem quy {P : Program} {o : SO} {e : Env} {T : Tab} {k k' : AV -> Tab -> Prop} (h : ∀ v T, k v T -> k' v T) (H : tst P o e T k) : tst P o e T k' := by
 cases o <;> simp only [tst] at H ⊢ <;> first
  | (exact H.elim)
  | skip
 ·split at H
  ·split at H
   ·exact ⟨H.1, H.2.1, H.2.2.1, h _ _ H.2.2.2⟩
   ·exact H
  ·exact H
 ·exact fun id hid => h _ _ (H id hid)
 ·split at H
  ·exact ⟨H.1, fun id hid => h _ _ (H.2 id hid)⟩
  ·exact H
 ·split at H
  ·exact qwy h H
  ·exact H
 ·split at H
  ·exact h _ _ H
  ·split at H
   ·exact ⟨H.1, H.2.1, H.2.2.1, h _ _ H.2.2.2⟩
   ·exact H
  ·exact H
 ·split at H
  ·exact ⟨H.1, H.2.1, H.2.2.1, H.2.2.2.1, fun id hid => h _ _ (H.2.2.2.2 id hid)⟩
  ·exact H
 ·split at H
  ·exact fun id hid => h _ _ (H id hid)
  ·exact H
 ·split at H
  ·split at H
   ·exact ⟨H.1, H.2.1, h _ _ H.2.2⟩
   ·exact H
  ·exact H
 ·split at H
  ·exact ⟨H.1, H.2.1, H.2.2.1, fun id hid => h _ _ (H.2.2.2 id hid)⟩
  ·exact H
 ·exact fun id hid => h _ _ (H id hid)
 ·split at H
  ·split at H
   ·refine ⟨H.1, ?_⟩
    obtain ⟨_, H⟩ := H
    split at H
    ·exact h _ _ H
    ·exact h _ _ H
    ·exact H
   ·exact H
  ·exact H
 ·split at H
  ·split at H
   ·exact ⟨H.1, H.2.1, h _ _ H.2.2⟩
   ·exact H
  ·exact H
 ·refine ⟨H.1, ?_⟩
  obtain ⟨_, H⟩ := H
  split at H
  ·obtain ⟨S, R, h1, h2, h3, h4⟩ := H
   exact ⟨S, R, h1, h2, h3, fun v T' hR => h _ _ (h4 v T' hR)⟩
  ·exact H
 ·split at H
  ·obtain ⟨h0, S, R, h1, h2, h3, h4⟩ := H
   exact ⟨h0, S, R, h1, h2, h3, fun v T' hR => h _ _ (h4 v T' hR)⟩
  ·exact H
theorem qqf {e : Env} {gd : Option (Nat × Bool)} {y n y' n' : Prop} (h1 : y -> y') (h2 : n -> n') (H : gdd e gd y n False) : gdd e gd y' n' False := by
 cases gd with
 | none => exact h1 H
 | some p =>
  obtain ⟨s, w⟩ := p
  simp only [gdd] at H ⊢
  split at H
  ·split at H
   ·rename_i hc; rw [if_pos hc]; exact h1 H
   ·rename_i hc; rw [if_neg hc]; exact h2 H
  ·exact h2 H
  ·exact H
theorem z4p {neg : Bool} {x : Option AV} {k k' : AV -> Prop} (h : ∀ v, k v -> k' v) (H : qfo neg x k) : qfo neg x k' := by
 unfold qfo at H ⊢
 split at H
 ·split at H
  ·rename_i hc; rw [if_pos hc]; exact h _ H
  ·rename_i hc; rw [if_neg hc]; exact fun b => h _ (H b)
 ·exact h _ H
 ·exact H
theorem qr0 {P : Program} {o : SO} (ho : o.kind = .snil) {d : Option Nat} {rc : RC} {K K' : Env -> Loc -> Tab -> Prop} {e e' : Env} {L L' : Loc} {T : Tab} (he : EqE e e')
  (h : ∀ v, K (q0y e d v) L T -> K' (q0y e' d v) L' T) (H : q7v P o d rc K e L T) : q7v P o d rc K' e' L' T := by
 cases o <;> simp only [SO.kind] at ho <;> first
  | (cases ho; done)
  | skip
 simp only [q7v, SO.kind] at H ⊢
 rw [<- q2e (he.ag _)]
 exact z4p h H
theorem qir {P : Program} {o : SOp} {K K' : Env -> Loc -> Tab -> Prop} {e e' : Env} {L L' : Loc} {T : Tab} (he : EqE e e') (hl : EqL L L')
  (h : ∀ e e' L L' T, EqE e e' -> EqL L L' -> K e L T -> K' e' L' T) (H : G9 P o K e L T) : G9 P o K' e' L' T := by
 unfold G9 at H ⊢
 split at H
 ·rw [<- z1j he hl T]
  split at H
  ·exact h _ _ _ _ _ (he.eset _ _) hl H
  ·exact H
 ·have hq : Eq2 (gdd e o.gd (lev o.op o.dst e L) (some (q0y e o.dst (.tup []), L)) none) (gdd e' o.gd (lev o.op o.dst e' L') (some (q0y e' o.dst (.tup []), L')) none) := by
   have hlv := zbc (o := o.op) (d := o.dst) he hl
   have hn : Eq2 (some (q0y e o.dst (.tup []), L)) (some (q0y e' o.dst (.tup []), L')) := ⟨he.eset _ _, hl⟩
   cases o.gd with
   | none => exact hlv
   | some p =>
    obtain ⟨s, w⟩ := p
    simp only [gdd, he s]
    split
    ·split
     ·exact hlv
     ·exact hn
    ·exact hn
    ·trivial
  split at H
  ·rename_i e1 l1 heq
   rw [heq] at hq
   split
   ·rename_i e2 l2 heq2
    rw [heq2] at hq
    exact h _ _ _ _ _ hq.1 hq.2 H
   ·rename_i heq2
    rw [heq2] at hq
    exact hq
  ·exact H.elim
 ·rw [qmg (he.ag _)] at H
  refine qqf (fun H => ?_) (fun H => ⟨qux (he.eset _ _) hl T H.1, h _ _ _ _ _ (he.eset _ _) hl H.2⟩) H
  rw [qwx (he.ag _)] at H
  exact quy (fun v T' hv hlp => ⟨qux (he.eset _ _) hl T' (hv hlp).1, h _ _ _ _ _ (he.eset _ _) hl (hv hlp).2⟩) H
 ·rename_i hk
  rw [qmg (he.ag _)] at H
  exact qqf (fun H => qr0 hk he (fun v hv => h _ _ _ _ _ (he.eset _ _) hl hv) H) (fun H => h _ _ _ _ _ (he.eset _ _) hl H) H
theorem quz {P : Program} {K : Env -> Loc -> Tab -> Prop} (hK : z3y K) : ∀ l, z3y (qwv P l K)
 | [] => hK
 | _ :: l => fun _ _ _ _ _ he hl H => qir he hl (fun _ _ _ _ _ h1 h2 h3 => quz hK l _ _ _ _ _ h1 h2 h3) H
theorem qhk (e : Env) {d d' : Option Nat} (h : d ≠ d' \/ d = none) (x y : AV) : EqE (q0y (q0y e d x) d' y) (q0y (q0y e d' y) d x) := by
 cases d with
 | none => exact fun _ => rfl
 | some d =>
  cases d' with
  | none => exact fun _ => rfl
  | some d' =>
   have hne : d ≠ d' := by
    rcases h with h | h
    ·exact fun e => h (by rw [e])
    ·cases h
   intro s
   simp only [q0y, q2w]
   by_cases h1 : d' = s
   ·subst h1; simp [hne]
   ·simp [h1]
theorem qbk {S : List Nat} (e : Env) {d : Option Nat} (h : ∀ k, d = some k -> k ∉ S) (x : AV) : Ag S (q0y e d x) e := by
 cases d with
 | none => exact fun _ _ => rfl
 | some d =>
  intro s hs
  simp only [q0y, q2w]
  rw [if_neg]
  rintro rfl
  exact h d rfl hs
theorem qis {e : Env} {o : Operand} {x : AV} (h : q02 e o = some x) : x.plain = true := by
 simp only [q02] at h
 cases ho : opd e o with
 | none => simp [ho] at h
 | some y =>
  simp only [ho] at h
  split at h
  ·injection h with h; subst h; assumption
  ·cases h
theorem qzd {e : Env} {l : Option Nat} {o : Operand} {x : AV} (h : qpx e l o = some x) : x.plain = true \/ ∃ l' p, l = some l' /\ x = .lp l' p := by
 cases l with
 | none => exact .inl (qis h)
 | some l =>
  simp only [qpx] at h
  cases ho : opd e o with
  | none => simp [ho] at h
  | some y =>
   cases y <;> simp only [ho] at h <;> first | (cases h; done) | skip
   split at h
   ·rename_i e; subst e; injection h with h; subst h; exact .inr ⟨_, _, rfl, rfl⟩
   ·cases h
theorem zai {o : SO} {e : Env} {L : Loc} {T : Tab} {l p : Nat} (h : vev o e L T = some (.lp l p)) : o.lpd = some l := by
 have pl : ∀ {x : AV}, x.plain = true -> x ≠ .lp l p := fun hx e => by subst e; simp [AV.plain] at hx
 have ldc : ∀ {sz cells k}, q79 sz cells k ≠ some (.lp l p) := fun {sz cells k} h => by
  cases sz with
  | none => exact pl (q92 h).2 rfl
  | some n => simp only [q79] at h; split at h <;> cases h
 cases o <;> simp only [vev, pev] at h
 case mv x => exact absurd rfl (pl (qis h))
 case pick c x y =>
  obtain ⟨cv, _, h⟩ := K1 h
  cases cv <;> simp only [qwu] at h <;> first | (cases h; done) | skip
  split at h
  ·exact absurd rfl (pl (qis h))
  ·exact absurd rfl (pl (qis h))
 case bin op x y =>
  obtain ⟨u, _, h⟩ := K1 h
  obtain ⟨v, _, h⟩ := K1 h
  cases u <;> cases v <;> simp only [qz5] at h <;> first | (cases h; done) | skip
  ·split at h
   ·simp only [qim] at h; split at h <;> cases h
   ·simp only [qim] at h; split at h <;> cases h
   ·split at h
    ·cases op <;> simp only [qwm] at h <;> first | (cases h; done) | (split at h <;> cases h)
    ·cases h
  ·cases op <;> simp only [qwn] at h <;> first | (cases h; done) | (split at h <;> cases h)
 case eq neg k x y =>
  obtain ⟨u, _, h⟩ := K1 h
  obtain ⟨v, _, h⟩ := K1 h
  obtain ⟨r, _, h⟩ := Q0 h
  cases h
 case un op x =>
  obtain ⟨u, _, h⟩ := K1 h
  cases op <;> cases u <;> simp only [ze1] at h <;> cases h
 case cvi k x =>
  obtain ⟨u, _, h⟩ := K1 h
  cases u <;> simp only [qty] at h <;> cases h
 case b2s x =>
  obtain ⟨u, _, h⟩ := K1 h
  obtain ⟨c, _, h⟩ := K1 h
  cases u <;> simp only at h <;> first | (cases h; done) | (obtain ⟨r, _, h⟩ := Q0 h; cases h)
 case s2b x =>
  obtain ⟨u, _, h⟩ := K1 h
  cases u <;> simp only at h <;> cases h
 case cvs x =>
  obtain ⟨u, _, h⟩ := K1 h
  cases u <;> simp only at h <;> cases h
 case ifc t x => obtain ⟨u, _, h⟩ := Q0 h; cases h
 case mkfn f a b =>
  obtain ⟨u, _, h⟩ := K1 h
  obtain ⟨v, _, h⟩ := Q0 h
  cases h
 case slc esz x lo hi mx =>
  obtain ⟨u, _, h⟩ := K1 h
  obtain ⟨a, _, h⟩ := K1 h
  obtain ⟨b, _, h⟩ := K1 h
  obtain ⟨c, _, h⟩ := K1 h
  cases u <;> simp only [qz9] at h <;> first | (cases h; done) | skip
  ·split at h <;> first | (cases h; done) | (split at h <;> cases h)
  ·split at h
   ·split at h
    ·split at h <;> first | (cases h; done) | (split at h <;> first | (cases h; done) | (split at h <;> cases h))
    ·cases h
   ·cases h
 case slcs x lo hi =>
  obtain ⟨u, _, h⟩ := K1 h
  obtain ⟨a, _, h⟩ := K1 h
  obtain ⟨b, _, h⟩ := K1 h
  cases u <;> simp only [qqr] at h <;> first | (cases h; done) | skip
  split at h <;> first | (cases h; done) | (split at h <;> cases h)
 case fadr l' off x =>
  obtain ⟨u, hu, h⟩ := K1 h
  rcases qzd hu with hp | ⟨l2, p2, rfl, rfl⟩
  ·cases u <;> simp only [qqp] at h <;> first | (cases h; done) | (simp [AV.plain] at hp)
  ·simp only [qqp] at h; injection h with h; injection h with h; subst h; rfl
 case fld off sz x =>
  obtain ⟨u, _, h⟩ := K1 h
  cases u <;> simp only [z2g] at h <;> first | (cases h; done) | (exact absurd h ldc)
 case iadr l' esz alen x i =>
  obtain ⟨u, hu, h⟩ := K1 h
  obtain ⟨v, _, h⟩ := K1 h
  rcases qzd hu with hp | ⟨l2, p2, rfl, rfl⟩
  ·cases u <;> simp only [qqq] at h <;> first
    | (cases h; done)
    | (simp [AV.plain] at hp; done)
    | (split at h <;> first | (cases h; done) | (split at h <;> cases h))
  ·simp only [qqq] at h
   split at h
   ·split at h
    ·injection h with h; injection h with h; subst h; rfl
    ·cases h
   ·cases h
 case idxs x i =>
  obtain ⟨u, _, h⟩ := K1 h
  obtain ⟨v, _, h⟩ := K1 h
  cases u <;> simp only [qtu] at h <;> first | (cases h; done) | skip
  cases v <;> simp only at h <;> first | (cases h; done) | skip
  split at h
  ·obtain ⟨_, _, h⟩ := Q0 h; cases h
  ·cases h
 case idxa esz sz n x i =>
  obtain ⟨u, _, h⟩ := K1 h
  obtain ⟨v, _, h⟩ := K1 h
  cases u <;> simp only [z2i] at h <;> first | (cases h; done) | skip
  cases v <;> simp only at h <;> first | (cases h; done) | skip
  split at h
  ·exact absurd h ldc
  ·cases h
 case cap x =>
  obtain ⟨u, _, h⟩ := K1 h
  unfold z2j at h
  split at h <;> cases h
 case ext i x =>
  obtain ⟨u, _, h⟩ := K1 h
  cases u <;> simp only [z2h] at h <;> first | (cases h; done) | (exact absurd rfl (pl (q92 h).2))
 case len str x =>
  obtain ⟨u, _, h⟩ := K1 h
  cases u <;> simp only [qpw] at h <;> first | (cases h; done) | (split at h <;> cases h)
 case mnx mx x y =>
  obtain ⟨u, _, h⟩ := K1 h
  obtain ⟨v, _, h⟩ := K1 h
  cases u <;> cases v <;> simp only [z4a] at h <;> cases h
 case nilck l' x =>
  obtain ⟨u, hu, h⟩ := K1 h
  rcases qzd hu with hp | ⟨l2, p2, rfl, rfl⟩
  ·cases u <;> simp only [qo8] at h <;> first | (cases h; done) | (simp [AV.plain] at hp)
  ·simp only [qo8] at h; injection h with h; injection h with h; subst h; rfl
 case bld z ps => obtain ⟨_, _, h⟩ := Q0 h; cases h
 case bsl n esz z ps => obtain ⟨_, _, h⟩ := Q0 h; cases h
 case ld sz x =>
  obtain ⟨u, _, h⟩ := K1 h
  cases u <;> simp only [ze2] at h <;> first | (cases h; done) | skip
  ·split at h <;> first | (exact absurd h ldc) | (cases h)
  ·exact absurd h ldc
 case lld l' sz x =>
  obtain ⟨u, _, h⟩ := K1 h
  cases u <;> simp only [qz8] at h <;> first | (cases h; done) | skip
  split at h
  ·split at h
   ·exact absurd h ldc
   ·cases h
  ·cases h
 case fbox x =>
  obtain ⟨u, _, h⟩ := K1 h
  split at h <;> cases h
 all_goals cases h
def SOp.lw (o : SOp) : Option Nat :=
 match o.op with
 | .lalloc _ | .lbox _ => o.dst
 | .lst l _ _ _ => some l
 | _ => none
def zaj (e : Nat × SO × Option (Nat × Bool)) : List Nat := e.2.1.looks ++ (match e.2.2 with | some (s, _) => [s] | none => [])
def z4q (d : Option Nat) (rc : RC) : RC := rc.filter fun e => match d with
 | some k => e.1 != k && !(zaj e).contains k
 | none => true
def q9c (y : SOp) (rc : RC) : RC := if y.op.kind = .leff then [] else z4q y.dst rc
def qze (d : Option Nat) (S : List Nat) : Bool :=
 match d with
 | some k => !S.contains k
 | none => true
theorem qoe {d : Option Nat} {S : List Nat} (h : qze d S = true) : ∀ k, d = some k -> k ∉ S := by
 rintro k rfl
 simpa [qze] using h
def zib (y : SOp) (rc : RC) : Prop := ∃ k, y.dst = some k /\ (k, y.op, y.gd) ∈ rc
structure Apart (y x : SOp) : Prop where
 yx : ∀ k, y.dst = some k -> k ∉ x.looks
 xy : ∀ k, x.dst = some k -> k ∉ y.looks
 ne : y.dst ≠ x.dst \/ y.dst = none
theorem qci {o : SO} {gd : Option (Nat × Bool)} {e e' : Env} (h : Ag (o.looks ++ (match gd with | some (s, _) => [s] | none => [])) e e') (L : Loc) (T : Tab) : qh2 o gd e L T = qh2 o gd e' L T := by
 simp only [qh2, zah h.left, qmg h.right]
theorem z4r {o : SO} {gd : Option (Nat × Bool)} {e : Env} {L : Loc} {T : Tab} {l p : Nat} (h : qh2 o gd e L T = some (.lp l p)) : o.lpd = some l := by
 cases gd with
 | none => exact zai h
 | some q =>
  obtain ⟨s, w⟩ := q
  simp only [qh2, gdd] at h
  split at h
  ·split at h
   ·exact zai h
   ·cases h
  ·cases h
  ·cases h
theorem z80 {x : AV} {l : Nat} (h : ∀ p, x ≠ .lp l p) : x.offLp l = x := by
 cases x <;> simp only [AV.offLp]
 rename_i l' p
 by_cases e : l' = l
 ·subst e; exact absurd rfl (h p)
 ·rw [if_neg e]
def glv (o : SOp) (e : Env) (L : Loc) : Option (Env × Loc) := gdd e o.gd (lev o.op o.dst e L) (some (q0y e o.dst (.tup []), L)) none
theorem qzf {x : SOp} {e : Env} {L : Loc} {d : Option Nat} {v : AV} (h1 : ∀ k, d = some k -> k ∉ x.looks) (h2 : d ≠ x.dst \/ d = none) (h3 : ∀ l p, x.lw = some l -> v ≠ .lp l p) :
  Eq2 (glv x (q0y e d v) L) ((glv x e L).map fun q => (q0y q.1 d v, q.2)) := by
 have hag : Ag x.op.looks (q0y e d v) e := qbk e (fun k hk hm => h1 k hk (List.mem_append_left _ hm)) v
 have hgd : Ag (match x.gd with | some (s, _) => [s] | none => []) (q0y e d v) e := qbk e (fun k hk hm => h1 k hk (List.mem_append_right _ hm)) v
 have hnew : ∀ l, x.lw = some l -> x.dst = some l -> EqE (qdb (q3a (q0y e d v) l) l (.lp l 0)) (q0y (qdb (q3a e l) l (.lp l 0)) d v) := by
  intro l hl hdl s
  cases d with
  | none => rfl
  | some k =>
   have hkl : k ≠ l := by
    rcases h2 with h2 | h2
    ·intro e; exact h2 (by rw [e, hdl])
    ·cases h2
   simp only [q0y, q2w, q78]
   by_cases e1 : l = s
   ·subst e1; simp [hkl]
   ·by_cases e2 : k = s
    ·subst e2
     simp only [e1, if_false, if_true, Option.map_some]
     rw [z80 (fun p => h3 l p hl)]
    ·simp [e1, e2]
 have hskip : EqE (q0y (q0y e d v) x.dst (.tup [])) (q0y (q0y e x.dst (.tup [])) d v) := qhk e h2 v _
 have hlev : Eq2 (lev x.op x.dst (q0y e d v) L) ((lev x.op x.dst e L).map fun q => (q0y q.1 d v, q.2)) := by
  obtain ⟨dst, op, gd, rc⟩ := x
  simp only at hag hnew hskip h2 ⊢
  cases op <;> simp only [lev, Option.map_none] <;> first
   | trivial
   | skip
  ·rename_i l sz p q
   rw [quv (fun s hs => hag s (List.mem_append_left _ hs)), q2e (fun s hs => hag s (List.mem_append_right _ hs))]
   cases qpx e (some l) p with
   | none => trivial
   | some pv =>
   cases q02 e q with
   | none => trivial
   | some qv =>
   cases pv <;> simp only [Option.bind_some] <;> first | trivial | skip
   cases q2d L l with
   | none => trivial
   | some cells =>
    simp only [Option.bind_some]
    split
    ·exact ⟨hskip, fun _ => rfl⟩
    ·trivial
  ·cases dst with
   | none => trivial
   | some l => exact ⟨hnew l rfl rfl, fun _ => rfl⟩
  ·rename_i q
   cases dst with
   | none => trivial
   | some l =>
   simp only [Option.bind_some]
   rw [q2e hag]
   cases q02 e q with
   | none => trivial
   | some qv =>
    simp only [Option.bind_some]
    split
    ·exact ⟨hnew l rfl rfl, fun _ => rfl⟩
    ·trivial
 unfold glv
 rw [qmg hgd]
 cases x.gd with
 | none => exact hlev
 | some q =>
  obtain ⟨s, w⟩ := q
  simp only [gdd]
  split
  ·split
   ·exact hlev
   ·exact ⟨hskip, fun _ => rfl⟩
  ·exact ⟨hskip, fun _ => rfl⟩
  ·trivial
theorem qwz {x : SOp} {e e2 : Env} {L L1 : Loc} (h0 : glv x e L = some (e2, L1)) {S : List Nat} (hS : ∀ k, x.dst = some k -> k ∉ S) :
  (∃ l, x.lw = some l /\ (∀ l', l' ≠ l -> q2d L1 l' = q2d L l') /\ (Ag S e2 (q3a e l) \/ Ag S e2 e)) \/ (L1 = L /\ Ag S e2 e) := by
 have hskip : Ag S (q0y e x.dst (.tup [])) e := qbk e hS _
 have hlev : ∀ e2 L1, lev x.op x.dst e L = some (e2, L1) -> (∃ l, x.lw = some l /\ (∀ l', l' ≠ l -> q2d L1 l' = q2d L l') /\ (Ag S e2 (q3a e l) \/ Ag S e2 e)) := by
  clear h0 e2 L1
  intro e2 L1 h
  obtain ⟨dst, op, gd, rc⟩ := x
  simp only at h hskip hS
  cases op <;> simp only [lev] at h <;> first | (cases h; done) | skip
  case lst l sz p q =>
   obtain ⟨pv, _, h1⟩ := K1 h
   obtain ⟨qv, _, h2⟩ := K1 h1
   cases pv <;> simp only at h2 <;> first | (cases h2; done) | skip
   obtain ⟨cells, _, h3⟩ := K1 h2
   split at h3
   ·injection h3 with h3
    obtain ⟨e1, e2'⟩ := Prod.mk.inj h3
    subst e1; subst e2'
    exact ⟨l, rfl, fun l' hl => by rw [q2w, if_neg (fun e => hl e.symm)], .inr hskip⟩
   ·cases h3
  case lalloc zero =>
   obtain ⟨l, rfl, h1⟩ := Q0 h
   obtain ⟨e1, e2'⟩ := Prod.mk.inj h1
   subst e1; subst e2'
   exact ⟨l, rfl, fun l' hl => by rw [q2w, if_neg (fun e => hl e.symm)], .inl (qbk (d := some l) (q3a e l) hS _)⟩
  case lbox y =>
   obtain ⟨l, rfl, h1⟩ := K1 h
   obtain ⟨qv, _, h2⟩ := K1 h1
   split at h2
   ·injection h2 with h2
    obtain ⟨e1, e2'⟩ := Prod.mk.inj h2
    subst e1; subst e2'
    exact ⟨l, rfl, fun l' hl => by rw [q2w, if_neg (fun e => hl e.symm)], .inl (qbk (d := some l) (q3a e l) hS _)⟩
   ·cases h2
 unfold glv at h0
 cases hg : x.gd with
 | none => rw [hg] at h0; exact .inl (hlev _ _ h0)
 | some q =>
  rw [hg] at h0
  obtain ⟨s, w⟩ := q
  simp only [gdd] at h0
  split at h0
  ·split at h0
   ·exact .inl (hlev _ _ h0)
   ·injection h0 with h0; obtain ⟨e1, e2'⟩ := Prod.mk.inj h0; subst e1; subst e2'; exact .inr ⟨rfl, hskip⟩
  ·injection h0 with h0; obtain ⟨e1, e2'⟩ := Prod.mk.inj h0; subst e1; subst e2'; exact .inr ⟨rfl, hskip⟩
  ·cases h0
theorem z4s {o : SO} {gd : Option (Nat × Bool)} {l : Nat} (h : o.lpd ≠ some l) (e : Env) (L : Loc) (T : Tab) : qh2 o gd (q3a e l) L T = qh2 o gd e L T := by
 simp only [qh2, z7y h, z1i]
theorem ze9 {o : SO} {gd : Option (Nat × Bool)} {L L' : Loc} (h : ∀ l, o.lpd = some l -> q2d L l = q2d L' l) (e : Env) (T : Tab) : qh2 o gd e L T = qh2 o gd e L' T := by
 simp only [qh2, ze8 h]
theorem zea {o : SO} {gd : Option (Nat × Bool)} (h : o.readsT = false) (e : Env) (L : Loc) (T T' : Tab) : qh2 o gd e L T = qh2 o gd e L T' := by
 simp only [qh2, zia h e L T T']
theorem z1k {x y : SOp} {e e2 : Env} {L L1 : Loc} (h : glv x e L = some (e2, L1)) (hS : ∀ k, x.dst = some k -> k ∉ y.looks) (hl : ∀ l, x.lw = some l -> y.op.lpd ≠ some l) (T : Tab) :
  qh2 y.op y.gd e2 L1 T = qh2 y.op y.gd e L T := by
 rcases qwz h hS with ⟨l, h1, h2, h3⟩ | ⟨rfl, h3⟩
 ·have hne := hl l h1
  rw [ze9 (L := L1) (L' := L) (fun l' hl' => h2 l' (fun e => hne (by rw [hl', e])))]
  rcases h3 with h3 | h3
  ·rw [qci h3, z4s hne]
  ·rw [qci h3]
 ·rw [qci h3]
inductive Swaps (y x : SOp) : Prop where
 | vv : y.op.kind = .val -> x.op.kind = .val -> Swaps y x
 | vl : y.op.kind = .val -> x.op.kind = .leff -> (∀ l, x.lw = some l -> y.op.lpd ≠ some l) -> Swaps y x
 | lv : y.op.kind = .leff -> x.op.kind = .val -> (∀ l, y.lw = some l -> x.op.lpd ≠ some l) -> Swaps y x
 | vt : y.op.kind = .val -> x.op.kind = .teff -> (y.op.readsT = false \/ zib y x.rc) -> Swaps y x
 | lt : y.op.kind = .leff -> x.op.kind = .teff -> Swaps y x
 | ll (zy zx : List AV) : y.op = .lalloc zy -> x.op = .lalloc zx -> y.gd = none -> x.gd = none -> y.dst ≠ none -> Swaps y x
theorem q8j {P : Program} {o : SOp} (h : o.op.kind = .val) (K : Env -> Loc -> Tab -> Prop) (e : Env) (L : Loc) (T : Tab) : G9 P o K e L T = match qh2 o.op o.gd e L T with
  | some x => K (q0y e o.dst x) L T
  | none => False := by
 unfold G9; simp only [h]; rfl
theorem q4x {P : Program} {o : SOp} (h : o.op.kind = .leff) (K : Env -> Loc -> Tab -> Prop) (e : Env) (L : Loc) (T : Tab) : G9 P o K e L T = match glv o e L with
  | some (e, l) => K e l T
  | none => False := by
 unfold G9 glv; simp only [h]; rfl
theorem qit {P : Program} {o : SOp} (h : o.op.kind = .teff) (K : Env -> Loc -> Tab -> Prop) (e : Env) (L : Loc) (T : Tab) : G9 P o K e L T =
  gdd e o.gd (tst P o.op e T fun v T' => v.isLp = false -> G6 (q0y e o.dst v) L T' o.rc /\ K (q0y e o.dst v) L T')
   (G6 (q0y e o.dst (.tup [])) L T o.rc /\ K (q0y e o.dst (.tup [])) L T) False := by
 unfold G9; simp only [h]
theorem qv0 {e : Env} {L : Loc} {T : Tab} : ∀ {rc : RC}, G6 e L T rc -> ∀ p ∈ rc, qh2 p.2.1 p.2.2 e L T = q2d e p.1
 | (_, _, _) :: _, h, p, hp => by
  rcases List.mem_cons.1 hp with rfl | hp
  ·exact h.1
  ·exact qv0 h.2 p hp
theorem z4t {e : Env} {L : Loc} {T : Tab} : ∀ {rc : RC}, (∀ p ∈ rc, qh2 p.2.1 p.2.2 e L T = q2d e p.1) -> G6 e L T rc
 | [], _ => trivial
 | (_, _, _) :: _, h => ⟨h _ (List.mem_cons_self ..), z4t fun p hp => h p (List.mem_cons_of_mem _ hp)⟩
theorem z4u {P : Program} {y x : SOp} (ha : Apart y x) (hyy : ∀ k, y.dst = some k -> k ∉ y.looks) (hs : Swaps y x) {K : Env -> Loc -> Tab -> Prop} (hK : z3y K) {e : Env} {L : Loc} {T : Tab} (H : G9 P y (G9 P x K) e L T) :
  G9 P { x with rc := q9c y x.rc } (G9 P y K) e L T := by
 cases hs with
 | vv ky kx =>
  rw [q8j ky] at H
  cases hy : qh2 y.op y.gd e L T with
  | none => simp [hy] at H
  | some vy =>
  simp only [hy] at H
  rw [q8j kx] at H
  cases hx : qh2 x.op x.gd (q0y e y.dst vy) L T with
  | none => simp [hx] at H
  | some vx =>
  simp only [hx] at H
  rw [q8j (o := { x with rc := q9c y x.rc }) kx]
  simp only
  rw [qci (e' := e) (qbk e (fun k hk => ha.yx k hk) vy)] at hx
  rw [hx]
  simp only
  rw [q8j ky, qci (e' := e) (qbk e (fun k hk => ha.xy k hk) vx), hy]
  exact hK _ _ _ _ _ (qhk e ha.ne vy vx) (fun _ => rfl) H
 | vl ky kx hl =>
  rw [q8j ky] at H
  cases hy : qh2 y.op y.gd e L T with
  | none => simp [hy] at H
  | some vy =>
  simp only [hy] at H
  rw [q4x kx] at H
  have hq := qzf (x := x) (e := e) (L := L) (d := y.dst) (v := vy) ha.yx ha.ne (fun l p hlw e => by subst e; exact hl l hlw (z4r hy))
  rw [q4x (o := { x with rc := q9c y x.rc }) kx]
  have hgl : glv { x with rc := q9c y x.rc } e L = glv x e L := rfl
  rw [hgl]
  cases hx : glv x e L with
  | none =>
   rw [hx] at hq
   cases hx' : glv x (q0y e y.dst vy) L with
   | none => simp [hx'] at H
   | some q => rw [hx'] at hq; exact hq.elim
  | some q =>
   obtain ⟨e2, L1⟩ := q
   rw [hx] at hq
   cases hx' : glv x (q0y e y.dst vy) L with
   | none => simp [hx'] at H
   | some q' =>
    obtain ⟨e1, L1'⟩ := q'
    rw [hx'] at hq
    simp only [hx'] at H
    simp only
    rw [q8j ky, z1k hx ha.xy hl T, hy]
    exact hK _ _ _ _ _ hq.1 hq.2 H
 | lv ky kx hl =>
  rw [q4x ky] at H
  cases hy : glv y e L with
  | none => simp [hy] at H
  | some q =>
  obtain ⟨e1, L1⟩ := q
  simp only [hy] at H
  rw [q8j kx, z1k hy ha.yx hl T] at H
  rw [q8j (o := { x with rc := q9c y x.rc }) kx]
  simp only
  cases hx : qh2 x.op x.gd e L T with
  | none => simp [hx] at H
  | some vx =>
  simp only [hx] at H ⊢
  have hne : x.dst ≠ y.dst \/ x.dst = none := by
   rcases ha.ne with h | h
   ·exact .inl (fun e => h e.symm)
   ·by_cases hx0 : x.dst = none
    ·exact .inr hx0
    ·exact .inl (fun e => hx0 (by rw [e, h]))
  have hq := qzf (x := y) (e := e) (L := L) (d := x.dst) (v := vx) ha.xy hne (fun l p hlw e => by subst e; exact hl l hlw (z4r hx))
  rw [q4x ky]
  rw [hy] at hq
  cases hy' : glv y (q0y e x.dst vx) L with
  | none => rw [hy'] at hq; exact hq.elim
  | some q' =>
   obtain ⟨e2, L2⟩ := q'
   rw [hy'] at hq
   exact hK _ _ _ _ _ (fun s => (hq.1 s).symm) (fun s => (hq.2 s).symm) H
 | vt ky kx hr =>
  rw [q8j ky] at H
  cases hy : qh2 y.op y.gd e L T with
  | none => simp [hy] at H
  | some vy =>
  simp only [hy] at H
  rw [qit kx] at H
  rw [qit (o := { x with rc := q9c y x.rc }) kx]
  simp only
  have hagx : Ag x.looks (q0y e y.dst vy) e := qbk e (fun k hk => ha.yx k hk) vy
  rw [qmg (fun s hs => hagx s (List.mem_append_right _ hs)), qwx (fun s hs => hagx s (List.mem_append_left _ hs))] at H
  have key : ∀ v T', G6 (q0y (q0y e y.dst vy) x.dst v) L T' x.rc /\ K (q0y (q0y e y.dst vy) x.dst v) L T' ->
    (y.op.readsT = false -> ∀ T1, qh2 y.op y.gd e L T1 = some vy) ->
    G6 (q0y e x.dst v) L T' (q9c y x.rc) /\ G9 P y K (q0y e x.dst v) L T' := by
   intro v T' ⟨h1, h2⟩ hind
   refine ⟨z4t fun p hp => ?_, ?_⟩
   ·rw [q9c, ky, if_neg (by decide), z4q, List.mem_filter] at hp
    have := qv0 h1 p hp.1
    cases hd : y.dst with
    | none => simp only [hd, q0y] at this; exact this
    | some k =>
     have hp2 := hp.2
     simp only [hd, Bool.and_eq_true, bne_iff_ne, ne_eq, Bool.not_eq_true'] at hp2
     have hne : k ∉ zaj p := by simpa using hp2.2
     rw [hd] at this
     have hq := qhk e (d := some k) (d' := x.dst) (by rw [<- hd]; exact ha.ne) vy v
     rw [qci (e' := q0y (q0y e x.dst v) (some k) vy) (hq.ag _), hq p.1] at this
     rw [qci (e' := q0y e x.dst v) (qbk _ (fun k' hk' => by injection hk' with hk'; subst hk'; exact hne) vy)] at this
     rw [this]
     simp only [q0y, q2w]
     rw [if_neg (fun e => hp2.1 e.symm)]
   ·rw [q8j ky]
    have hv : qh2 y.op y.gd (q0y e x.dst v) L T' = some vy := by
     rw [qci (e' := e) (qbk e (fun k hk => ha.xy k hk) v)]
     rcases hr with hr | ⟨k, hk, hm⟩
     ·exact hind hr T'
     ·have := qv0 h1 _ hm
      simp only at this
      have hq := qhk e (d := y.dst) (d' := x.dst) ha.ne vy v
      rw [qci (e' := q0y (q0y e x.dst v) y.dst vy) (hq.ag _), hq k] at this
      rw [qci (e' := q0y e x.dst v) (qbk _ hyy vy), qci (e' := e) (qbk e (fun k hk => ha.xy k hk) v), hk] at this
      simp only [q0y, q2w, if_true] at this
      exact this
    rw [hv]
    exact hK _ _ _ _ _ (qhk e ha.ne vy v) (fun _ => rfl) h2
  have hind : y.op.readsT = false -> ∀ T1, qh2 y.op y.gd e L T1 = some vy := fun h T1 => by rw [zea h e L T1 T, hy]
  exact qqf (fun h => quy (fun v T' hv hlp => key v T' (hv hlp) hind) h) (fun h => key _ _ h hind) H
 | lt ky kx =>
  rw [q4x ky] at H
  cases hy : glv y e L with
  | none => simp [hy] at H
  | some q =>
  obtain ⟨e1, L1⟩ := q
  simp only [hy] at H
  rw [qit kx] at H
  rw [qit (o := { x with rc := q9c y x.rc }) kx]
  simp only
  have hne : x.dst ≠ y.dst \/ x.dst = none := by
   rcases ha.ne with h | h
   ·exact .inl (fun e => h e.symm)
   ·by_cases hx0 : x.dst = none
    ·exact .inr hx0
    ·exact .inl (fun e => hx0 (by rw [e, h]))
  have hev : (∀ k, tst P x.op e1 T k = tst P x.op e T k) /\ (∀ (p q : Prop), gdd e1 x.gd p q False = gdd e x.gd p q False) := by
   rcases qwz hy ha.yx with ⟨l, _, _, h3⟩ | ⟨_, h3⟩
   ·rcases h3 with h3 | h3
    ·exact ⟨fun k => by rw [qwx (fun s hs => h3 s (List.mem_append_left _ hs)), z7z], fun p q => by rw [qmg (fun s hs => h3 s (List.mem_append_right _ hs)), z1i]⟩
    ·exact ⟨fun k => by rw [qwx (fun s hs => h3 s (List.mem_append_left _ hs))], fun p q => by rw [qmg (fun s hs => h3 s (List.mem_append_right _ hs))]⟩
   ·exact ⟨fun k => by rw [qwx (fun s hs => h3 s (List.mem_append_left _ hs))], fun p q => by rw [qmg (fun s hs => h3 s (List.mem_append_right _ hs))]⟩
  rw [hev.2, hev.1] at H
  have key : ∀ v T', v.isLp = false -> K (q0y e1 x.dst v) L1 T' -> G9 P y K (q0y e x.dst v) L T' := by
   intro v T' hlp hk
   have hq := qzf (x := y) (e := e) (L := L) (d := x.dst) (v := v) ha.xy hne (fun l p _ e => by subst e; cases hlp)
   rw [q4x ky]
   rw [hy] at hq
   cases hy' : glv y (q0y e x.dst v) L with
   | none => rw [hy'] at hq; exact hq.elim
   | some q' =>
    obtain ⟨e2, L2⟩ := q'
    rw [hy'] at hq
    exact hK _ _ _ _ _ (fun s => (hq.1 s).symm) (fun s => (hq.2 s).symm) hk
  have hrc : q9c y x.rc = [] := by rw [q9c, ky, if_pos rfl]
  rw [hrc]
  exact qqf (fun h => quy (fun v T' hv hlp => ⟨trivial, key v T' hlp (hv hlp).2⟩) h) (fun h => ⟨trivial, key _ _ rfl h.2⟩) H
 | ll zy zx hy hx gy gx hd =>
  have ky : y.op.kind = .leff := by rw [hy]; rfl
  have kx : x.op.kind = .leff := by rw [hx]; rfl
  rw [q4x ky] at H
  rw [q4x (o := { x with rc := q9c y x.rc }) kx]
  cases dy : y.dst with
  | none => exact absurd dy hd
  | some ly =>
  cases dx : x.dst with
  | none =>
   have h1 : ∀ e L, glv x e L = none := fun e L => by simp [glv, gx, gdd, hx, lev, dx]
   have h2 : glv y e L = some (qdb (q3a e ly) ly (.lp ly 0), qdb L ly zy) := by simp [glv, gy, gdd, hy, lev, dy]
   simp only [h2, q4x kx, h1] at H
  | some lx =>
   have hne : ly ≠ lx := by
    rcases ha.ne with h | h
    ·intro e; exact h (by rw [dy, dx, e])
    ·exact absurd h hd
   have h1 : ∀ e L, glv x e L = some (qdb (q3a e lx) lx (.lp lx 0), qdb L lx zx) := fun e L => by simp [glv, gx, gdd, hx, lev, dx]
   have h1' : glv { dst := some lx, op := x.op, gd := x.gd, rc := q9c y x.rc } e L = some (qdb (q3a e lx) lx (.lp lx 0), qdb L lx zx) := by simp [glv, gx, gdd, hx, lev]
   have h2 : ∀ e L, glv y e L = some (qdb (q3a e ly) ly (.lp ly 0), qdb L ly zy) := fun e L => by simp [glv, gy, gdd, hy, lev, dy]
   simp only [h2, q4x kx, h1] at H
   simp only [h1', q4x ky, h2]
   refine hK _ _ _ _ _ (fun s => ?_) (fun s => ?_) H
   ·simp only [q2w, q78]
    by_cases e1 : lx = s
    ·subst e1
     simp [hne, AV.offLp, Ne.symm hne]
    ·by_cases e2 : ly = s
     ·subst e2
      simp [e1, AV.offLp, hne]
     ·simp only [e1, e2, if_false, Option.map_map]
      congr 1
      funext v
      cases v <;> simp only [Function.comp, AV.offLp]
      rename_i l p
      by_cases q1 : l = ly
      ·subst q1
       rw [if_pos rfl, if_neg (fun e => hne e)]
       simp only [if_true]
      ·by_cases q2 : l = lx
       ·subst q2; simp only [q1, if_false, if_true]
       ·simp only [q1, q2, if_false]
   ·simp only [q2w]
    by_cases e1 : lx = s
    ·subst e1; simp [hne]
    ·simp [e1]
end Go.Aw
namespace Go.Aw
open Go
set_option linter.all false
variable [Glob]
structure OkOp (P : Program) (H : Hint) (n : Nat) (ops : Array Oper) (o : Oper) (s : SOp) : Prop where
 op : ze3 P H o = some s.op
 dst : s.dst = o.dst
 lt : ∀ k, o.dst = some k -> k < n
 gd : match o.guard with
  | none => s.gd = none
  | some (j, want) => ∃ k, (ops[j]?).bind (·.dst) = some k /\ s.gd = some (k, want)
section
variable {P : Program} {H : Hint} {X0 : Cx} {T0 : Tab} {w0 : World} {X : Cx} {lam : Nat -> Nat} {env : Env} {L : Loc} {T : Tab} {a : Act} {w : World} {ops : Array Oper} {Q : Exit -> Act -> World -> Prop}
theorem z2q (s : SOp) (h : s.gd = none) (K : Env -> Loc -> Tab -> Prop) (e : Env) (L : Loc) (T : Tab) : G9 P s K e L T = q7v P s.op s.dst s.rc K e L T := by
 unfold G9 q7v
 rw [h]
 cases hk : s.op.kind <;> simp only [qh2, gdd]
theorem z2r (s : SOp) {k : Nat} {want : Bool} (h : s.gd = some (k, want)) (K : Env -> Loc -> Tab -> Prop) (e : Env) (L : Loc) (T : Tab) (H : G9 P s K e L T) :
  (q2d e k = some (.b want) /\ q7v P s.op s.dst s.rc K e L T) \/ ((∃ x, q2d e k = some x /\ (x = .b (!want) \/ x = .tup [])) /\ K (q0y e s.dst (.tup [])) L T) := by
 unfold G9 at H
 rw [h] at H
 have fin : ∀ {α : Type} {y nn z : α} (r : α), gdd e (some (k, want)) y nn z = r -> (q2d e k = some (.b want) /\ r = y) \/ ((∃ x, q2d e k = some x /\ (x = .b (!want) \/ x = .tup [])) /\ r = nn) \/ r = z := by
  intro α y nn z r hr
  subst hr
  simp only [gdd]
  split
  ·rename_i x hx
   split
   ·rename_i hw; subst hw; exact .inl ⟨hx, rfl⟩
   ·rename_i hw
    refine .inr (.inl ⟨⟨_, hx, .inl ?_⟩, rfl⟩)
    cases x <;> cases want <;> simp_all
  ·rename_i hx; exact .inr (.inl ⟨⟨_, hx, .inr rfl⟩, rfl⟩)
  ·exact .inr (.inr rfl)
 unfold q7v
 cases hk : s.op.kind with
 | val =>
  simp only [hk, qh2] at H
  rcases fin _ (rfl : gdd e (some (k, want)) (vev s.op e L T) (some (.tup [])) none = _) with ⟨h1, h2⟩ | ⟨h1, h2⟩ | h2
  ·rw [h2] at H; exact .inl ⟨h1, H⟩
  ·rw [h2] at H; exact .inr ⟨h1, H⟩
  ·rw [h2] at H; exact H.elim
 | leff =>
  simp only [hk] at H
  rcases fin _ (rfl : gdd e (some (k, want)) (lev s.op s.dst e L) (some (q0y e s.dst (.tup []), L)) none = _) with ⟨h1, h2⟩ | ⟨h1, h2⟩ | h2
  ·rw [h2] at H; exact .inl ⟨h1, H⟩
  ·rw [h2] at H; exact .inr ⟨h1, H⟩
  ·rw [h2] at H; exact H.elim
 | teff =>
  simp only [hk] at H
  rcases fin _ (rfl : gdd e (some (k, want)) _ _ False = _) with ⟨h1, h2⟩ | ⟨h1, h2⟩ | h2
  ·rw [h2] at H; exact .inl ⟨h1, H⟩
  ·rw [h2] at H; exact .inr ⟨h1, H.2⟩
  ·rw [h2] at H; exact H.elim
 | snil =>
  simp only [hk] at H
  rcases fin _ (rfl : gdd e (some (k, want)) _ _ False = _) with ⟨h1, h2⟩ | ⟨h1, h2⟩ | h2
  ·rw [h2] at H
   refine .inl ⟨h1, ?_⟩
   unfold q7v at H
   rw [hk] at H
   exact H
  ·rw [h2] at H; exact .inr ⟨h1, H⟩
  ·rw [h2] at H; exact H.elim
theorem qr1 {n : Nat} {i : Nat} {o : Oper} {s : SOp} (hi : ops[i]? = some o) (ho : OkOp P H n ops o s) (h : SR X0 T0 w0 X lam env L T a w) (hn : a.tmps.size = n) {K : Env -> Loc -> Tab -> Prop} (hk : G9 P s K env L T) :
  wpOp P ops Q i (Nx X0 T0 w0 n K) a w := by
 subst hn
 unfold wpOp
 simp only [hi]
 have hgd := ho.gd
 cases hg : o.guard with
 | none =>
  rw [hg] at hgd
  rw [z2q s hgd, ho.dst] at hk
  have hw : Region.wanted o (yielded ops a.tmps) = true := by simp [Region.wanted, hg]
  rw [if_pos hw]
  exact .inl (qqz h ho.op ho.lt hk)
 | some q =>
  obtain ⟨j, want⟩ := q
  rw [hg] at hgd
  obtain ⟨k, hj, hgd⟩ := hgd
  have hy : ∀ x, q2d env k = some x -> ∃ v, a.tmps[k]? = some v /\ evr X lam w x v := fun x hx => h.env k x hx
  rcases z2r s hgd K env L T hk with ⟨h1, h2⟩ | ⟨⟨x, h1, h2⟩, h3⟩
  ·obtain ⟨v, hv, hr⟩ := hy _ h1
   simp only [evr, vr] at hr
   subst hr
   have hw : Region.wanted o (yielded ops a.tmps) = true := by simp [Region.wanted, hg, yielded, hj, hv]
   rw [if_pos hw]
   rw [ho.dst] at h2
   exact .inl (qqz h ho.op ho.lt h2)
  ·obtain ⟨v, hv, hr⟩ := hy _ h1
   have hw : Region.wanted o (yielded ops a.tmps) = false := by
    rcases h2 with rfl | rfl
    ·simp only [evr, vr] at hr
     subst hr
     cases want <;> simp [Region.wanted, hg, yielded, hj, hv]
    ·simp only [evr, vr, vrs] at hr
     obtain ⟨us, rfl, rfl⟩ := hr
     simp [Region.wanted, hg, yielded, hj, hv]
   rw [if_neg (by rw [hw]; decide)]
   rw [ho.dst] at h3
   exact Nx.undef h ho.lt h3
def z4v (X0 : Cx) (T0 : Tab) (w0 : World) (n : Nat) (K : Env -> Loc -> Tab -> Prop) (Q : Exit -> Act -> World -> Prop) : Prop := ∀ a w, Nx X0 T0 w0 n K a w -> Q .normal a w
def OkL (P : Program) (H : Hint) (n : Nat) (ops : Array Oper) : List Nat -> List SOp -> Prop
 | [], [] => True
 | i :: is, s :: ss => (∃ o, ops[i]? = some o /\ OkOp P H n ops o s) /\ OkL P H n ops is ss
 | _, _ => False
theorem z1l {n : Nat} {K : Env -> Loc -> Tab -> Prop} (hQ : z4v X0 T0 w0 n K Q) : ∀ (is : List Nat) (ss : List SOp), OkL P H n ops is ss ->
  ∀ {a w}, Nx X0 T0 w0 n (qwv P ss K) a w -> wpOps P ops Q is a w
 | [], [], _, a, w, h => hQ a w h
 | [], _ :: _, hf, _, _, _ => hf.elim
 | _ :: _, [], hf, _, _, _ => hf.elim
 | i :: is, s :: ss, ⟨⟨o, hi, ho⟩, hf⟩, a, w, ⟨X, lam, env, L, T, hk, hsr, hn⟩ => by
  rw [wpOps_cons]
  exact wpOp_mono (fun a w h => z1l hQ is ss hf h) (qr1 hi ho hsr hn hk)
theorem zbd (y x : SOp) : (qze y.dst x.looks && qze x.dst y.looks && (y.dst != x.dst || y.dst.isNone)) = true -> Apart y x := by
 intro h
 simp only [Bool.and_eq_true, Bool.or_eq_true, bne_iff_ne, ne_eq, Option.isNone_iff_eq_none] at h
 exact ⟨qoe h.1.1, qoe h.1.2, h.2⟩
def z4w (y x : SOp) (rc : RC) : Bool :=
 match y.op.kind, x.op.kind with
 | .val, .val => true
 | .val, .leff => x.lw.isNone || y.op.lpd != x.lw
 | .leff, .val => y.lw.isNone || x.op.lpd != y.lw
 | .val, .teff => !y.op.readsT || rc.any (fun p => some p.1 == y.dst)
 | .leff, .teff => true
 | .leff, .leff => (match y.op, x.op with | .lalloc _, .lalloc _ => true | _, _ => false) && y.gd.isNone && x.gd.isNone && y.dst.isSome
 | _, _ => false
def qzg (y x : SOp) (rc : RC) : Bool :=
 qze y.dst x.looks && qze x.dst y.looks && (y.dst != x.dst || y.dst.isNone) && qze y.dst y.looks && z4w y x rc
def z4x (C : List SOp) (rc : RC) : Prop := ∀ p ∈ rc, ∃ z ∈ C, z.dst = some p.1 /\ p.2 = (z.op, z.gd)
theorem z2s {C : List SOp} {y x : SOp} {rc : RC} (h : qzg y x rc = true) (hx : x.rc = rc) (hC : z4x C rc) (hd : ∀ z ∈ C, z.dst ≠ none -> z.dst = y.dst -> z.op = y.op /\ z.gd = y.gd) :
  Apart y x /\ (∀ k, y.dst = some k -> k ∉ y.looks) /\ Swaps y x := by
 unfold qzg at h
 simp only [Bool.and_eq_true] at h
 obtain ⟨⟨h1, h2⟩, h3⟩ := h
 refine ⟨zbd y x (by simpa only [Bool.and_eq_true] using h1), qoe h2, ?_⟩
 unfold z4w at h3
 split at h3
 ·rename_i k1 k2; exact .vv k1 k2
 ·rename_i k1 k2
  refine .vl k1 k2 fun l hl e => ?_
  simp [hl, e] at h3
 ·rename_i k1 k2
  refine .lv k1 k2 fun l hl e => ?_
  simp [hl, e] at h3
 ·rename_i k1 k2
  refine .vt k1 k2 ?_
  simp only [Bool.or_eq_true, Bool.not_eq_true'] at h3
  rcases h3 with h3 | h3
  ·exact .inl h3
  ·right
   obtain ⟨p, hp, hpd⟩ := List.any_eq_true.1 h3
   have hpd : some p.1 = y.dst := by simpa using hpd
   obtain ⟨z, hz, hz1, hz2⟩ := hC p hp
   obtain ⟨e1, e2⟩ := hd z hz (by rw [hz1]; simp) (by rw [hz1, hpd])
   refine ⟨p.1, hpd.symm, ?_⟩
   rw [<- e1, <- e2, hx]
   have : (p.1, z.op, z.gd) = p := by rw [<- hz2]
   rw [this]; exact hp
 ·rename_i k1 k2; exact .lt k1 k2
 ·simp only [Bool.and_eq_true] at h3
  obtain ⟨⟨⟨h4, h5⟩, h6⟩, h7⟩ := h3
  split at h4
  ·rename_i zy zx e1 e2
   exact .ll zy zx e1 e2 (by simpa using h5) (by simpa using h6) (by intro e; simp [e] at h7)
  ·cases h4
 ·cases h3
def z4y (x : SOp) : List SOp -> RC -> Option RC
 | [], rc => some rc
 | y :: pre, rc => match z4y x pre rc with
  | some r => if qzg y x r then some (q9c y r) else none
  | none => none
theorem z2t {y : SOp} {r r' : RC} (h : ∀ p ∈ r, p ∈ r') : ∀ p ∈ q9c y r, p ∈ q9c y r' := by
 intro p hp
 unfold q9c at hp ⊢
 split
 ·rename_i hk; rw [if_pos hk] at hp; exact hp
 ·rename_i hk
  rw [if_neg hk] at hp
  rw [z4q, List.mem_filter] at hp ⊢
  exact ⟨h p hp.1, hp.2⟩
theorem z2u {y x : SOp} {r r' : RC} (h : ∀ p ∈ r, p ∈ r') (hs : qzg y x r = true) : qzg y x r' = true := by
 unfold qzg at hs ⊢
 simp only [Bool.and_eq_true] at hs ⊢
 refine ⟨hs.1, ?_⟩
 have h3 := hs.2
 cases hy : y.op.kind <;> cases hx : x.op.kind <;> simp only [z4w, hy, hx] at h3 ⊢ <;> first
  | exact h3
  | skip
 simp only [Bool.or_eq_true] at h3 ⊢
 rcases h3 with h3 | h3
 ·exact .inl h3
 ·obtain ⟨p, hp, hpd⟩ := List.any_eq_true.1 h3
  exact .inr (List.any_eq_true.2 ⟨p, h p hp, hpd⟩)
theorem qhl {x : SOp} {rc : RC} : ∀ {l l' : List SOp}, l'.Sublist l -> ∀ {r}, z4y x l rc = some r -> ∃ r', z4y x l' rc = some r' /\ ∀ p ∈ r, p ∈ r'
 | _, _, .slnil, r, h => ⟨r, h, fun _ hp => hp⟩
 | y :: l, l', .cons _ hs, r, h => by
  simp only [z4y] at h
  split at h
  ·rename_i r1 h1
   split at h
   ·injection h with h; subst h
    obtain ⟨r', h2, h3⟩ := qhl hs h1
    refine ⟨r', h2, fun p hp => h3 p ?_⟩
    unfold q9c at hp
    split at hp
    ·cases hp
    ·exact (List.mem_filter.1 hp).1
   ·cases h
  ·cases h
 | y :: l, _, .cons_cons _ hs, r, h => by
  simp only [z4y] at h
  split at h
  ·rename_i r1 h1
   split at h
   ·rename_i hsw
    injection h with h; subst h
    obtain ⟨r', h2, h3⟩ := qhl hs h1
    refine ⟨q9c y r', ?_, z2t h3⟩
    simp only [z4y, h2, z2u h3 hsw, if_true]
   ·cases h
  ·cases h
theorem qu1 {C : List SOp} {x : SOp} {K : Env -> Loc -> Tab -> Prop} (hK : z3y K) (post : List SOp) (hC : z4x C x.rc) : ∀ (pre : List SOp), (∀ y ∈ pre, y ∈ C) ->
  (∀ y ∈ C, ∀ z ∈ C, z.dst ≠ none -> z.dst = y.dst -> z.op = y.op /\ z.gd = y.gd) -> ∀ {r}, z4y x pre x.rc = some r ->
  (∀ p ∈ r, p ∈ x.rc) /\ ∀ {env L T}, qwv P (pre ++ x :: post) K env L T -> G9 P { x with rc := r } (qwv P (pre ++ post) K) env L T
 | [], _, _, r, h => by
  simp only [z4y] at h; injection h with h; subst h
  exact ⟨fun _ hp => hp, fun H => H⟩
 | y :: pre, hm, hd, r, h => by
  simp only [z4y] at h
  split at h
  ·rename_i r1 h1
   split at h
   ·rename_i hsw
    injection h with h; subst h
    obtain ⟨hsub, hih⟩ := qu1 hK post hC pre (fun z hz => hm z (List.mem_cons_of_mem _ hz)) hd h1
    refine ⟨fun p hp => ?_, fun H => ?_⟩
    ·unfold q9c at hp
     split at hp
     ·cases hp
     ·exact hsub p (List.mem_filter.1 hp).1
    ·have hy := hm y (List.mem_cons_self ..)
     have hs2 : qzg y { x with rc := r1 } r1 = true := hsw
     obtain ⟨s1, s2, s3⟩ := z2s (C := C) (y := y) (x := { x with rc := r1 }) hs2 rfl (fun p hp => hC p (hsub p hp)) (fun z hz => hd y hy z hz)
     have H2 : G9 P y (G9 P { x with rc := r1 } (qwv P (pre ++ post) K)) _ _ _ :=
      qir (fun _ => rfl) (fun _ => rfl) (fun e e' L L' T he hl hk => opsG_ext_step hK (pre ++ post) he hl (hih hk)) H
     exact z4u s1 s2 s3 (quz hK _) H2
   ·cases h
  ·cases h
where
 opsG_ext_step {x : SOp} {K : Env -> Loc -> Tab -> Prop} (hK : z3y K) (l : List SOp) {e e' : Env} {L L' : Loc} {T : Tab} (he : EqE e e') (hl : EqL L L') (h : G9 P x (qwv P l K) e L T) : G9 P x (qwv P l K) e' L' T :=
  qir he hl (fun _ _ _ _ _ h1 h2 h3 => quz hK l _ _ _ _ _ h1 h2 h3) h
end
end Go.Aw
namespace Go.Aw
open Go
set_option linter.all false
variable [Glob]
abbrev Ent := Nat × SOp
def qhm (ops : Array Oper) (i : Nat) : List Nat :=
 match ops[i]? with
 | some o => (o.after.toList.filter (Region.binds .any)).map (·.on)
 | none => []
def zlw (ops : Array Oper) : List Ent -> List (Nat × List Nat) -> List (Nat × List Nat)
 | [], acc => acc
 | (i, _) :: r, acc =>
  let es := qhm ops i
  let add (l : List Nat) (x : Nat) : List Nat := if l.contains x then l else x :: l
  let all := es.foldl (fun l e => ((q2d acc e).getD []).foldl add (add l e)) []
  zlw ops r ((i, all) :: acc)
def qtc (A : List (Nat × List Nat)) (i : Nat) : List Nat := (q2d A i).getD []
def zeb (ops : Array Oper) (A : List (Nat × List Nat)) (C : List Ent) : Bool :=
 C.all fun x => (qtc A x.1).all fun y => (qhm ops x.1).any fun e => e == y || (qtc A e).contains y
def chk (ops : Array Oper) (A : List (Nat × List Nat)) : List Ent -> List Ent -> Bool
 | _, [] => true
 | l, x :: r => (qhm ops x.1).all (fun e => (l.map (·.1)).contains e) && (z4y x.2 ((l.filter fun y => !(qtc A x.1).contains y.1).map (·.2)) x.2.rc).isSome && chk ops A (l ++ [x]) r
def qx0 : List Nat -> Bool
 | [] => true
 | x :: l => !l.contains x && qx0 l
theorem qkt : ∀ {l : List Nat}, qx0 l = true -> l.Nodup
 | [], _ => List.nodup_nil
 | x :: l, h => by
  simp only [qx0, Bool.and_eq_true, Bool.not_eq_true'] at h
  exact List.nodup_cons.2 ⟨by simpa using h.1, qkt h.2⟩
structure DrawOk (P : Program) (H : Hint) (n : Nat) (ops : Array Oper) (A : List (Nat × List Nat)) (C : List Ent) : Prop where
 ok : ∀ x ∈ C, ∃ o, ops[x.1]? = some o /\ OkOp P H n ops o x.2
 nodup : (C.map (·.1)).Nodup
 all : ∀ i, i < ops.size -> ∃ s, (i, s) ∈ C
 anc : zeb ops A C = true
 chk : chk ops A [] C = true
 rc : ∀ x ∈ C, z4x (C.map (·.2)) x.2.rc
 dsts : ∀ y ∈ C.map (·.2), ∀ z ∈ C.map (·.2), z.dst ≠ none -> z.dst = y.dst -> z.op = y.op /\ z.gd = y.gd
theorem qmh {ops : Array Oper} {A : List (Nat × List Nat)} : ∀ (r l : List Ent), chk ops A l r = true -> ∀ m x t, r = m ++ x :: t ->
  (∀ e ∈ qhm ops x.1, e ∈ (l ++ m).map (·.1)) /\ (z4y x.2 (((l ++ m).filter fun y => !(qtc A x.1).contains y.1).map (·.2)) x.2.rc).isSome = true
 | [], _, _, m, x, t, h => by cases m <;> cases h
 | z :: r, l, h, [], x, t, e => by
  simp only [List.nil_append, List.cons.injEq] at e
  obtain ⟨rfl, rfl⟩ := e
  simp only [Aw.chk, Bool.and_eq_true] at h
  rw [List.append_nil]
  refine ⟨fun e he => ?_, h.1.2⟩
  have := List.all_eq_true.1 h.1.1 e he
  simpa using this
 | z :: r, l, h, y :: m, x, t, e => by
  simp only [List.cons_append, List.cons.injEq] at e
  obtain ⟨rfl, rfl⟩ := e
  simp only [Aw.chk, Bool.and_eq_true] at h
  have := qmh (m ++ x :: t) (l ++ [z]) h.2 m x t rfl
  simpa using this
def unl (listed : Array Bool) (x : Ent) : Bool := !(listed.getD x.1 true)
section
variable {P : Program} {H : Hint} {X0 : Cx} {T0 : Tab} {w0 : World} {ops : Array Oper} {Q : Exit -> Act -> World -> Prop}
theorem qr2 {listed : Array Bool} {n : Nat} (hs : listed.size = n) {j : Nat} (hj : j < n) : listed.getD j true = listed.getD j false := by
 have : j < listed.size := by omega
 simp [this]
theorem qzh {n : Nat} {A : List (Nat × List Nat)} {C : List Ent} (hC : DrawOk P H n ops A C) {K : Env -> Loc -> Tab -> Prop} (hK : z3y K) (hQ : z4v X0 T0 w0 n K Q) :
  ∀ (fuel : Nat) (listed : Array Bool), listed.size = ops.size -> (∀ x ∈ C, listed.getD x.1 false = true -> ∀ y ∈ qtc A x.1, listed.getD y false = true) ->
   (C.filter (unl listed)).length = fuel -> ∀ {a w}, Nx X0 T0 w0 n (qwv P ((C.filter (unl listed)).map (·.2)) K) a w -> wpAny P .any ops Q fuel listed a w := by
 have hlt : ∀ x ∈ C, x.1 < ops.size := fun x hx => by
  obtain ⟨o, ho, _⟩ := hC.ok x hx
  exact (Array.getElem?_eq_some_iff.1 ho).1
 have hanc : ∀ (listed : Array Bool), (∀ x ∈ C, listed.getD x.1 false = true -> ∀ y ∈ qtc A x.1, listed.getD y false = true) -> ∀ x ∈ C, (∀ e ∈ qhm ops x.1, listed.getD e false = true) ->
   ∀ y ∈ qtc A x.1, listed.getD y false = true := by
  intro listed hdn x hx hes y hy
  have h1 := List.all_eq_true.1 hC.anc x hx
  have h2 := List.all_eq_true.1 h1 y hy
  obtain ⟨e, he, h3⟩ := List.any_eq_true.1 h2
  have hl := hes e he
  simp only [Bool.or_eq_true, beq_iff_eq] at h3
  rcases h3 with rfl | h3
  ·exact hl
  ·have helt : e < ops.size := by
    obtain ⟨m, t, rfl⟩ := List.append_of_mem hx
    have := (qmh _ [] hC.chk m x t rfl).1 e he
    simp only [List.nil_append, List.mem_map] at this
    obtain ⟨z, hz, rfl⟩ := this
    exact hlt z (List.mem_append_left _ hz)
   obtain ⟨s, hs⟩ := hC.all e helt
   exact hdn (e, s) hs hl y (by simpa using h3)
 have hedges : ∀ {i : Nat} {o : Oper} {listed : Array Bool}, ops[i]? = some o -> ((∀ e ∈ o.after, Region.binds .any e = true -> listed.getD e.on false = true) ↔ ∀ e ∈ qhm ops i, listed.getD e false = true) := by
  intro i o listed ho
  simp only [qhm, ho, List.mem_map, List.mem_filter]
  constructor
  ·rintro h e ⟨e', ⟨h1, h2⟩, rfl⟩
   exact h e' (by simpa using h1) h2
  ·intro h e he hb
   exact h e.on ⟨e, ⟨by simpa using he, hb⟩, rfl⟩
 intro fuel
 induction fuel with
 | zero =>
  intro listed hs hdn hlen a w h
  have hnil : C.filter (unl listed) = [] := List.eq_nil_of_length_eq_zero hlen
  have hr : Region.ready .any ops listed = [] := by
   cases hr : Region.ready .any ops listed with
   | nil => rfl
   | cons i r =>
    have hi := (mem_ready (md := .any) (j := i)).1 (by rw [hr]; exact List.mem_cons_self ..)
    obtain ⟨h0, o, ho, _⟩ := hi
    obtain ⟨s, hs'⟩ := hC.all i (Array.getElem?_eq_some_iff.1 ho).1
    have : (i, s) ∈ C.filter (unl listed) := List.mem_filter.2 ⟨hs', by simp only [unl]; rw [h0]; rfl⟩
    rw [hnil] at this
    cases this
  rw [hnil] at h
  exact ⟨hr, hQ a w h⟩
 | succ fuel ih =>
  intro listed hs hdn hlen a w h
  refine ⟨fun hr => ?_, fun i hi => ?_⟩
  ·-- the first that is left is ready
   exfalso
   cases hf : C.filter (unl listed) with
   | nil => rw [hf] at hlen; cases hlen
   | cons x C' =>
    obtain ⟨l1, l2, rfl, hl1, hx, _⟩ := List.filter_eq_cons_iff.1 hf
    obtain ⟨o, ho, _⟩ := hC.ok x (List.mem_append_right _ (List.mem_cons_self ..))
    have hes : ∀ e ∈ qhm ops x.1, listed.getD e false = true := fun e he => by
     have := (qmh _ [] hC.chk l1 x l2 rfl).1 e he
     simp only [List.nil_append, List.mem_map] at this
     obtain ⟨z, hz, rfl⟩ := this
     have hz1 := hl1 z hz
     have hzl := hlt z (List.mem_append_left _ hz)
     simp only [unl, Bool.not_eq_true, Bool.not_eq_false'] at hz1
     rw [<- qr2 hs hzl]
     exact hz1
    have hm : x.1 ∈ Region.ready .any ops listed := mem_ready.2 ⟨by simpa [unl] using hx, o, ho, (hedges ho).2 hes⟩
    rw [hr] at hm
    cases hm
  ·obtain ⟨h0, o, ho, hall⟩ := mem_ready.1 hi
   have hilt := (Array.getElem?_eq_some_iff.1 ho).1
   obtain ⟨s, hsC⟩ := hC.all i hilt
   have hes := (hedges ho).1 hall
   have hanc' := hanc listed hdn (i, s) hsC hes
   obtain ⟨l1, l2, hsplit⟩ := List.append_of_mem hsC
   have hnd := hC.nodup
   rw [hsplit, List.map_append, List.map_cons] at hnd
   have hnd1 : ∀ y ∈ l1, y.1 ≠ i := fun y hy e => by
    have := (List.nodup_append.1 hnd).2.2 y.1 (List.mem_map_of_mem hy) i (List.mem_cons_self ..)
    exact this e
   have hnd2 : ∀ y ∈ l2, y.1 ≠ i := fun y hy e => by
    have h1 := (List.nodup_cons.1 (List.nodup_append.1 hnd).2.1).1
    have h2 : y.1 ∈ l2.map (·.1) := List.mem_map_of_mem hy
    rw [e] at h2
    exact h1 h2
   have hxu : unl listed (i, s) = true := by simp only [unl]; rw [h0]; rfl
   have hset : ∀ y : Ent, y.1 ≠ i -> unl (listed.setIfInBounds i true) y = unl listed y := fun y hy => by
    simp only [unl]; rw [getD_set_ne true (Ne.symm hy)]
   have hseti : unl (listed.setIfInBounds i true) (i, s) = false := by
    have : i < listed.size := by omega
    simp [unl, this]
   have hC1 : C.filter (unl listed) = l1.filter (unl listed) ++ (i, s) :: l2.filter (unl listed) := by
    rw [hsplit, List.filter_append, List.filter_cons_of_pos hxu]
   have hC2 : C.filter (unl (listed.setIfInBounds i true)) = l1.filter (unl listed) ++ l2.filter (unl listed) := by
    rw [hsplit, List.filter_append, List.filter_cons_of_neg (by rw [hseti]; decide)]
    congr 1
    ·exact List.filter_congr fun y hy => hset y (hnd1 y hy)
    ·exact List.filter_congr fun y hy => hset y (hnd2 y hy)
   obtain ⟨hce, hcm⟩ := qmh _ [] hC.chk l1 (i, s) l2 hsplit
   simp only [List.nil_append] at hcm
   obtain ⟨r, hr⟩ := Option.isSome_iff_exists.1 hcm
   have hsub : ((l1.filter (unl listed)).map (·.2)).Sublist ((l1.filter fun y => !(qtc A i).contains y.1).map (·.2)) := by
    refine List.Sublist.map _ ?_
    have : l1.filter (unl listed) = (l1.filter fun y => !(qtc A i).contains y.1).filter (unl listed) := by
     rw [List.filter_filter]
     refine List.filter_congr fun y hy => ?_
     cases hu : unl listed y with
     | false => simp
     | true =>
      have : y.1 ∉ qtc A i := fun hm => by
       have hl := hanc' y.1 hm
       have hyl := hlt y (by rw [hsplit]; exact List.mem_append_left _ hy)
       simp only [unl, Bool.not_eq_true'] at hu
       rw [qr2 hs hyl, hl] at hu
       cases hu
      simp [this]
    rw [this]
    exact List.filter_sublist
   obtain ⟨r', hr', _⟩ := qhl hsub hr
   obtain ⟨_, hmove⟩ := qu1 (P := P) (C := C.map (·.2)) (x := s) hK ((l2.filter (unl listed)).map (·.2)) (hC.rc (i, s) hsC) ((l1.filter (unl listed)).map (·.2))
    (fun y hy => by
     obtain ⟨z, hz, rfl⟩ := List.mem_map.1 hy
     exact List.mem_map_of_mem (by rw [hsplit]; exact List.mem_append_left _ (List.mem_filter.1 hz).1)) hC.dsts hr'
   obtain ⟨X, lam, env, L, T, hk, hsr, hn⟩ := h
   rw [hC1, List.map_append, List.map_cons] at hk
   have hk2 := hmove hk
   obtain ⟨o', ho', hok⟩ := hC.ok (i, s) hsC
   simp only at ho'
   rw [ho] at ho'
   injection ho' with ho'
   subst ho'
   have hok' : OkOp P H n ops o { s with rc := r' } := ⟨hok.op, hok.dst, hok.lt, hok.gd⟩
   refine wpOp_mono (fun a' w' h' => ?_) (qr1 ho hok' hsr hn hk2)
   refine ih (listed.setIfInBounds i true) (by simp [hs]) (fun x hx hl y hy => ?_) ?_ (by rw [hC2, List.map_append]; exact h')
   ·by_cases e : x.1 = i
    ·exact getD_set_true (hanc' y (by rw [<- e]; exact hy))
    ·rw [getD_set_ne false (Ne.symm e)] at hl
     exact getD_set_true (hdn x hx hl y hy)
   ·rw [hC2]
    rw [hC1] at hlen
    simp at hlen ⊢
    omega
theorem qr3 {n : Nat} {A : List (Nat × List Nat)} {C : List Ent} (hC : DrawOk P H n ops A C) (hm : P.follows .mixedOrders = true) {K : Env -> Loc -> Tab -> Prop} (hK : z3y K) (hQ : z4v X0 T0 w0 n K Q) {id : Nat} {a : Act} {w : World}
  (h : Nx X0 T0 w0 n (qwv P (C.map (·.2)) K) a w) : (Code.region id ops true).wp P Q a w := by
 have hall : C.filter (unl (Array.replicate ops.size false)) = C := by
  refine List.filter_eq_self.2 fun x hx => ?_
  obtain ⟨o, ho, _⟩ := hC.ok x hx
  have := (Array.getElem?_eq_some_iff.1 ho).1
  simp [unl, this]
 have hlen : C.length = ops.size := by
  have h1 : (C.map (·.1)).length = ops.size := by
   have hp : (C.map (·.1)).Perm (List.range ops.size) := by
    refine (List.perm_ext_iff_of_nodup hC.nodup List.nodup_range).2 fun i => ?_
    rw [List.mem_range, List.mem_map]
    constructor
    ·rintro ⟨x, hx, rfl⟩
     obtain ⟨o, ho, _⟩ := hC.ok x hx
     exact (Array.getElem?_eq_some_iff.1 ho).1
    ·intro hi
     obtain ⟨s, hs⟩ := hC.all i hi
     exact ⟨_, hs, rfl⟩
   rw [hp.length_eq, List.length_range]
  simpa using h1
 refine wp_region_any hm ?_
 obtain ⟨X, lam, env, L, T, hk, hsr, hn⟩ := h
 have hsr' : SR X0 T0 w0 X lam env L T a { w with drawn := w.drawn + 1 } := hsr.grow (qoy w none)
 refine qzh hC hK hQ ops.size _ (by simp) (fun x hx hl => ?_) (by rw [hall, hlen]) (by rw [hall]; exact ⟨X, lam, env, L, T, hk, hsr', hn⟩)
 exfalso
 by_cases hj : x.1 < ops.size
 ·simp [hj] at hl
 ·simp [hj] at hl
end
end Go.Aw
namespace Go.Aw
open Go
set_option linter.all false
variable [Glob]
def z1m (T : Tab) (S : List Nat) (s' s : Slot) : Prop := s' = s \/ ∃ z c c', s = .row z c /\ s' = .row z c' /\ c'.length = c.length /\ ∀ X w us, vrs X w (c.map (qhg T S)) us -> vrs X w c' us
theorem z4z (T : Tab) (id : Nat) : ∀ S : List Nat, qm9 T S id = T id \/ qm9 T S id = .unused
 | [] => .inl rfl
 | j :: S => by
  simp only [qm9]
  by_cases h : id = j
  ·subst h; exact .inr (Tab.put_same ..)
  ·rw [Tab.put_ne _ _ h]; exact z4z T id S
theorem SR.frT {X0 : Cx} {T0 : Tab} {w0 : World} {X : Cx} {lam : Nat -> Nat} {env : Env} {L : Loc} {T T' : Tab} {a : Act} {w : World}
  (h : SR X0 T0 w0 X lam env L T a w) (S : List Nat) (h1 : S.Nodup) (h2 : ∀ id ∈ S, T id ≠ .unused) (h3 : ∀ j, z1m T S (T' j) (qm9 T S j)) : SR X0 T0 w0 (X.addFzs S) lam env L T' a w := by
 have h4 := h.freezes S h1 h2
 have hu : ∀ id, T' id = .unused ↔ qm9 T S id = .unused := fun id => by
  rcases h3 id with e | ⟨z, c, c', e1, e2, _⟩
  ·rw [e]
  ·rw [e1, e2]; constructor <;> intro h <;> cases h
 have hlive : ∀ b, qm5 (X.addFzs S) T' b -> qm5 (X.addFzs S) (qm9 T S) b := fun b ⟨id, hid, e⟩ => ⟨id, fun k => hid ((hu id).2 k), e⟩
 refine ⟨⟨fun id hid => (hu id).2 (h4.rel.fresh id hid), h4.rel.fzlt, fun id esz cells hT => ?_, fun id es hT => ?_, fun id hid => h4.rel.live_fz id (fun k => hid ((hu id).2 k)),
  fun id id' a1 a2 => h4.rel.live_inj id id' (fun k => a1 ((hu id).2 k)) (fun k => a2 ((hu id').2 k)), h4.rel.loc, h4.rel.loc_fz, h4.rel.loc_inj, fun l c hc hl => h4.rel.loc_live l c hc (hlive _ hl), h4.rel.glob⟩,
  ⟨h4.step.le, h4.step.os, h4.step.tape, h4.step.output, h4.step.size, h4.step.kept, h4.step.fznew, fun b hb hl => h4.step.livenew b hb (hlive b hl), fun id hid hT => (hu id).2 (h4.step.idnew id hid hT)⟩, h4.locnew, h4.env, h4.defers⟩
 ·rcases h3 id with e | ⟨z, c, c', e1, e2, e3, e4⟩
  ·exact h4.rel.row id esz cells (e ▸ hT)
  ·rw [e2] at hT
   injection hT with q1 q2
   subst q1; subst q2
   have hk : T id = .row z c := by
    rcases z4z T id S with e | e
    ·rw [<- e, e1]
    ·rw [e] at e1; cases e1
   obtain ⟨cur, e, us, g1, g2, g3, g4, g5, g6, g7⟩ := h.rel.row id z c hk
   have hb : (X.addFzs S).β id = X.β id := by rw [Cx.addFzs_β]
   refine ⟨cur, e, us, by rw [hb]; exact g1, e4 _ _ _ (g2.map fun x v hx => qio h.rel hx), g3, by rw [hb]; exact g4, by rw [hb, e3]; exact g5, by rw [hb]; exact g6, by rw [hb]; exact g7⟩
 ·rcases h3 id with e | ⟨z, c, c', e1, e2, _⟩
  ·exact h4.rel.map id es (e ▸ hT)
  ·rw [e2] at hT; cases hT
inductive SC where
 | skip
 | ops (l : List SOp)
 | seq (a b : SC)
 | cond (c : Operand) (a b : SC)
 | block (id : Nat) (b : SC)
 | loop (b : SC)
 | exit (id : Nat)
 | ret
 | keep (ts ls : List Nat)
 | gfz
 deriving Inhabited
def frX (T : Tab) (S : List Nat) : AV -> AV
 | .lp l o => .lp l o
 | x => qo7 T S x
def frE (T : Tab) (S : List Nat) : Env -> Env
 | [] => []
 | (k, x) :: e => (k, frX T S x) :: frE T S e
theorem qqg (T : Tab) (S : List Nat) (s : Nat) : ∀ e : Env, q2d (frE T S e) s = (q2d e s).map (frX T S)
 | [] => rfl
 | (k, x) :: e => by
  simp only [frE, q2d, qqg T S s e]
  split <;> rfl
def qhn {α : Type} : List Nat -> List (Nat × α) -> List (Nat × α)
 | [], _ => []
 | t :: ts, e => match q2d e t with
  | some x => (t, x) :: qhn ts e
  | none => qhn ts e
theorem qv1 {α : Type} {e e' : List (Nat × α)} (h : ∀ s, q2d e s = q2d e' s) : ∀ ts, qhn ts e = qhn ts e'
 | [] => rfl
 | t :: ts => by simp only [qhn, h t, qv1 h ts]
theorem qiu {α : Type} {e : List (Nat × α)} {s : Nat} {x : α} : ∀ {ts : List Nat}, q2d (qhn ts e) s = some x -> q2d e s = some x
 | [], h => by simp [qhn, q2d] at h
 | t :: ts, h => by
  simp only [qhn] at h
  split at h
  ·rename_i y hy
   simp only [q2d] at h
   split at h
   ·rename_i e1; subst e1; injection h with h; subst h; exact hy
   ·exact qiu h
  ·exact qiu h
inductive XE where
 | normal
 | exit (id : Nat)
 | ret
 deriving DecidableEq
abbrev Z1 := XE -> Env -> Loc -> Tab -> Prop
def qe7 (K : Env -> Loc -> Tab -> Prop) (R : Z1) : Z1
 | .normal => K
 | .exit id => R (.exit id)
 | .ret => R .ret
def z3z (id : Nat) (R : Z1) : Z1
 | .normal => R .normal
 | .exit id' => if id' = id then R .normal else R (.exit id')
 | .ret => R .ret
def AW (P : Program) : SC -> Z1 -> Env -> Loc -> Tab -> Prop
 | .skip, R => R .normal
 | .ops l, R => qwv P l (R .normal)
 | .seq a b, R => AW P a (qe7 (AW P b R) R)
 | .cond c a b, R => fun e L T => match q02 e c with
  | some (.b x) => if x = true then AW P a R e L T else AW P b R e L T
  | _ => False
 | .block id c, R => AW P c (z3z id R)
 | .loop c, R => fun e L T => ∀ I : Env -> Loc -> Tab -> Prop, (∀ e L T, AW P c (qe7 I R) e L T -> I e L T) -> I e L T
 | .exit id, R => R (.exit id)
 | .ret, R => R .ret
 | .keep ts ls, R => fun e L T => R .normal (qhn ts e) (qhn ls L) T
 | .gfz, R => fun e L T => ∃ (S : List Nat) (T' : Tab), S.Nodup /\ (∀ id ∈ S, T id ≠ .unused) /\ (∀ j, z1m T S (T' j) (qm9 T S j)) /\ R .normal (frE T S e) L T'
def zbe (R R' : Z1) : Prop := ∀ x e e' L L' T, EqE e e' -> EqL L L' -> R x e L T -> R' x e' L' T
def ExtR (R : Z1) : Prop := zbe R R
theorem ExtR.k {R : Z1} (h : ExtR R) (x : XE) : z3y (R x) := fun e e' L L' T he hl hk => h x e e' L L' T he hl hk
theorem qho {P : Program} : ∀ (c : SC) {R R' : Z1}, zbe R R' -> ∀ {e e' : Env} {L L' : Loc} {T : Tab}, EqE e e' -> EqL L L' -> AW P c R e L T -> AW P c R' e' L' T
 | .skip, _, _, hR, _, _, _, _, _, he, hl, h => hR _ _ _ _ _ _ he hl h
 | .ops l, R, R', hR, _, _, _, _, _, he, hl, h => ops hR l he hl h
 | .seq a b, R, R', hR, _, _, _, _, _, he, hl, h => qho a (R := qe7 (AW P b R) R) (R' := qe7 (AW P b R') R') (fun x e e' L L' T he hl h => by
   cases x with
   | normal => exact qho b hR he hl h
   | exit id => exact hR _ _ _ _ _ _ he hl h
   | ret => exact hR _ _ _ _ _ _ he hl h) he hl h
 | .cond c a b, R, R', hR, e, e', _, _, _, he, hl, h => by
  simp only [AW] at h ⊢
  rw [q2e (he.ag _)] at h
  split at h
  ·split at h
   ·rename_i hx; simp only [hx, if_true]; exact qho a hR he hl h
   ·rename_i hx; simp only [hx]; exact qho b hR he hl h
  ·exact h.elim
 | .block id c, R, R', hR, _, _, _, _, _, he, hl, h => qho c (R := z3z id R) (R' := z3z id R') (fun x e e' L L' T he hl h => by
   cases x with
   | normal => exact hR _ _ _ _ _ _ he hl h
   | exit id' =>
    simp only [z3z] at h ⊢
    split at h
    ·rename_i hx; rw [if_pos hx]; exact hR _ _ _ _ _ _ he hl h
    ·rename_i hx; rw [if_neg hx]; exact hR _ _ _ _ _ _ he hl h
   | ret => exact hR _ _ _ _ _ _ he hl h) he hl h
 | .loop c, R, R', hR, e, e', L, L', T, he, hl, h => by
  intro I hI
  refine h (fun e L T => ∀ e' L', EqE e e' -> EqL L L' -> I e' L' T) (fun e1 L1 T1 h1 e2 L2 he2 hl2 => hI _ _ _ ?_) e' L' he hl
  refine qho c (R := qe7 _ R) (R' := qe7 I R') (fun x e e' L L' T he hl h => ?_) he2 hl2 h1
  cases x with
  | normal => exact h e' L' he hl
  | exit id => exact hR _ _ _ _ _ _ he hl h
  | ret => exact hR _ _ _ _ _ _ he hl h
 | .exit id, _, _, hR, _, _, _, _, _, he, hl, h => hR _ _ _ _ _ _ he hl h
 | .ret, _, _, hR, _, _, _, _, _, he, hl, h => hR _ _ _ _ _ _ he hl h
 | .keep ts ls, _, _, hR, _, _, _, _, _, he, hl, h => by
  simp only [AW] at h ⊢
  rw [<- qv1 he ts, <- qv1 hl ls]
  exact hR _ _ _ _ _ _ (fun _ => rfl) (fun _ => rfl) h
 | .gfz, _, _, hR, _, _, _, _, _, he, hl, h => by
  obtain ⟨S, m, h1, h2, h2', h3⟩ := h
  exact ⟨S, m, h1, h2, h2', hR _ _ _ _ _ _ (fun s => by rw [qqg, qqg, he s]) hl h3⟩
where
 ops {R R' : Z1} (hR : zbe R R') : ∀ (l : List SOp) {e e' : Env} {L L' : Loc} {T : Tab}, EqE e e' -> EqL L L' -> qwv P l (R .normal) e L T -> qwv P l (R' .normal) e' L' T
  | [], _, _, _, _, _, he, hl, h => hR _ _ _ _ _ _ he hl h
  | _ :: l, _, _, _, _, _, he, hl, h => qir he hl (fun _ _ _ _ _ h1 h2 h3 => ops hR l h1 h2 h3) h
theorem Q3 {P : Program} (c : SC) {R : Z1} (hR : ExtR R) : z3y (AW P c R) := fun _ _ _ _ _ he hl h => qho c hR he hl h
theorem EqE.refl (e : Env) : EqE e e := fun _ => rfl
theorem EqL.refl (L : Loc) : EqL L L := fun _ => rfl
theorem Q5 {P : Program} {c : SC} {R : Z1} {e : Env} {L : Loc} {T : Tab} (hR : ExtR R) (h : AW P c (qe7 (AW P (.loop c) R) R) e L T) : AW P (.loop c) R e L T := by
 intro I hI
 refine hI _ _ _ (qho c (R := qe7 (AW P (.loop c) R) R) (R' := qe7 I R) (fun x e e' L L' T he hl h => ?_) (EqE.refl e) (EqL.refl L) h)
 cases x with
 | normal =>
  have h' := Q3 (.loop c) hR e e' L L' T he hl h
  exact h' I hI
 | exit id => exact hR _ _ _ _ _ _ he hl h
 | ret => exact hR _ _ _ _ _ _ he hl h
theorem K9 {K : Env -> Loc -> Tab -> Prop} {R : Z1} (hK : z3y K) (hR : ExtR R) : ExtR (qe7 K R) := fun x e e' L L' T he hl h => by
 cases x with
 | normal => exact hK _ _ _ _ _ he hl h
 | exit id => exact hR _ _ _ _ _ _ he hl h
 | ret => exact hR _ _ _ _ _ _ he hl h
theorem N1 {id : Nat} {R : Z1} (hR : ExtR R) : ExtR (z3z id R) := fun x e e' L L' T he hl h => by
 cases x with
 | normal => exact hR _ _ _ _ _ _ he hl h
 | exit id' =>
  simp only [z3z] at h ⊢
  split at h
  ·rename_i hx; rw [if_pos hx]; exact hR _ _ _ _ _ _ he hl h
  ·rename_i hx; rw [if_neg hx]; exact hR _ _ _ _ _ _ he hl h
 | ret => exact hR _ _ _ _ _ _ he hl h
def zbf (d : Option Nat) (n : Nat) : Bool := match d with | some k => decide (k < n) | none => true
theorem z2v {d : Option Nat} {n k : Nat} (h : zbf d n = true) (hk : d = some k) : k < n := by
 subst hk; simpa [zbf] using h
def qzi (P : Program) (H : Hint) (n : Nat) (ops : Array Oper) (i : Nat) : Option SOp :=
 (ops[i]?).bind fun o => (ze3 P H o).bind fun s =>
  if zbf o.dst n = true then
   match o.guard with
   | none => some ⟨o.dst, s, none, []⟩
   | some (j, want) => ((ops[j]?).bind (·.dst)).map fun k => ⟨o.dst, s, some (k, want), []⟩
  else none
def qu2 (P : Program) (H : Hint) (n : Nat) (ops : Array Oper) : List Nat -> Option (List SOp)
 | [] => some []
 | i :: l => (qzi P H n ops i).bind fun s => (qu2 P H n ops l).map (s :: ·)
def ze4 (P : Program) (H : Hint) (n : Nat) (ops : Array Oper) : List Nat -> Option RC
 | [] => some []
 | j :: l => (qzi P H n ops j).bind fun z => z.dst.bind fun k => (ze4 P H n ops l).map ((k, z.op, z.gd) :: ·)
def qx1 (P : Program) (H : Hint) (n : Nat) (ops : Array Oper) : List (Nat × List Nat) -> Option (List Ent)
 | [] => some []
 | (i, js) :: l => (qzi P H n ops i).bind fun s => (ze4 P H n ops js).bind fun rc => (qx1 P H n ops l).map ((i, { s with rc := rc }) :: ·)
def z81 (P : Program) (H : Hint) (n : Nat) (ops : Array Oper) (ord : List (Nat × List Nat)) : Option SC :=
 (qx1 P H n ops ord).bind fun C =>
  let A := zlw ops C []
  if (ord.length == ops.size && qx0 (ord.map (·.1)) && (List.range ops.size).all (fun i => (ord.map (·.1)).contains i) && ord.all (fun p => p.2.all fun j => decide (j < ops.size)) &&
      zeb ops A C && chk ops A [] C && qx0 (C.filterMap fun x => x.2.dst)) = true then some (.ops (C.map (·.2))) else none
def qku : Code -> Nat
 | .region id _ _ => id
 | .seq a b => match qku a with
  | 0 => qku b
  | k => k
 | .cond _ a b => match qku a with
  | 0 => qku b
  | k => k
 | .block _ b | .loop b => qku b
 | _ => 0
def z82 (o : Option (List Nat × List Nat)) (s : SC) : SC :=
 match o with
 | none => s
 | some (ts, ls) => .seq s (.keep ts ls)
def zbg (o : Option (List Nat × List Nat)) (s : SC) : SC :=
 match o with
 | none => .loop s
 | some (ts, ls) => .seq (.keep ts ls) (.loop (.seq s (.keep ts ls)))
def zic (b : Bool) (s : SC) : SC := if b then .seq .gfz s else s
def tr (P : Program) (H : Hint) (n : Nat) : Code -> Option SC
 | .skip => some .skip
 | .region id ops draw => ((if draw then (q2d H.ord id).bind (z81 P H n ops) else (qu2 P H n ops (List.range ops.size)).map .ops).map (z82 (q2d H.keep id))).map (zic (H.gfz.contains id))
 | .seq a b => (tr P H n a).bind fun x => (tr P H n b).map fun y => .seq x y
 | .cond c a b => (tr P H n a).bind fun x => (tr P H n b).map fun y => .cond c x y
 | .block id b => (tr P H n b).map (.block id)
 | .loop b => (tr P H n b).map (zbg (q2d H.lkeep (qku b)))
 | .exit id => some (.exit id)
 | .ret => some .ret
 | _ => none
section
variable {P : Program} {H : Hint} {X0 : Cx} {T0 : Tab} {w0 : World} {X : Cx} {lam : Nat -> Nat} {env : Env} {L : Loc} {T : Tab} {a : Act} {w : World} {ops : Array Oper}
theorem qu3 {n i : Nat} {s : SOp} (h : qzi P H n ops i = some s) : s.rc = [] /\ ∃ o, ops[i]? = some o /\ OkOp P H n ops o s := by
 unfold qzi at h
 obtain ⟨o, ho, h⟩ := K1 h
 obtain ⟨q, hq, h⟩ := K1 h
 split at h
 ·rename_i hd
  have hlt : ∀ k, o.dst = some k -> k < n := fun k hk => z2v hd hk
  split at h
  ·rename_i hg
   injection h with h; subst h
   exact ⟨rfl, o, ho, hq, rfl, hlt, by rw [hg]⟩
  ·rename_i j want hg
   obtain ⟨k, hk, rfl⟩ := Q0 h
   exact ⟨rfl, o, ho, hq, rfl, hlt, by rw [hg]; exact ⟨k, hk, rfl⟩⟩
 ·cases h
theorem qr4 {n : Nat} : ∀ {is : List Nat} {ss : List SOp}, qu2 P H n ops is = some ss -> OkL P H n ops is ss
 | [], ss, h => by simp only [qu2] at h; injection h with h; subst h; trivial
 | i :: is, ss, h => by
  simp only [qu2] at h
  obtain ⟨s, hs, h⟩ := K1 h
  obtain ⟨r, hr, rfl⟩ := Q0 h
  exact ⟨(qu3 hs).2, qr4 hr⟩
theorem qx2 {n : Nat} : ∀ {js : List Nat} {rc : RC}, ze4 P H n ops js = some rc -> ∀ p ∈ rc, ∃ j ∈ js, ∃ z, qzi P H n ops j = some z /\ z.dst = some p.1 /\ p.2 = (z.op, z.gd)
 | [], rc, h, p, hp => by simp only [ze4] at h; injection h with h; subst h; cases hp
 | j :: js, rc, h, p, hp => by
  simp only [ze4] at h
  obtain ⟨z, hz, h⟩ := K1 h
  obtain ⟨k, hk, h⟩ := K1 h
  obtain ⟨r, hr, rfl⟩ := Q0 h
  rcases List.mem_cons.1 hp with rfl | hp
  ·exact ⟨j, List.mem_cons_self .., z, hz, hk, rfl⟩
  ·obtain ⟨j', hj', q⟩ := qx2 hr p hp
   exact ⟨j', List.mem_cons_of_mem _ hj', q⟩
theorem qr5 {n : Nat} : ∀ {ord : List (Nat × List Nat)} {C : List Ent}, qx1 P H n ops ord = some C -> C.map (·.1) = ord.map (·.1) /\
  ∀ x ∈ C, ∃ s, qzi P H n ops x.1 = some s /\ x.2.op = s.op /\ x.2.dst = s.dst /\ x.2.gd = s.gd /\ ∃ js, (x.1, js) ∈ ord /\ ze4 P H n ops js = some x.2.rc
 | [], C, h => by simp only [qx1] at h; injection h with h; subst h; exact ⟨rfl, fun x hx => by cases hx⟩
 | (i, js) :: ord, C, h => by
  simp only [qx1] at h
  obtain ⟨s, hs, h⟩ := K1 h
  obtain ⟨rc, hrc, h⟩ := K1 h
  obtain ⟨r, hr, rfl⟩ := Q0 h
  obtain ⟨h1, h2⟩ := qr5 hr
  refine ⟨by simp [h1], fun x hx => ?_⟩
  rcases List.mem_cons.1 hx with rfl | hx
  ·exact ⟨s, hs, rfl, rfl, rfl, js, List.mem_cons_self .., hrc⟩
  ·obtain ⟨s', q1, q2, q3, q4, js', q5, q6⟩ := h2 x hx
   exact ⟨s', q1, q2, q3, q4, js', List.mem_cons_of_mem _ q5, q6⟩
theorem qmi {C : List Ent} (h : (C.filterMap fun x => x.2.dst).Nodup) : ∀ x ∈ C, ∀ y ∈ C, x.2.dst ≠ none -> x.2.dst = y.2.dst -> x.2 = y.2 := by
 induction C with
 | nil => intro x hx; cases hx
 | cons q C ih =>
  have hmem : ∀ y ∈ C, ∀ k, y.2.dst = some k -> k ∈ C.filterMap fun x => x.2.dst := fun y hy k hk => List.mem_filterMap.2 ⟨y, hy, hk⟩
  intro x hx y hy hne he
  cases hz : q.2.dst with
  | none =>
   rw [List.filterMap_cons_none (by rw [hz])] at h
   rcases List.mem_cons.1 hx with e1 | hx
   ·rw [e1] at hne; exact absurd hz hne
   ·rcases List.mem_cons.1 hy with e2 | hy
    ·rw [e2, hz] at he; exact absurd he hne
    ·exact ih h x hx y hy hne he
  | some k =>
   rw [List.filterMap_cons_some (by rw [hz])] at h
   have hnd := List.nodup_cons.1 h
   rcases List.mem_cons.1 hx with e1 | hx
   ·rcases List.mem_cons.1 hy with e2 | hy
    ·rw [e1, e2]
    ·rw [e1, hz] at he
     exact absurd (hmem y hy k he.symm) hnd.1
   ·rcases List.mem_cons.1 hy with e2 | hy
    ·rw [e2, hz] at he
     exact absurd (hmem x hx k he) hnd.1
    ·exact ih hnd.2 x hx y hy hne he
theorem z2w {n : Nat} {ord : List (Nat × List Nat)} {sc : SC} (h : z81 P H n ops ord = some sc) : ∃ A C, sc = .ops (C.map (·.2)) /\ DrawOk P H n ops A C := by
 unfold z81 at h
 obtain ⟨C, hC, h⟩ := K1 h
 simp only at h
 split at h
 ·rename_i hc
  injection h with h; subst h
  simp only [Bool.and_eq_true] at hc
  obtain ⟨⟨⟨⟨⟨⟨c1, c2⟩, c3⟩, c4⟩, c5⟩, c6⟩, c7⟩ := hc
  obtain ⟨h1, h2⟩ := qr5 hC
  have hall : ∀ i, i < ops.size -> ∃ s, (i, s) ∈ C := fun i hi => by
   have := List.all_eq_true.1 c3 i (List.mem_range.2 hi)
   have : i ∈ C.map (·.1) := by rw [h1]; simpa using this
   obtain ⟨x, hx, rfl⟩ := List.mem_map.1 this
   exact ⟨x.2, hx⟩
  have hds := qmi (qkt c7)
  refine ⟨_, C, rfl, ⟨fun x hx => ?_, by rw [h1]; exact qkt c2, hall, c5, c6, fun x hx p hp => ?_, fun y hy z hz hne he => ?_⟩⟩
  ·obtain ⟨s, hs, e1, e2, e3, _⟩ := h2 x hx
   obtain ⟨_, o, ho, hok⟩ := qu3 hs
   refine ⟨o, ho, by rw [e1]; exact hok.op, by rw [e2]; exact hok.dst, hok.lt, ?_⟩
   have := hok.gd
   rw [e3]
   exact this
  ·obtain ⟨s, hs, e1, e2, e3, js, hjs, hrc⟩ := h2 x hx
   obtain ⟨j, hj, z, hz, hz1, hz2⟩ := qx2 hrc p hp
   have hjlt : j < ops.size := by
    have := List.all_eq_true.1 (List.all_eq_true.1 c4 _ hjs) j hj
    simpa using this
   obtain ⟨s', hs'⟩ := hall j hjlt
   obtain ⟨s2, hs2, e4, e5, e6, _⟩ := h2 _ hs'
   simp only at hs2 e4 e5 e6
   rw [hz] at hs2
   injection hs2 with hs2
   subst hs2
   exact ⟨s', List.mem_map_of_mem hs', by rw [e5, hz1], by rw [hz2, e4, e6]⟩
  ·obtain ⟨y', hy', rfl⟩ := List.mem_map.1 hy
   obtain ⟨z', hz', rfl⟩ := List.mem_map.1 hz
   have := hds z' hz' y' hy' hne he
   rw [this]; exact ⟨rfl, rfl⟩
 ·cases h
def z7r (X0 : Cx) (T0 : Tab) (w0 : World) (n : Nat) (R : Z1) : Exit -> Act -> World -> Prop
 | .normal, a, w => Nx X0 T0 w0 n (R .normal) a w
 | .exit id, a, w => Nx X0 T0 w0 n (R (.exit id)) a w
 | .ret, a, w => Nx X0 T0 w0 n (R .ret) a w
 | _, _, _ => False
theorem SR.eqE (h : SR X0 T0 w0 X lam env L T a w) {env' : Env} {L' : Loc} (he : EqE env env') (hl : EqL L L') : SR X0 T0 w0 X lam env' L' T a w :=
 h.weaken (fun s x hx => by rw [he s]; exact hx) (fun l c hc => by rw [hl l]; exact hc)
theorem Nx.elim {n : Nat} {K : Env -> Loc -> Tab -> Prop} (h : Nx X0 T0 w0 n K a w) : ∃ X lam env L T, K env L T /\ SR X0 T0 w0 X lam env L T a w /\ a.tmps.size = n := h
theorem Nx.keep {n : Nat} {K : Env -> Loc -> Tab -> Prop} {ts ls : List Nat} {a : Act} {w : World} (h : Nx X0 T0 w0 n (fun e L T => K (qhn ts e) (qhn ls L) T) a w) : Nx X0 T0 w0 n K a w := by
 obtain ⟨X, lam, env, L, T, hk, hsr, hn⟩ := h
 exact ⟨X, lam, _, _, T, hk, hsr.weaken (fun _ _ h => qiu h) (fun _ _ h => qiu h), hn⟩
theorem Nx.gfz {n : Nat} {K : Env -> Loc -> Tab -> Prop} {a : Act} {w : World} (h : Nx X0 T0 w0 n (fun e L T => ∃ (S : List Nat) (T' : Tab), S.Nodup /\ (∀ id ∈ S, T id ≠ .unused) /\ (∀ j, z1m T S (T' j) (qm9 T S j)) /\ K (frE T S e) L T') a w) : Nx X0 T0 w0 n K a w := by
 obtain ⟨X, lam, env, L, T, ⟨S, m, h1, h2, h2', h3⟩, hsr, hn⟩ := h
 have h4 := hsr.frT S h1 h2 h2'
 refine ⟨X.addFzs S, lam, _, _, _, h3, ⟨h4.rel, h4.step, h4.locnew, fun s x hx => ?_, h4.defers⟩, hn⟩
 rw [qqg] at hx
 cases hy : q2d env s with
 | none => rw [hy] at hx; cases hx
 | some y =>
  rw [hy] at hx
  injection hx with hx
  obtain ⟨v, hv, hr⟩ := hsr.env s y hy
  refine ⟨v, hv, ?_⟩
  subst hx
  cases y with
  | lp l o => exact hr
  | _ =>
   exact G3 (qtx hsr.rel (S := S) hr)
theorem qmj {n : Nat} {R : Z1} {ts ls : List Nat} {e : Exit} {a : Act} {w : World} (h : z7r X0 T0 w0 n (qe7 (AW P (.keep ts ls) R) R) e a w) : z7r X0 T0 w0 n R e a w := by
 cases e <;> first
  | exact h
  | exact Nx.keep h
theorem qu4 {c : Code} {sc : SC} {n : Nat} (hc : ∀ {R : Z1}, ExtR R -> ∀ {a w}, Nx X0 T0 w0 n (AW P sc R) a w -> c.wp P (z7r X0 T0 w0 n R) a w) {R : Z1} (hR : ExtR R) {a : Act} {w : World} (hk : Nx X0 T0 w0 n (AW P (.loop sc) R) a w) :
  (Code.loop c).wp P (z7r X0 T0 w0 n R) a w := by
 obtain ⟨X, lam, env, L, T, hk, hsr, hn⟩ := hk
 intro b k cs
 have key := hk (fun env L T => ∀ X lam a w, SR X0 T0 w0 X lam env L T a w -> a.tmps.size = n -> ∀ (b : Frame) (k : List Item) (cs : List Frame),
  ∃ e a' w', z7r X0 T0 w0 n R e a' w' /\ Arrives P (lone (b.at a (.code c :: .inLoop c :: k)) cs w) b k cs e a' w') ?_
 ·obtain ⟨e, a', w', hq, harr⟩ := key X lam a w hsr hn b k cs
  exact ⟨e, a', w', hq, .of_steps (.one step_loop) harr⟩
 ·intro env L T hI X lam a w hsr hn b k cs
  have hext : z3y (fun env L T => ∀ X lam a w, SR X0 T0 w0 X lam env L T a w -> a.tmps.size = n -> ∀ (b : Frame) (k : List Item) (cs : List Frame),
    ∃ e a' w', z7r X0 T0 w0 n R e a' w' /\ Arrives P (lone (b.at a (.code c :: .inLoop c :: k)) cs w) b k cs e a' w') :=
   fun e e' L L' T he hl hh X lam a w hs => hh X lam a w (hs.eqE (fun s => (he s).symm) (fun l => (hl l).symm))
  obtain ⟨e, a₁, w₁, hq, harr⟩ := hc (K9 hext hR) ⟨X, lam, env, L, T, hI, hsr, hn⟩ b (.inLoop c :: k) cs
  cases e with
  | normal =>
   obtain ⟨X1, lam1, env1, L1, T1, hk1, hsr1, hn1⟩ := hq
   obtain ⟨e₂, a₂, w₂, hq₂, harr₂⟩ := hk1 X1 lam1 a₁ w₁ hsr1 hn1 b k cs
   exact ⟨e₂, a₂, w₂, hq₂, .of_steps (Steps.trans harr (.one step_inLoop)) harr₂⟩
  | exit id => exact ⟨.exit id, a₁, w₁, hq, .pass (x := .inLoop c) rfl (fun _ _ => .inl (by simp)) harr⟩
  | ret => exact ⟨.ret, a₁, w₁, hq, .pass (x := .inLoop c) rfl (fun _ _ => .inl (by simp)) harr⟩
  | goto l => exact hq.elim
  | panic ch => exact hq.elim
  | outgrown => exact hq.elim
theorem z50 (hm : P.follows .mixedOrders = true) {n : Nat} {id : Nat} {ops : Array Oper} {draw : Bool} {sc' : SC}
  (h2 : (if draw then (q2d H.ord id).bind (z81 P H n ops) else (qu2 P H n ops (List.range ops.size)).map .ops) = some sc') {R : Z1} (hR : ExtR R) {a : Act} {w : World}
  (hk : Nx X0 T0 w0 n (AW P (z82 (q2d H.keep id) sc') R) a w) : (Code.region id ops draw).wp P (z7r X0 T0 w0 n R) a w := by
  have key : ∀ {R : Z1}, ExtR R -> Nx X0 T0 w0 n (AW P sc' R) a w -> (Code.region id ops draw).wp P (z7r X0 T0 w0 n R) a w := by
   intro R hR hk
   cases draw with
   | true =>
    simp only [if_true] at h2
    obtain ⟨ord, _, h2⟩ := K1 h2
    obtain ⟨A, C, rfl, hC⟩ := z2w h2
    exact qr3 hC hm (hR.k .normal) (fun a w h => h) hk
   | false =>
    simp only [Bool.false_eq_true, if_false] at h2
    obtain ⟨ss, hs, rfl⟩ := Q0 h2
    exact wp_region (z1l (fun a w h => h) _ _ (qr4 hs) hk)
  cases ho : q2d H.keep id with
  | none =>
   simp only [ho, z82] at hk
   exact key hR hk
  | some p =>
   obtain ⟨ts, ls⟩ := p
   simp only [ho, z82] at hk
   exact wp_mono (key (R := qe7 (AW P (.keep ts ls) R) R) (K9 (Q3 (.keep ts ls) hR) hR) hk) fun e a w he => qmj he
theorem qdg (hm : P.follows .mixedOrders = true) {n : Nat} : ∀ (c : Code) {sc : SC}, tr P H n c = some sc -> ∀ {R : Z1}, ExtR R -> ∀ {a w}, Nx X0 T0 w0 n (AW P sc R) a w -> c.wp P (z7r X0 T0 w0 n R) a w
 | .skip, sc, h, R, _, a, w, hk => by
  simp only [tr] at h; injection h with h; subst h
  exact wp_skip hk
 | .region id ops draw, sc, h, R, hR, a, w, hk => by
  simp only [tr] at h
  obtain ⟨sc0, h, e0⟩ := Q0 h
  obtain ⟨sc', h2, e2⟩ := Q0 h
  subst e2
  subst e0
  refine z50 hm h2 hR ?_
  cases hg : H.gfz.contains id with
  | false => simp only [hg, zic] at hk; exact hk
  | true => simp only [hg, zic] at hk; exact Nx.gfz hk
 | .seq x y, sc, h, R, hR, a, w, hk => by
  simp only [tr] at h
  obtain ⟨sx, hx, h⟩ := K1 h
  obtain ⟨sy, hy, rfl⟩ := Q0 h
  refine wp_seq (wp_mono (qdg hm x hx (R := qe7 (AW P sy R) R) (K9 (Q3 sy hR) hR) hk) fun e a w he => ?_)
  cases e <;> first
   | exact qdg hm y hy hR he
   | exact he
 | .cond c x y, sc, h, R, hR, a, w, ⟨X, lam, env, L, T, hk, hsr, hn⟩ => by
  simp only [tr] at h
  obtain ⟨sx, hx, h⟩ := K1 h
  obtain ⟨sy, hy, rfl⟩ := Q0 h
  simp only [AW] at hk
  cases hc : q02 env c with
  | none => simp [hc] at hk
  | some cv =>
  cases cv <;> simp only [hc] at hk <;> first | (exact hk.elim) | skip
  rename_i b
  have hv := Q8 hsr hc
  simp only [vr] at hv
  cases b with
  | true =>
   simp only [if_true] at hk
   exact wp_cond_true hv (qdg hm x hx hR ⟨X, lam, env, L, T, hk, hsr, hn⟩)
  | false =>
   simp only [Bool.false_eq_true, if_false] at hk
   exact wp_cond_false hv (qdg hm y hy hR ⟨X, lam, env, L, T, hk, hsr, hn⟩)
 | .block id c, sc, h, R, hR, a, w, hk => by
  simp only [tr] at h
  obtain ⟨sc', hc, rfl⟩ := Q0 h
  refine wp_block (wp_mono (qdg hm c hc (R := z3z id R) (N1 hR) hk) fun e a w he => ?_)
  cases e with
  | exit id' =>
   simp only [z7r, z3z] at he
   simp only [Exit.inBlock]
   split
   ·rename_i e; rw [if_pos e] at he; exact he
   ·rename_i e; rw [if_neg e] at he; exact he
  | _ => exact he
 | .loop c, sc, h, R, hR, a, w, hk => by
  simp only [tr] at h
  obtain ⟨sc', hc, rfl⟩ := Q0 h
  cases ho : q2d H.lkeep (qku c) with
  | none =>
   simp only [ho, zbg] at hk
   exact qu4 (fun hR => qdg hm c hc hR) hR hk
  | some p =>
   obtain ⟨ts, ls⟩ := p
   simp only [ho, zbg] at hk
   refine qu4 (sc := .seq sc' (.keep ts ls)) (fun {R} hR {a w} h => ?_) hR (Nx.keep hk)
   exact wp_mono (qdg hm c hc (R := qe7 (AW P (.keep ts ls) R) R) (K9 (Q3 (.keep ts ls) hR) hR) h) fun e a w he => qmj he
 | .exit id, sc, h, R, _, a, w, hk => by
  simp only [tr] at h; injection h with h; subst h
  exact wp_exit hk
 | .ret, sc, h, R, _, a, w, hk => by
  simp only [tr] at h; injection h with h; subst h
  exact wp_ret hk
 | .rangeFunc _ _ _ _, _, h, _, _, _, _, _ => by simp [tr] at h
 | .scope _, _, h, _, _, _, _, _ => by simp [tr] at h
 | .label _, _, h, _, _, _, _, _ => by simp [tr] at h
 | .goto _, _, h, _, _, _, _, _ => by simp [tr] at h
 | .refuse _, _, h, _, _, _, _, _ => by simp [tr] at h
end
end Go.Aw
namespace Go.Aw
open Go
set_option linter.all false
variable [Glob]
def z83 (P : Program) (H : Hint) : ResultVar -> Option SO
 | .tmp t => some (.mv (.tmp t))
 | .cell a t => (ldT P t).map fun sz => match z7w H (.tmp a) with
  | some l => .lld l sz (.tmp a)
  | none => .ld sz (.tmp a)
def zbh (P : Program) (H : Hint) : List ResultVar -> Option (List SO)
 | [] => some []
 | r :: l => (z83 P H r).bind fun x => (zbh P H l).map (x :: ·)
def qgw : List SO -> Env -> Loc -> Tab -> Option (List AV)
 | [], _, _, _ => some []
 | o :: l, e, L, T => (vev o e L T).bind fun x => (qgw l e L T).map (x :: ·)
def qv2 : List AV -> AV
 | [x] => x
 | l => .tup l
def Wk (x y : AV) : Prop := ∀ X w v, vr X w x v -> vr X w y v
def SlotLe (s' s : Slot) : Prop := s' = .unused \/ s' = s \/ ∃ z cs k, s = .row z cs /\ s' = .row z (cs.take k)
def qta (r : AV) (Q : AV -> Tab -> Prop) (T : Tab) : Prop :=
 ∃ S T' r', S.Nodup /\ (∀ id ∈ S, T id ≠ .unused) /\ (∀ id, SlotLe (T' id) (qm9 T S id)) /\ Wk (qo7 T S r) r' /\ Q r' T'
def fin (x : Option (List AV)) (Q : AV -> Tab -> Prop) (T : Tab) : Prop :=
 match x with
 | none => False
 | some l => qta (qv2 l) Q T
def z7s (rs : List SO) (Q : AV -> Tab -> Prop) (e : Env) (L : Loc) (T : Tab) : Prop := fin (qgw rs e L T) Q T
def zec (rs : List SO) (Q : AV -> Tab -> Prop) : Z1
 | .normal => z7s rs Q
 | .ret => z7s rs Q
 | .exit _ => fun _ _ _ => False
def zak : Nat -> List AV -> Env
 | _, [] => []
 | n, x :: l => (n, x) :: zak (n + 1) l
theorem qx3 : ∀ (l : List AV) (n s : Nat) (x : AV), q2d (zak n l) s = some x -> n <= s /\ l[s - n]? = some x
 | [], n, s, x, h => by simp [zak, q2d] at h
 | y :: l, n, s, x, h => by
  simp only [zak, q2d] at h
  split at h
  ·rename_i e; subst e; injection h with h; subst h; simp
  ·rename_i e
   obtain ⟨h1, h2⟩ := qx3 l (n + 1) s x h
   refine ⟨by omega, ?_⟩
   rw [show s - n = (s - (n + 1)) + 1 by omega]
   simpa using h2
section
variable {P : Program} {H : Hint} {X0 : Cx} {T0 : Tab} {w0 : World} {X : Cx} {lam : Nat -> Nat} {env : Env} {L : Loc} {T : Tab} {a : Act} {w : World}
theorem SR.sub (h : SR X0 T0 w0 X lam env L T a w) {T' : Tab} (hs : ∀ id, SlotLe (T' id) (T id)) : SR X0 T0 w0 X lam env L T' a w := by
 have hun : ∀ j, T j = .unused -> T' j = .unused := fun j hj => by
  rcases hs j with e | e | ⟨z, cs, k, e, e'⟩
  ·exact e
  ·rw [e, hj]
  ·rw [hj] at e; cases e
 have hne : ∀ j, T' j ≠ .unused -> T j ≠ .unused := fun j hj e => hj (hun j e)
 have hlv : ∀ b, qm5 X T' b -> qm5 X T b := fun b ⟨j, hj, hb⟩ => ⟨j, hne j hj, hb⟩
 refine ⟨⟨fun j hj => hun j (h.rel.fresh j hj), h.rel.fzlt, fun j esz cs hT => ?_, fun j es hT => ?_, fun j hj => h.rel.live_fz j (hne j hj), fun j j' h1 h2 h3 => h.rel.live_inj j j' (hne j h1) (hne j' h2) h3, h.rel.loc, h.rel.loc_fz, h.rel.loc_inj, fun l c hc hl => h.rel.loc_live l c hc (hlv _ hl), (by first | exact h.rel.glob | exact q2u hx hk h.rel.glob | exact q2u (Cx.Le.refl _) hk h.rel.glob)⟩,
  ⟨h.step.le, h.step.os, h.step.tape, h.step.output, h.step.size, h.step.kept, h.step.fznew, fun c hc hl => h.step.livenew c hc (hlv c hl), fun j hj hT => hun j (h.step.idnew j hj hT)⟩, h.locnew, h.env, h.defers⟩
 ·rcases hs j with e | e | ⟨z, cs', k, e, e'⟩
  ·rw [e] at hT; cases hT
  ·rw [e] at hT; exact h.rel.row j esz cs hT
  ·rw [e'] at hT
   injection hT with hz hcs
   subst hz; subst hcs
   obtain ⟨cur, ee, us, h1, h2, h3, h4, h5, h6, h7⟩ := h.rel.row j z cs' e
   refine ⟨cur, ee, us.take k, h1, h2.take k, fun u hu => h3 u (List.mem_of_mem_take hu), fun j' u hu => h4 j' u ?_, ?_, h6, h7⟩
   ·rw [List.getElem?_take] at hu
    split at hu
    ·exact hu
    ·cases hu
   ·rw [List.length_take]; omega
 ·rcases hs j with e | e | ⟨z, cs', k, e, e'⟩
  ·rw [e] at hT; cases hT
  ·rw [e] at hT; exact h.rel.map j es hT
  ·rw [e'] at hT; cases hT
theorem qu5 {e e' : Env} (he : EqE e e') {L L' : Loc} (hl : EqL L L') (T : Tab) : ∀ l, qgw l e L T = qgw l e' L' T
 | [] => rfl
 | o :: l => by simp only [qgw, z4o he hl T, qu5 he hl T l]
theorem N2 (rs : List SO) (Q : AV -> Tab -> Prop) : ExtR (zec rs Q) := fun x e e' L L' T he hl h => by
 have key : z7s rs Q e L T -> z7s rs Q e' L' T := fun h => by
  unfold z7s at h ⊢; rw [<- qu5 he hl T rs]; exact h
 cases x with
 | normal => exact key h
 | ret => exact key h
 | exit _ => exact h
def zid (a : Act) : ResultVar -> Sem Value
 | .tmp t => pure (a.tmps.getD t undef)
 | .cell b t => do loadVar t (<- asAddr (a.tmps.getD b undef))
theorem qes {t : TypeId} {u q : Value} (h : (Instr.loadAt t u).run P w = .ok q w) : ((do loadVar t (<- asAddr u)) : Sem Value).run P w = .ok q w := by
 unfold Instr.loadAt at h
 cases u <;> first
  | (simp [Instr.sureAddr, stuck, Sem.run_bind] at h; done)
  | skip
 rename_i p
 cases p with
 | none => simp [Instr.sureAddr, stuck, Sem.run_bind] at h
 | some ad => exact h
theorem qzj (h : SR X0 T0 w0 X lam env L T a w) {r : ResultVar} {o : SO} (hr : z83 P H r = some o) {x : AV} (hx : vev o env L T = some x) :
  ∃ v, (zid a r).run P w = .ok v w /\ vr X w x v := by
 cases r with
 | tmp t =>
  simp only [z83] at hr; injection hr with hr; subst hr
  exact ⟨_, rfl, Q8 h (o := .tmp t) hx⟩
 | cell b t =>
  simp only [z83] at hr
  obtain ⟨sz, hsz, hr⟩ := Q0 hr
  have ht := qmb hsz
  cases hl : z7w H (.tmp b) with
  | none =>
   simp only [hl] at hr; subst hr
   simp only [vev, pev] at hx
   obtain ⟨y, hy, hx⟩ := K1 hx
   obtain ⟨q, hq, hv⟩ := z1d h.rel (G3 (lam := lam) (Q8 h hy)) ht hx
   exact ⟨q, qes hq, hv⟩
  | some l =>
   simp only [hl] at hr; subst hr
   simp only [vev, pev] at hx
   obtain ⟨y, hy, hx⟩ := K1 hx
   obtain ⟨q, hq, hv⟩ := qwq h.rel (qcf h hy) ht hx
   exact ⟨q, qes hq, hv⟩
theorem qu6 (h : SR X0 T0 w0 X lam env L T a w) : ∀ {rs : List ResultVar} {os : List SO}, zbh P H rs = some os -> ∀ {xs : List AV}, qgw os env L T = some xs ->
  ∃ vs, (rs.mapM (zid a)).run P w = .ok vs w /\ vrs X w xs vs
 | [], os, hr, xs, hx => by
  simp only [zbh] at hr; injection hr with hr; subst hr
  simp only [qgw] at hx; injection hx with hx; subst hx
  exact ⟨[], rfl, rfl⟩
 | r :: rs, os, hr, xs, hx => by
  simp only [zbh] at hr
  obtain ⟨o, ho, hr⟩ := K1 hr
  obtain ⟨os', hos, rfl⟩ := Q0 hr
  simp only [qgw] at hx
  obtain ⟨x, hx1, hx⟩ := K1 hx
  obtain ⟨xs', hxs, rfl⟩ := Q0 hx
  obtain ⟨v, h1, h2⟩ := qzj h ho hx1
  obtain ⟨vs, h3, h4⟩ := qu6 h hos hxs
  refine ⟨v :: vs, ?_, v, vs, rfl, h2, h4⟩
  simp only [List.mapM_cons, Sem.run_bind, h1, h3, Result.andThen_ok, Sem.run_pure]
theorem qv3 (h : SR X0 T0 w0 X lam env L T a w) {fn : Func} {os : List SO} (hr : zbh P H fn.results.toList = some os) {xs : List AV} (hx : qgw os env L T = some xs) :
  ∃ v, (results fn a.tmps).run P w = .ok v w /\ vr X w (qv2 xs) v := by
 obtain ⟨vs, h1, h2⟩ := qu6 h hr hx
 have hlen := h2.length
 have hrun : (results fn a.tmps).run P w = .ok (if hs : vs.toArray.size = 1 then vs.toArray[0] else .tuple vs.toArray) w := by
  have e : results fn a.tmps = (do let vs <- fn.results.mapM (zid a); pure (if h : vs.size = 1 then vs[0] else .tuple vs)) := rfl
  rw [e, Array.mapM_eq_mapM_toList]
  simp only [Sem.run_bind, Sem.run_map, h1, Result.andThen_ok, Sem.run_pure]
 refine ⟨_, hrun, ?_⟩
 match xs, vs, h2, hlen with
 | [], [], h2, _ => simpa [qv2, vr] using h2
 | [x], [v], h2, _ =>
  simp only [vrs] at h2
  obtain ⟨u, us', e, h3, h4⟩ := h2
  injection e with e1 e2
  subst e1
  simpa [qv2] using h3
 | x :: y :: l, v :: u :: us, h2, _ =>
  simp only [qv2, vr]
  exact ⟨v :: u :: us, h2, by simp⟩
structure FnTxt (P : Program) (f : FuncId) (n : Nat) (sc : SC) (rs : List SO) : Prop where
 mk :: (is : ∃ fn c H, P.funcs[f]? = some fn /\ fn.body = some c /\ fn.ntmps = n /\ tr P H n c = some sc /\ zbh P H fn.results.toList = some rs)
def fnT (P : Program) (H : Hint) (f : FuncId) : Option (Nat × SC × List SO) :=
 (P.funcs[f]?).bind fun fn => fn.body.bind fun c => (tr P H fn.ntmps c).bind fun sc => (zbh P H fn.results.toList).map fun rs => (fn.ntmps, sc, rs)
theorem FnTxt.of (H : Hint) {f : FuncId} {n : Nat} {sc : SC} {rs : List SO} (h : fnT P H f = some (n, sc, rs)) : FnTxt P f n sc rs := by
 unfold fnT at h
 obtain ⟨fn, h1, h⟩ := K1 h
 obtain ⟨c, h2, h⟩ := K1 h
 obtain ⟨s, h3, h⟩ := K1 h
 obtain ⟨r, h4, h⟩ := Q0 h
 injection h with e1 h
 injection h with e2 e3
 subst e1; subst e2; subst e3
 exact ⟨fn, c, H, h1, h2, rfl, h3, h4⟩
theorem Z3 (hm : P.follows .mixedOrders = true) {f : FuncId} {n : Nat} {sc : SC} {rs : List SO} (ht : FnTxt P f n sc rs) {args : List AV} {T : Tab} {Q : AV -> Tab -> Prop} (hl : args.length <= n)
  (h : AW P sc (zec rs Q) (zak 0 args) [] T) : ACalls P f args T Q := by
 obtain ⟨fn, c, H, h1, h2, rfl, h3, h4⟩ := ht.is
 intro X lam w cargs hr hv
 have hlen := hv.length
 refine calls_of_wp h1 h2 (wp_mono (qdg (X0 := X) (T0 := T) (w0 := w) hm c h3 (N2 rs Q) ⟨X, lam, zak 0 args, [], T, h, ⟨hr, .refl X T w, fun l c hc => by simp [q2d] at hc, fun s x hs => ?_, rfl⟩, by simp; omega⟩) ?_)
 ·obtain ⟨_, hs⟩ := qx3 args 0 s x hs
  obtain ⟨u, hu, hx⟩ := hv.get hs
  have : s < cargs.length := (List.getElem?_eq_some_iff.1 hu).1
  refine ⟨u, ?_, G3 hx⟩
  simp only [Nat.sub_zero] at hu
  rw [Array.getElem?_append_left (by simpa using this)]
  simpa using hu
 ·have key : ∀ a w', Nx X T w fn.ntmps (z7s rs Q) a w' -> a.defers = [] /\ ∃ v, (results fn a.tmps).run P w' = .ok v w' /\ ze7 X T w Q (.returned v) w' := by
   rintro a w' ⟨X', lam', env, L, T', hk, hsr, _⟩
   refine ⟨hsr.defers, ?_⟩
   unfold z7s at hk
   cases hl : qgw rs env L T' with
   | none => rw [hl] at hk; exact hk.elim
   | some l =>
    rw [hl] at hk
    obtain ⟨S, T'', r', k1, k2, k3, kw, k4⟩ := hk
    obtain ⟨v, r1, r2⟩ := qv3 hsr h4 hl
    have s1 := ((hsr.freezes S k1 k2).sub k3).weaken (env' := []) (L' := []) (fun _ _ hx => by simp [q2d] at hx) (fun _ _ hx => by simp [q2d] at hx)
    exact ⟨v, r1, v, _, T'', _, lam', rfl, k4, kw _ _ _ (qtx hsr.rel r2), s1.rel, s1.step⟩
  intro e a w' he
  cases e <;> first
   | exact key a w' he
   | exact he.elim
   | (obtain ⟨_, _, _, _, _, hk, _⟩ := he; exact hk.elim)
end
end Go.Aw
namespace Go.Aw
open Go
set_option linter.all false
variable [Glob]
section
variable {P : Program} {R : Z1} {K : Env -> Loc -> Tab -> Prop} {e : Env} {L : Loc} {T : Tab}
theorem zbi : AW P .skip R e L T = R .normal e L T := rfl
theorem zed (l : List SOp) : AW P (.ops l) R e L T = qwv P l (R .normal) e L T := rfl
theorem zee (a b : SC) : AW P (.seq a b) R e L T = AW P a (qe7 (AW P b R) R) e L T := rfl
theorem z84 (id : Nat) (c : SC) : AW P (.block id c) R e L T = AW P c (z3z id R) e L T := rfl
theorem zbj (id : Nat) : AW P (.exit id) R e L T = R (.exit id) e L T := rfl
theorem zef : AW P .ret R e L T = R .ret e L T := rfl
theorem zbk (ts ls : List Nat) : AW P (.keep ts ls) R e L T = R .normal (qhn ts e) (qhn ls L) T := rfl
theorem qx4 : qe7 K R .normal = K := rfl
theorem z2x (id : Nat) : qe7 K R (.exit id) = R (.exit id) := rfl
theorem z51 : qe7 K R .ret = R .ret := rfl
theorem qzk (id : Nat) : z3z id R .normal = R .normal := rfl
theorem z52 (id id' : Nat) : z3z id R (.exit id') = if id' = id then R .normal else R (.exit id') := rfl
theorem z85 (id : Nat) : z3z id R .ret = R .ret := rfl
theorem qzl (rs : List SO) (Q : AV -> Tab -> Prop) : zec rs Q .normal = z7s rs Q := rfl
theorem z86 (rs : List SO) (Q : AV -> Tab -> Prop) : zec rs Q .ret = z7s rs Q := rfl
theorem z87 : qwv P [] K e L T = K e L T := rfl
theorem z53 (o : SOp) (l : List SOp) : qwv P (o :: l) K e L T = G9 P o (qwv P l K) e L T := rfl
theorem z54 (d : Nat) (x : AV) : q0y e (some d) x = qdb e d x := rfl
theorem z55 (x : AV) : q0y e none x = e := rfl
variable {d : Option Nat} {rc : RC}
inductive Hold.{u} {α : Sort u} (a : α) : Type
 | mk
def vst (x : Option AV) {K : AV -> Prop} (_ : Hold K) : Prop :=
 match x with
 | some x => K x
 | none => False
def gzS (e : Env) (L : Loc) (T : Tab) {K : Env -> Loc -> Tab -> Prop} (_ : Hold K) : Prop := ∃ (S : List Nat) (T' : Tab), S.Nodup /\ (∀ id ∈ S, T id ≠ .unused) /\ (∀ j, z1m T S (T' j) (qm9 T S j)) /\ K (frE T S e) L T'
theorem zeg : AW P .gfz R e L T = gzS e L T (Hold.mk (a := R .normal)) := rfl
theorem z88 (x : AV) (K : AV -> Prop) (h : Hold K) : vst (some x) h = K x := rfl
def br (x : Bool) {a b : Prop} (_ : Hold a) (_ : Hold b) : Prop := if x = true then a else b
theorem zbl (a b : Prop) (p : Hold a) (q : Hold b) : br true p q = a := rfl
theorem z89 (a b : Prop) (p : Hold a) (q : Hold b) : br false p q = b := rfl
theorem J2 {x : Bool} {a b : Prop} {p : Hold a} {q : Hold b} (ha : x = true -> a) (hb : x = false -> b) : br x p q := by
 cases x
 ·exact hb rfl
 ·exact ha rfl
def snl (neg : Bool) (x : Option AV) {K : AV -> Prop} (_ : Hold K) : Prop := qfo neg x K
theorem zeh (neg : Bool) (id o n : Nat) (cap : Option Nat) (K : AV -> Prop) (h : Hold K) : snl neg (some (.sl id o n cap)) h = K (.b neg) := rfl
theorem z56 (neg : Bool) (n : Nat) (c : List AV) (cap : Option Nat) (K : AV -> Prop) (h : Hold K) : snl neg (some (.fz n c cap)) h = if 0 < n then K (.b neg) else ∀ b, K (.b b) := rfl
def brO (x : Option AV) {a b : Prop} (p : Hold a) (q : Hold b) : Prop :=
 match x with
 | some (.b x) => br x p q
 | _ => False
theorem zie (x : Bool) (a b : Prop) (p : Hold a) (q : Hold b) : brO (some (.b x)) p q = br x p q := rfl
def gsO (x : Option AV) {a b : Prop} (p : Hold a) (q : Hold b) : Prop :=
 match x with
 | some (.b x) => br x p q
 | some (.tup []) => b
 | _ => False
theorem zif (x : Bool) (a b : Prop) (p : Hold a) (q : Hold b) : gsO (some (.b x)) p q = br x p q := rfl
theorem zig (a b : Prop) (p : Hold a) (q : Hold b) : gsO (some (.tup [])) p q = b := rfl
def gsN (x : Option AV) {a b : Prop} (p : Hold a) (q : Hold b) : Prop :=
 match x with
 | some (.b x) => br x q p
 | some (.tup []) => b
 | _ => False
theorem zih (x : Bool) (a b : Prop) (p : Hold a) (q : Hold b) : gsN (some (.b x)) p q = br x q p := rfl
theorem zii (a b : Prop) (p : Hold a) (q : Hold b) : gsN (some (.tup [])) p q = b := rfl
def vs2 (x : Option (Env × Loc)) {K : Env -> Loc -> Prop} (_ : Hold K) : Prop :=
 match x with
 | some (e, l) => K e l
 | none => False
theorem z8a (e : Env) (l : Loc) (K : Env -> Loc -> Prop) (h : Hold K) : vs2 (some (e, l)) h = K e l := rfl
def gst (e : Env) (k : Nat) (want : Bool) {y n : Prop} (p : Hold y) (q : Hold n) : Prop :=
 match q2d e k with
 | some (.b x) => if want then br x p q else br x q p
 | some (.tup []) => n
 | _ => False
theorem zm4 (x) : G9 P ⟨d, .mv x, none, rc⟩ K e L T = vst (q02 e x) (Hold.mk (a := fun v => K (q0y e d v) L T)) := rfl
theorem zei (c x y) : G9 P ⟨d, .pick c x y, none, rc⟩ K e L T = vst ((q02 e c).bind fun c => qwu c (q02 e x) (q02 e y)) (Hold.mk (a := fun v => K (q0y e d v) L T)) := rfl
theorem zij (o x y) : G9 P ⟨d, .bin o x y, none, rc⟩ K e L T = vst ((q02 e x).bind fun x => (q02 e y).bind fun y => qz5 o x y) (Hold.mk (a := fun v => K (q0y e d v) L T)) := rfl
theorem zm5 (o k x y) : G9 P ⟨d, .eq o k x y, none, rc⟩ K e L T = vst ((q02 e x).bind fun x => (q02 e y).bind fun y => (qts k x y).map fun r => .b (if o then !r else r)) (Hold.mk (a := fun v => K (q0y e d v) L T)) := rfl
theorem zej (neg x) : G9 P ⟨d, .snil neg x, none, rc⟩ K e L T = snl neg (q02 e x) (Hold.mk (a := fun v => K (q0y e d v) L T)) := rfl
theorem zm6 (o x) : G9 P ⟨d, .un o x, none, rc⟩ K e L T = vst ((q02 e x).bind (ze1 o)) (Hold.mk (a := fun v => K (q0y e d v) L T)) := rfl
theorem zik (k x) : G9 P ⟨d, .cvi k x, none, rc⟩ K e L T = vst ((q02 e x).bind (qty k)) (Hold.mk (a := fun v => K (q0y e d v) L T)) := rfl
theorem zil (x) : G9 P ⟨d, .b2s x, none, rc⟩ K e L T = vst ((q02 e x).bind fun x => (G4 T 1 x).bind fun c => match x with
   | .s _ => none
   | _ => (qbj c).map .s) (Hold.mk (a := fun v => K (q0y e d v) L T)) := rfl
theorem zim (x) : G9 P ⟨d, .s2b x, none, rc⟩ K e L T = vst ((q02 e x).bind fun x => match x with
  | .s l => some (.fz l.length (K8 l) none)
  | _ => none) (Hold.mk (a := fun v => K (q0y e d v) L T)) := rfl
theorem zin (x) : G9 P ⟨d, .cvs x, none, rc⟩ K e L T = vst ((q02 e x).bind fun x => match x with
   | .s l => some (.s l)
   | _ => none) (Hold.mk (a := fun v => K (q0y e d v) L T)) := rfl
theorem zio (t x) : G9 P ⟨d, .ifc t x, none, rc⟩ K e L T = vst ((q02 e x).map (.ifc t)) (Hold.mk (a := fun v => K (q0y e d v) L T)) := rfl
theorem zek (f a c) : G9 P ⟨d, .mkfn f a c, none, rc⟩ K e L T = vst ((qcg e a).bind fun a => (qcg e c).map fun b => .fn f a b) (Hold.mk (a := fun v => K (q0y e d v) L T)) := rfl
theorem ziq (z x lo hi mx) : G9 P ⟨d, .slc z x lo hi mx, none, rc⟩ K e L T = vst ((q02 e x).bind fun x => (q8i e lo).bind fun lo => (q8i e hi).bind fun hi => (q8i e mx).bind fun mx => qz9 z T lo hi mx x) (Hold.mk (a := fun v => K (q0y e d v) L T)) := rfl
theorem zel (x lo hi) : G9 P ⟨d, .slcs x lo hi, none, rc⟩ K e L T = vst ((q02 e x).bind fun x => (q8i e lo).bind fun lo => (q8i e hi).bind fun hi => qqr lo hi x) (Hold.mk (a := fun v => K (q0y e d v) L T)) := rfl
theorem zem (l o x) : G9 P ⟨d, .fadr l o x, none, rc⟩ K e L T = vst ((qpx e l x).bind (qqp o)) (Hold.mk (a := fun v => K (q0y e d v) L T)) := rfl
theorem zir (o z x) : G9 P ⟨d, .fld o z x, none, rc⟩ K e L T = vst ((q02 e x).bind (z2g o z)) (Hold.mk (a := fun v => K (q0y e d v) L T)) := rfl
theorem zen (l z a x i) : G9 P ⟨d, .iadr l z a x i, none, rc⟩ K e L T = vst ((qpx e l x).bind fun x => (q02 e i).bind fun i => qqq z a i x) (Hold.mk (a := fun v => K (q0y e d v) L T)) := rfl
theorem zeo (x i) : G9 P ⟨d, .idxs x i, none, rc⟩ K e L T = vst ((q02 e x).bind fun x => (q02 e i).bind fun i => qtu i x) (Hold.mk (a := fun v => K (q0y e d v) L T)) := rfl
theorem zis (i x) : G9 P ⟨d, .ext i x, none, rc⟩ K e L T = vst ((q02 e x).bind (z2h i)) (Hold.mk (a := fun v => K (q0y e d v) L T)) := rfl
theorem zit (s x) : G9 P ⟨d, .len s x, none, rc⟩ K e L T = vst ((q02 e x).bind (qpw s)) (Hold.mk (a := fun v => K (q0y e d v) L T)) := rfl
theorem zep (z l n x i) : G9 P ⟨d, .idxa z l n x i, none, rc⟩ K e L T = vst ((q02 e x).bind fun x => (q02 e i).bind fun i => z2i z l n i x) (Hold.mk (a := fun v => K (q0y e d v) L T)) := rfl
theorem ziu (x) : G9 P ⟨d, .cap x, none, rc⟩ K e L T = vst ((q02 e x).bind z2j) (Hold.mk (a := fun v => K (q0y e d v) L T)) := rfl
theorem ziv : G9 P ⟨d, .bad, none, rc⟩ K e L T = False := rfl
def mkS (z b : Nat) (zero : List AV) (x y : Option AV) (T : Tab) {k : AV -> Tab -> Prop} (_ : Hold k) : Prop :=
 match x, y with
 | some (.i _ j), some (.i _ q) => 0 <= j /\ j <= q /\ q.toNat * b <= 140737488355328 /\ q <= 9223372036854775807 /\ ∀ id, T id = .unused -> k (.sl id 0 j.toNat none) (T.put id (.row z (rep zero q.toNat)))
 | _, _ => False
theorem ziw (m x y) : G9 P ⟨d, .mnx m x y, none, rc⟩ K e L T = vst ((q02 e x).bind fun x => (q02 e y).bind fun y => z4a m x y) (Hold.mk (a := fun v => K (q0y e d v) L T)) := rfl
theorem zbm (l x) : G9 P ⟨d, .nilck l x, none, rc⟩ K e L T = vst ((qpx e l x).bind qo8) (Hold.mk (a := fun v => K (q0y e d v) L T)) := rfl
theorem zix (z ps) : G9 P ⟨d, .bld z ps, none, rc⟩ K e L T = vst ((qdc e z ps).map .agg) (Hold.mk (a := fun v => K (q0y e d v) L T)) := rfl
theorem ziy (n q z ps) : G9 P ⟨d, .bsl n q z ps, none, rc⟩ K e L T = vst ((qdc e z ps).map fun cells => .fz n cells (some n)) (Hold.mk (a := fun v => K (q0y e d v) L T)) := rfl
theorem zm7 (z x) : G9 P ⟨d, .ld z x, none, rc⟩ K e L T = vst ((q02 e x).bind (ze2 z T)) (Hold.mk (a := fun v => K (q0y e d v) L T)) := rfl
theorem ziz (l z x) : G9 P ⟨d, .lld l z x, none, rc⟩ K e L T = vst ((qpx e (some l) x).bind (qz8 l z L)) (Hold.mk (a := fun v => K (q0y e d v) L T)) := rfl
theorem zeq (x) : G9 P ⟨d, .fbox x, none, rc⟩ K e L T = vst ((q02 e x).bind fun v => if v.sto = true then some (.fptr v.cells) else none) (Hold.mk (a := fun v => K (q0y e d v) L T)) := rfl
theorem zj0 (l z x v) : G9 P ⟨d, .lst l z x v, none, rc⟩ K e L T = vs2 ((qpx e (some l) x).bind fun p => (q02 e v).bind fun y => match p with
  | .lp _ o => (q2d L l).bind fun cells => if y.sto = true /\ y.cells.length = z /\ o + z <= cells.length then some (q0y e d (.tup []), qdb L l (q22 cells o y.cells)) else none
  | _ => none) (Hold.mk (a := fun e l => K e l T)) := rfl
theorem z8b (k : Nat) (z) : G9 P ⟨some k, .lalloc z, none, rc⟩ K e L T = K (qdb (q3a e k) k (.lp k 0)) (qdb L k z) T := rfl
theorem zer (k : Nat) (x) : G9 P ⟨some k, .lbox x, none, rc⟩ K e L T = vs2 ((q02 e x).bind fun v => if v.sto = true then some (qdb (q3a e k) k (.lp k 0), qdb L k v.cells) else none) (Hold.mk (a := fun e l => K e l T)) := rfl
def CallK (P : Program) (f : FuncId) (avs : List AV) (T : Tab) (k : AV -> Tab -> Prop) : Prop :=
 ∃ S R, S.Nodup /\ (∀ id ∈ S, T id ≠ .unused) /\ ACalls P f (avs.map (qdf T S)) (qm9 T S) R /\ ∀ v T', R v T' -> k v T'
def aft (K : Env -> Loc -> Tab -> Prop) (e : Env) (L : Loc) (d : Option Nat) (rc : RC) : AV -> Tab -> Prop := fun v T' => v.isLp = false -> G6 (q0y e d v) L T' rc /\ K (q0y e d v) L T'
def zj1 (P : Program) (f : FuncId) (avs : Option (List AV)) (T : Tab) {k : AV -> Tab -> Prop} (_ : Hold k) : Prop :=
 match avs with
 | some avs => CallK P f avs T k
 | none => False
theorem z57 (f : FuncId) (avs : List AV) (k : AV -> Tab -> Prop) (h : Hold k) : zj1 P f (some avs) T h = CallK P f avs T k := rfl
def zi8 (P : Program) (x : Option AV) (avs : Option (List AV)) (T : Tab) {k : AV -> Tab -> Prop} (_ : Hold k) : Prop :=
 match x, avs with
 | some (.fn (.func f) first cap), some avs => K6 P f = true /\ CallK P f (first ++ avs ++ cap) T k
 | _, _ => False
theorem qhp (f : FuncId) (first cap avs : List AV) (k : AV -> Tab -> Prop) (h : Hold k) (hc : K6 P f = true) : zi8 P (some (.fn (.func f) first cap)) (some avs) T h = CallK P f (first ++ avs ++ cap) T k := by
 simp [zi8, hc]
theorem J0 (f args) (hc : K6 P f = true) : G9 P ⟨d, .call f args, none, rc⟩ K e L T = zj1 P f (qcg e args) T (Hold.mk (a := aft K e L d rc)) := by
 have : G9 P ⟨d, .call f args, none, rc⟩ K e L T = (K6 P f = true /\ match qcg e args with
  | some avs => CallK P f avs T (aft K e L d rc)
  | none => False) := rfl
 rw [this]; simp only [hc, true_and]; rfl
theorem zbn (x args) : G9 P ⟨d, .callv x args, none, rc⟩ K e L T = zi8 P (q02 e x) (qcg e args) T (Hold.mk (a := aft K e L d rc)) := rfl
theorem z8c (z c) : G9 P ⟨d, .halloc z c, none, rc⟩ K e L T = ∀ id, T id = .unused -> aft K e L d rc (.ptr id 0) (T.put id (.row z c)) := rfl
def hbS (z : Nat) (x : Option AV) (T : Tab) {k : AV -> Tab -> Prop} (_ : Hold k) : Prop :=
 match x with
 | some v => v.sto = true /\ ∀ id, T id = .unused -> k (.ptr id 0) (T.put id (.row z v.cells))
 | none => False
theorem z8d (z : Nat) (v : AV) (k : AV -> Tab -> Prop) (h : Hold k) (hv : v.sto = true) : hbS z (some v) T h = ∀ id, T id = .unused -> k (.ptr id 0) (T.put id (.row z v.cells)) := by simp [hbS, hv]
theorem zes (z x) : G9 P ⟨d, .hbox z x, none, rc⟩ K e L T = hbS z (q02 e x) T (Hold.mk (a := aft K e L d rc)) := rfl
def stS (z : Nat) (x y : Option AV) (T : Tab) {k : AV -> Tab -> Prop} (_ : Hold k) : Prop :=
 match x, y with
 | some (.ptr id o), some y => match T id with
  | .row q cells => y.sto = true /\ y.cells.length = z /\ o + z <= cells.length /\ k (.tup []) (T.put id (.row q (q22 cells o y.cells)))
  | _ => False
 | _, _ => False
theorem q35 {z id o q : Nat} {y : AV} {cells : List AV} {k : AV -> Tab -> Prop} {h : Hold k} (hT : T id = .row q cells) (h1 : y.sto = true) (h2 : y.cells.length = z) (h3 : o + z <= cells.length)
  (hk : k (.tup []) (T.put id (.row q (q22 cells o y.cells)))) : stS z (some (.ptr id o)) (some y) T h := by
 unfold stS; simp only [hT]; exact ⟨h1, h2, h3, hk⟩
theorem zm8 (z x v) : G9 P ⟨d, .st z x v, none, rc⟩ K e L T = stS z (q02 e x) (q02 e v) T (Hold.mk (a := aft K e L d rc)) := rfl
def apS (z b : Nat) (x y : Option AV) (T : Tab) {k : AV -> Tab -> Prop} (_ : Hold k) : Prop :=
 match x, y with
 | some x, some y => q1q z b T x y k
 | _, _ => False
theorem z8e (z b : Nat) (x y : AV) (k : AV -> Tab -> Prop) (h : Hold k) : apS z b (some x) (some y) T h = q1q z b T x y k := rfl
theorem zj2 (z b x y) : G9 P ⟨d, .app z b x y, none, rc⟩ K e L T = apS z b (q02 e x) (q02 e y) T (Hold.mk (a := aft K e L d rc)) := rfl
def clS (z : Nat) (zero : List AV) (x : Option AV) (T : Tab) {k : AV -> Tab -> Prop} (_ : Hold k) : Prop :=
 match x with
 | some (.fz 0 _ _) => k (.tup []) T
 | some (.sl id o n _) => match T id with
  | .row q cells => q = z /\ zero.length = z /\ o + n * z <= cells.length /\ k (.tup []) (T.put id (.row q (q22 cells o (rep zero n))))
  | _ => False
 | _ => False
theorem zj3 (z zero x) : G9 P ⟨d, .clr z zero x, none, rc⟩ K e L T = clS z zero (q02 e x) T (Hold.mk (a := aft K e L d rc)) := rfl
def zlx (n z : Nat) (x : Option (List AV)) (T : Tab) {k : AV -> Tab -> Prop} (_ : Hold k) : Prop :=
 match x with
 | some cells => ∀ id, T id = .unused -> k (.sl id 0 n (some n)) (T.put id (.row z cells))
 | none => False
theorem z58 (n z : Nat) (cells : List AV) (k : AV -> Tab -> Prop) (h : Hold k) : zlx n z (some cells) T h = ∀ id, T id = .unused -> k (.sl id 0 n (some n)) (T.put id (.row z cells)) := rfl
theorem zj4 (n z zero ps) : G9 P ⟨d, .hbs n z zero ps, none, rc⟩ K e L T = zlx n z (qdc e zero ps) T (Hold.mk (a := aft K e L d rc)) := rfl
def zm9 (x : Option AV) (T : Tab) {k : AV -> Tab -> Prop} (_ : Hold k) : Prop :=
 match x with
 | some (.sl id o n cap) => match T id with
  | .row z cells => z = 1 /\ o + n <= cells.length /\ k (.fz n ((cells.drop o).take n) cap) (T.put id .unused)
  | _ => False
 | _ => False
theorem zj5 (x) : G9 P ⟨d, .cvm x, none, rc⟩ K e L T = zm9 (q02 e x) T (Hold.mk (a := aft K e L d rc)) := rfl
def zly (z b : Nat) (zero : List AV) (x y : Option AV) (T : Tab) {k : AV -> Tab -> Prop} (_ : Hold k) : Prop :=
 match x, y with
 | some (.fz 0 [] (some 0)), some (.i _ q) => 0 < q /\ q.toNat * b <= 140737488355328 /\ q <= 9223372036854775807 /\ ∀ id, T id = .unused -> k (.sl id 0 q.toNat none) (T.put id (.row z (rep zero q.toNat)))
 | _, _ => False
theorem zbo {z b : Nat} {zero : List AV} {k2 : IntKind} {q : Int} {k : AV -> Tab -> Prop} {h : Hold k} (h2 : 0 < q) (h3 : q.toNat * b <= 140737488355328) (h4 : q <= 9223372036854775807)
  (hk : ∀ id, T id = .unused -> k (.sl id 0 q.toNat none) (T.put id (.row z (rep zero q.toNat)))) : zly z b zero (some (.fz 0 [] (some 0))) (some (.i k2 q)) T h := ⟨h2, h3, h4, hk⟩
theorem zj6 (z b zero x y) : G9 P ⟨d, .apz z b zero x y, none, rc⟩ K e L T = zly z b zero (q02 e x) (q02 e y) T (Hold.mk (a := aft K e L d rc)) := rfl
theorem zj7 : G9 P ⟨d, .mkm, none, rc⟩ K e L T = ∀ id, T id = .unused -> aft K e L d rc (.mp id) (T.put id (.mapo [])) := rfl
def zet (m : MK) (ok : Bool) (zero : AV) (x y : Option AV) (T : Tab) {k : AV -> Tab -> Prop} (_ : Hold k) : Prop :=
 match x, y with
 | some (.mp id), some kv => match T id with
  | .mapo es => q2v m kv = true /\ match qt8 m kv es with
   | some (some v) => k (if ok then .tup [v, .b true] else v) T
   | some none => k (if ok then .tup [zero, .b false] else zero) T
   | none => False
  | _ => False
 | _, _ => False
theorem qv4 {m : MK} {ok : Bool} {zero kv v : AV} {id : Nat} {es : List (AV × AV)} {k : AV -> Tab -> Prop} {h : Hold k} (hT : T id = .mapo es) (h1 : q2v m kv = true) (h2 : qt8 m kv es = some (some v))
  (hk : k (if ok then .tup [v, .b true] else v) T) : zet m ok zero (some (.mp id)) (some kv) T h := by
 unfold zet; simp only [hT, h2]; exact ⟨h1, hk⟩
theorem z8f {m : MK} {ok : Bool} {zero kv : AV} {id : Nat} {es : List (AV × AV)} {k : AV -> Tab -> Prop} {h : Hold k} (hT : T id = .mapo es) (h1 : q2v m kv = true) (h2 : qt8 m kv es = some none)
  (hk : k (if ok then .tup [zero, .b false] else zero) T) : zet m ok zero (some (.mp id)) (some kv) T h := by
 unfold zet; simp only [hT, h2]; exact ⟨h1, hk⟩
theorem zj8 (m ok zero x y) : G9 P ⟨d, .lku m ok zero x y, none, rc⟩ K e L T = zet m ok zero (q02 e x) (q02 e y) T (Hold.mk (a := aft K e L d rc)) := rfl
def zj9 (m : MK) (x y z : Option AV) (T : Tab) {k : AV -> Tab -> Prop} (_ : Hold k) : Prop :=
 match x, y, z with
 | some (.mp id), some kv, some y => match T id with
  | .mapo es => q2v m kv = true /\ (qt8 m kv es).isSome = true /\ k (.tup []) (T.put id (.mapo (qup kv y es)))
  | _ => False
 | _, _, _ => False
theorem z59 {m : MK} {kv y : AV} {id : Nat} {es : List (AV × AV)} {k : AV -> Tab -> Prop} {h : Hold k} (hT : T id = .mapo es) (h1 : q2v m kv = true) (h2 : (qt8 m kv es).isSome = true)
  (hk : k (.tup []) (T.put id (.mapo (qup kv y es)))) : zj9 m (some (.mp id)) (some kv) (some y) T h := by
 unfold zj9; simp only [hT]; exact ⟨h1, h2, hk⟩
theorem zja (m x y z) : G9 P ⟨d, .mup m x y z, none, rc⟩ K e L T = zj9 m (q02 e x) (q02 e y) (q02 e z) T (Hold.mk (a := aft K e L d rc)) := rfl
theorem zeu (z b zero x y) : G9 P ⟨d, .mksl z b zero x y, none, rc⟩ K e L T = mkS z b zero (q02 e x) (q02 e y) T (Hold.mk (a := aft K e L d rc)) := rfl
theorem J1 {v : AV} {T' : Tab} (h : K (q0y e d v) L T') : aft K e L d [] v T' := fun _ => ⟨trivial, h⟩
theorem zal {v : AV} {T' : Tab} (h : v.isLp = false -> G6 (q0y e d v) L T' rc) (k : K (q0y e d v) L T') : aft K e L d rc v T' := fun hv => ⟨h hv, k⟩
theorem zam (k : Nat) (want : Bool) {y n : Prop} (p : Hold y) (q : Hold n) : gst e k want p q = gdd e (some (k, want)) y n False := by
 unfold gst gdd
 simp only
 rcases q2d e k with _ | x
 ·rfl
 ·cases x with
  | b x => cases x <;> cases want <;> rfl
  | tup l => cases l <;> rfl
  | _ => rfl
theorem zma (o : SO) (k : Nat) (want : Bool) : G9 P ⟨d, o, some (k, want), []⟩ K e L T = gst e k want (Hold.mk (a := G9 P ⟨d, o, none, []⟩ K e L T)) (Hold.mk (a := K (q0y e d (.tup [])) L T)) := by
 rw [zam]
 have hm0 : ∀ {α : Type} (f : α -> Prop) (y n z : α), f (gdd e (some (k, want)) y n z) = gdd e (some (k, want)) (f y) (f n) (f z) := fun f y n z => by
  unfold gdd
  simp only
  split <;> (try split) <;> rfl
 cases hk : o.kind with
 | val =>
  have e1 : ∀ gd, G9 P ⟨d, o, gd, []⟩ K e L T = vst (qh2 o gd e L T) (Hold.mk (a := fun v => K (q0y e d v) L T)) := fun gd => by unfold G9; simp only [hk]; rfl
  rw [e1, e1]
  exact hm0 (fun x => vst x (Hold.mk (a := fun v => K (q0y e d v) L T))) _ _ _
 | snil => unfold G9; simp only [hk]; rfl
 | leff =>
  have e1 : ∀ gd, G9 P ⟨d, o, gd, []⟩ K e L T = (fun x : Option (Env × Loc) => match x with | some (e, l) => K e l T | none => False) (gdd e gd (lev o d e L) (some (q0y e d (.tup []), L)) none) := fun gd => by unfold G9; simp only [hk]; rfl
  rw [e1, e1]
  exact hm0 (fun x : Option (Env × Loc) => match x with | some (e, l) => K e l T | none => False) _ _ _
 | teff => unfold G9; simp only [hk, G6, true_and]; rfl
theorem zev (o : SO) (ho : o.kind = .teff) (k : Nat) (want : Bool) : G9 P ⟨d, o, some (k, want), rc⟩ K e L T = gdd e (some (k, want)) (G9 P ⟨d, o, none, rc⟩ K e L T) (G6 (q0y e d (.tup [])) L T rc /\ K (q0y e d (.tup [])) L T) False := by
 unfold G9
 simp only [ho, gdd]
theorem O0 {l c : SC} (hl : l = .loop c) (hR : ExtR R) (h : AW P c (qe7 (AW P l R) R) e L T) : AW P l R e L T := by
 subst hl; exact Q5 hR h
theorem qv5 (x : AV) : qdf T [] x = x := by
 have h1 : ∀ y, qhg T [] y = y := fun y => by cases y <;> simp [qhg]
 have : (qhg T []) = id := funext h1
 cases x <;> simp [qdf, h1, this]
theorem qiv (x : AV) : qo7 T [] x = x := by
 have : (qdf T []) = id := funext qv5
 cases x <;> simp [qo7, qv5, this]
theorem CallK.of {f : FuncId} {avs : List AV} {k : AV -> Tab -> Prop} {Q : AV -> Tab -> Prop} (h : ACalls P f avs T Q) (hk : ∀ v T', Q v T' -> k v T') : CallK P f avs T k := by
 have : (qdf T []) = id := funext qv5
 refine ⟨[], Q, List.nodup_nil, by simp, ?_, hk⟩
 rw [this, List.map_id]
 exact h
theorem CallK.pure {f : FuncId} {avs : List AV} {k : AV -> Tab -> Prop} {r : AV} (h : PCalls P f avs r) (hk : k r T) : CallK P f avs T k :=
 .of (h T) fun v T' h => by rw [h.1, h.2]; exact hk
theorem K7 (hm : P.follows .mixedOrders = true) {f : FuncId} {n : Nat} {sc : SC} {rs : List SO} (ht : FnTxt P f n sc rs) {args : List AV} {r : AV} (hl : args.length <= n)
  (h : ∀ T, AW P sc (zec rs fun v T' => v = r /\ T' = T) (zak 0 args) [] T) : PCalls P f args r := fun T => Z3 hm ht hl (h T)
theorem Wk.refl (x : AV) : Wk x x := fun _ _ _ h => h
theorem Wk.trans {x y z : AV} (h : Wk x y) (k : Wk y z) : Wk x z := fun X w v hv => k X w v (h X w v hv)
theorem Wk.fz {n : Nat} {cells : List AV} {cap : Option Nat} : Wk (.fz n cells cap) (.fz n cells none) := fun X w v h => by
 simp only [vr] at h ⊢
 obtain ⟨us, h1, h2⟩ := h
 refine ⟨us, h1, ?_⟩
 rcases h2 with ⟨a, b, c, _⟩ | ⟨a, c, h3, h4, h5, _, h6⟩
 ·exact .inl ⟨a, b, c, fun k hk => by cases hk⟩
 ·exact .inr ⟨a, c, h3, h4, h5, (fun k hk => by cases hk), h6⟩
def Wks : List AV -> List AV -> Prop
 | [], [] => True
 | x :: l, y :: m => Wk x y /\ Wks l m
 | _, _ => False
theorem Wks.vrs {X : Cx} {w : World} : ∀ {l m : List AV}, Wks l m -> ∀ {us}, Aw.vrs X w l us -> Aw.vrs X w m us
 | [], [], _, us, h => h
 | x :: l, y :: m, h, us, hv => by
  simp only [Aw.vrs] at hv ⊢
  obtain ⟨u, us', rfl, h2, h3⟩ := hv
  exact ⟨u, us', rfl, h.1 _ _ _ h2, Wks.vrs h.2 h3⟩
 | [], _ :: _, h, _, _ => h.elim
 | _ :: _, [], h, _, _ => h.elim
theorem Wks.refl : ∀ l, Wks l l
 | [] => trivial
 | x :: l => ⟨.refl x, Wks.refl l⟩
theorem Wk.agg {l m : List AV} (h : Wks l m) : Wk (.agg l) (.agg m) := fun X w v hv => by
 simp only [vr] at hv ⊢
 obtain ⟨us, h1, h2⟩ := hv
 exact ⟨us, h.vrs h1, h2⟩
theorem Wk.tup {l m : List AV} (h : Wks l m) : Wk (.tup l) (.tup m) := fun X w v hv => by
 simp only [vr] at hv ⊢
 obtain ⟨us, h1, h2⟩ := hv
 exact ⟨us, h.vrs h1, h2⟩
theorem zbp (rs : List SO) (Q : AV -> Tab -> Prop) : z7s rs Q e L T = fin (qgw rs e L T) Q T := rfl
theorem z8g (l : List AV) (Q : AV -> Tab -> Prop) : fin (some l) Q T = qta (qv2 l) Q T := rfl
theorem z5a (x : AV) : qv2 [x] = x := rfl
theorem z5b : qv2 [] = .tup [] := rfl
theorem z5c (x y : AV) (l : List AV) : qv2 (x :: y :: l) = .tup (x :: y :: l) := rfl
theorem J9 {r r' : AV} (hr : r' = r) : qta r' (fun v T' => v = r /\ T' = T) T :=
 ⟨[], T, r, List.nodup_nil, by simp, fun _ => .inr (.inl rfl), by rw [qiv, hr]; exact .refl r, rfl, rfl⟩
theorem q12 {r : AV} {Q : AV -> Tab -> Prop} (T' : Tab) (hT : ∀ id, SlotLe (T' id) (T id)) (hQ : Q r T') : qta r Q T :=
 ⟨[], T', r, List.nodup_nil, by simp, hT, by rw [qiv]; exact .refl r, hQ⟩
theorem zbq (c : Operand) (a b : SC) : AW P (.cond c a b) R e L T = brO (q02 e c) (Hold.mk (a := AW P a R e L T)) (Hold.mk (a := AW P b R e L T)) := rfl
theorem zjb (k : Nat) (y n : Prop) (p : Hold y) (q : Hold n) : gst e k true p q = gsO (q2d e k) p q := rfl
theorem zjc (k : Nat) (y n : Prop) (p : Hold y) (q : Hold n) : gst e k false p q = gsN (q2d e k) p q := rfl
end
theorem zmb {x : Bool} : AV.plain (.b x) = true := rfl
theorem zjd {x : Bool} : AV.isLp (.b x) = false := rfl
theorem zje {x : Bool} : AV.isOne (.b x) = true := rfl
theorem zjf {x : Bool} : AV.sto (.b x) = true := rfl
theorem zjg {x : Bool} : AV.cells (.b x) = [(.b x)] := rfl
theorem zjh {x : Bool} (j : Nat) : AV.offLp j (.b x) = (.b x) := rfl
theorem zmc {k : IntKind} {n : Int} : AV.plain (.i k n) = true := rfl
theorem zji {k : IntKind} {n : Int} : AV.isLp (.i k n) = false := rfl
theorem zjj {k : IntKind} {n : Int} : AV.isOne (.i k n) = true := rfl
theorem zjk {k : IntKind} {n : Int} : AV.sto (.i k n) = true := rfl
theorem zjl {k : IntKind} {n : Int} : AV.cells (.i k n) = [(.i k n)] := rfl
theorem zjm {k : IntKind} {n : Int} (j : Nat) : AV.offLp j (.i k n) = (.i k n) := rfl
theorem zmd {l : List UInt8} : AV.plain (.s l) = true := rfl
theorem zjn {l : List UInt8} : AV.isLp (.s l) = false := rfl
theorem zjo {l : List UInt8} : AV.isOne (.s l) = true := rfl
theorem zjp {l : List UInt8} : AV.sto (.s l) = true := rfl
theorem zjq {l : List UInt8} : AV.cells (.s l) = [(.s l)] := rfl
theorem zjr {l : List UInt8} (j : Nat) : AV.offLp j (.s l) = (.s l) := rfl
theorem zjs  : AV.plain .nilptr = true := rfl
theorem zew  : AV.isLp .nilptr = false := rfl
theorem zex  : AV.isOne .nilptr = true := rfl
theorem zey  : AV.sto .nilptr = true := rfl
theorem zez  : AV.cells .nilptr = [.nilptr] := rfl
theorem zf0  (j : Nat) : AV.offLp j .nilptr = .nilptr := rfl
theorem zf1 {id o : Nat} : AV.plain (.ptr id o) = true := rfl
theorem zbr {id o : Nat} : AV.isLp (.ptr id o) = false := rfl
theorem zbs {id o : Nat} : AV.isOne (.ptr id o) = true := rfl
theorem zbt {id o : Nat} : AV.sto (.ptr id o) = true := rfl
theorem zbu {id o : Nat} : AV.cells (.ptr id o) = [(.ptr id o)] := rfl
theorem zbv {id o : Nat} (j : Nat) : AV.offLp j (.ptr id o) = (.ptr id o) := rfl
theorem zjt {c : List AV} : AV.plain (.fptr c) = true := rfl
theorem zf2 {c : List AV} : AV.isLp (.fptr c) = false := rfl
theorem zf3 {c : List AV} : AV.isOne (.fptr c) = true := rfl
theorem zf4 {c : List AV} : AV.sto (.fptr c) = true := rfl
theorem zf5 {c : List AV} : AV.cells (.fptr c) = [(.fptr c)] := rfl
theorem zf6 {c : List AV} (j : Nat) : AV.offLp j (.fptr c) = (.fptr c) := rfl
theorem zju {n : Nat} {c : List AV} {k : Option Nat} : AV.plain (.fz n c k) = true := rfl
theorem zf7 {n : Nat} {c : List AV} {k : Option Nat} : AV.isLp (.fz n c k) = false := rfl
theorem zf8 {n : Nat} {c : List AV} {k : Option Nat} : AV.isOne (.fz n c k) = true := rfl
theorem zf9 {n : Nat} {c : List AV} {k : Option Nat} : AV.sto (.fz n c k) = true := rfl
theorem zfa {n : Nat} {c : List AV} {k : Option Nat} : AV.cells (.fz n c k) = [(.fz n c k)] := rfl
theorem zfb {n : Nat} {c : List AV} {k : Option Nat} (j : Nat) : AV.offLp j (.fz n c k) = (.fz n c k) := rfl
theorem zjv {id o n : Nat} {k : Option Nat} : AV.plain (.sl id o n k) = true := rfl
theorem zfc {id o n : Nat} {k : Option Nat} : AV.isLp (.sl id o n k) = false := rfl
theorem zfd {id o n : Nat} {k : Option Nat} : AV.isOne (.sl id o n k) = true := rfl
theorem zfe {id o n : Nat} {k : Option Nat} : AV.sto (.sl id o n k) = true := rfl
theorem zff {id o n : Nat} {k : Option Nat} : AV.cells (.sl id o n k) = [(.sl id o n k)] := rfl
theorem zfg {id o n : Nat} {k : Option Nat} (j : Nat) : AV.offLp j (.sl id o n k) = (.sl id o n k) := rfl
theorem zjw  : AV.plain .nilmap = true := rfl
theorem zfh  : AV.isLp .nilmap = false := rfl
theorem zfi  : AV.isOne .nilmap = true := rfl
theorem zfj  : AV.sto .nilmap = true := rfl
theorem zfk  : AV.cells .nilmap = [.nilmap] := rfl
theorem zfl  (j : Nat) : AV.offLp j .nilmap = .nilmap := rfl
theorem zjx {id : Nat} : AV.plain (.mp id) = true := rfl
theorem zfm {id : Nat} : AV.isLp (.mp id) = false := rfl
theorem zfn {id : Nat} : AV.isOne (.mp id) = true := rfl
theorem zfo {id : Nat} : AV.sto (.mp id) = true := rfl
theorem zfp {id : Nat} : AV.cells (.mp id) = [(.mp id)] := rfl
theorem zfq {id : Nat} (j : Nat) : AV.offLp j (.mp id) = (.mp id) := rfl
theorem zjy {f : Fn} {a b : List AV} : AV.plain (.fn f a b) = true := rfl
theorem zfr {f : Fn} {a b : List AV} : AV.isLp (.fn f a b) = false := rfl
theorem zfs {f : Fn} {a b : List AV} : AV.isOne (.fn f a b) = true := rfl
theorem zft {f : Fn} {a b : List AV} : AV.sto (.fn f a b) = true := rfl
theorem zfu {f : Fn} {a b : List AV} : AV.cells (.fn f a b) = [(.fn f a b)] := rfl
theorem zfv {f : Fn} {a b : List AV} (j : Nat) : AV.offLp j (.fn f a b) = (.fn f a b) := rfl
theorem zjz  : AV.plain .nilfn = true := rfl
theorem zfw  : AV.isLp .nilfn = false := rfl
theorem zfx  : AV.isOne .nilfn = true := rfl
theorem zfy  : AV.sto .nilfn = true := rfl
theorem zfz  : AV.cells .nilfn = [.nilfn] := rfl
theorem zg0  (j : Nat) : AV.offLp j .nilfn = .nilfn := rfl
theorem zk0 {t : TypeId} {x : AV} : AV.plain (.ifc t x) = true := rfl
theorem zg1 {t : TypeId} {x : AV} : AV.isLp (.ifc t x) = false := rfl
theorem zg2 {t : TypeId} {x : AV} : AV.isOne (.ifc t x) = true := rfl
theorem zg3 {t : TypeId} {x : AV} : AV.sto (.ifc t x) = true := rfl
theorem zg4 {t : TypeId} {x : AV} : AV.cells (.ifc t x) = [(.ifc t x)] := rfl
theorem zg5 {t : TypeId} {x : AV} (j : Nat) : AV.offLp j (.ifc t x) = (.ifc t x) := rfl
theorem zk1  : AV.plain .nilifc = true := rfl
theorem zg6  : AV.isLp .nilifc = false := rfl
theorem zg7  : AV.isOne .nilifc = true := rfl
theorem zg8  : AV.sto .nilifc = true := rfl
theorem zg9  : AV.cells .nilifc = [.nilifc] := rfl
theorem zga  (j : Nat) : AV.offLp j .nilifc = .nilifc := rfl
theorem zk2 {l : List AV} : AV.plain (.agg l) = true := rfl
theorem zgb {l : List AV} : AV.isLp (.agg l) = false := rfl
theorem zgc {l : List AV} : AV.isOne (.agg l) = false := rfl
theorem zgd {l : List AV} : AV.sto (.agg l) = true := rfl
theorem zge {l : List AV} : AV.cells (.agg l) = l := rfl
theorem zgf {l : List AV} (j : Nat) : AV.offLp j (.agg l) = (.agg l) := rfl
theorem zk3 {l : List AV} : AV.plain (.tup l) = true := rfl
theorem zgg {l : List AV} : AV.isLp (.tup l) = false := rfl
theorem zgh {l : List AV} : AV.isOne (.tup l) = false := rfl
theorem zgi {l : List AV} : AV.sto (.tup l) = false := rfl
theorem zgj {l : List AV} : AV.cells (.tup l) = [(.tup l)] := rfl
theorem zgk {l : List AV} (j : Nat) : AV.offLp j (.tup l) = (.tup l) := rfl
theorem zk4 {l o : Nat} : AV.plain (.lp l o) = false := rfl
theorem zgl {l o : Nat} : AV.isLp (.lp l o) = true := rfl
theorem zgm {l o : Nat} : AV.isOne (.lp l o) = false := rfl
theorem zgn {l o : Nat} : AV.sto (.lp l o) = false := rfl
theorem zgo {l o : Nat} : AV.cells (.lp l o) = [(.lp l o)] := rfl
theorem zgp {l o : Nat} (j : Nat) : AV.offLp j (.lp l o) = if l = j then .any else .lp l o := rfl
theorem zk5 {v : Value} : AV.plain (.raw v) = true := rfl
theorem zgq {v : Value} : AV.isLp (.raw v) = false := rfl
theorem zgr {v : Value} : AV.isOne (.raw v) = true := rfl
theorem zgs {v : Value} : AV.sto (.raw v) = true := rfl
theorem zgt {v : Value} : AV.cells (.raw v) = [(.raw v)] := rfl
theorem zgu {v : Value} (j : Nat) : AV.offLp j (.raw v) = (.raw v) := rfl
attribute [irreducible] gzS vst br brO gsO gsN vs2 snl zj1 zi8 hbS stS apS clS CallK aft
attribute [go_sem ↓] zeg zbi zed zee zbq z84 zbj zef zbk qx4 z2x z51 qzk z52 z85 qzl z86 z87 z53 zm4 zei zij zm5 zej zm6 zik zil zim zin zio zek ziq zel zem zir zen zeo zep ziu ziv zeu zj4 zj5 zj6 zj7 zj8 zja z58 zis zit ziw zbm zix ziy zm7 ziz zeq zj0 z8b zer zbn z8c zes zm8 zj2 zma zjb zjc zbp zj3
attribute [go_sem] z54 z55 z88 zak q2d qdb qhn q3a q02 opd qpx qcg q8i cav qwu qz5 qwm qim qwn ze1 qts qty qqp qqq z2g z2i z2j z2h qpw z4a qo8 qdc qoz ze2 qz8 q79 qtt q22 qz9 qqr qtu bnd G4 qbj qwt zeh Option.bind_some Option.bind_none Option.map_some Option.map_none List.getElem?_cons_zero List.getElem?_cons_succ List.getElem?_nil List.drop_zero List.drop_succ_cons List.take_zero List.take_succ_cons List.drop_nil List.take_nil List.length_cons List.length_nil List.set_cons_zero List.set_cons_succ List.append_nil List.nil_append List.cons_append if_true if_false ite_true ite_false and_true true_and and_self Bool.not_true Bool.not_false Bool.false_eq_true decide_true decide_false z8g z5a z5c z5b qgw vev pev zbl z89 Nat.zero_mul Nat.sub_zero Nat.mul_one Nat.zero_add Nat.add_zero zie zif zig zih zii z8a z57 z8d z8e zmb zjd zje zjf zjg zjh zmc zji zjj zjk zjl zjm zmd zjn zjo zjp zjq zjr zjs zew zex zey zez zf0 zf1 zbr zbs zbt zbu zbv zjt zf2 zf3 zf4 zf5 zf6 zju zf7 zf8 zf9 zfa zfb zjv zfc zfd zfe zff zfg zjw zfh zfi zfj zfk zfl zjx zfm zfn zfo zfp zfq zjy zfr zfs zft zfu zfv zjz zfw zfx zfy zfz zg0 zk0 zg1 zg2 zg3 zg4 zg5 zk1 zg6 zg7 zg8 zg9 zga zk2 zgb zgc zgd zge zgf zk3 zgg zgh zgi zgj zgk zk4 zgl zgm zgn zgo zgp zk5 zgq zgr zgs zgt zgu
end Go.Aw
