import Derived.Test.YtchdmofoaokpjaaGreatDoorM30Q17D
import Derived.Test.YtchdmofoaokpjaaGreatDoorM30Q17P
namespace Go.Aw
open Go
open Go.Proofs.Tryz (prog)
set_option linter.all false
set_option maxHeartbeats 8000000
set_option maxRecDepth 8000
def LtQ (B : Tab) (lid rid : Nat) (p : Lt Cf × RS) (v : AV) (T : Tab) : Prop := v = .tup [] /\ ∃ g x y w, LtA g B lid rid p.1 p.2 x y w T
theorem qfk {g : Option Nat} {B : Tab} {lid rid : Nat} {l : Lt Cf} {s : RS} {x y w : AV} {T : Tab} (ho : LtA g B lid rid l s x y w T) (c : Int) (hc : c = 118 \/ c = 99 \/ c = 108) (hl : Len s.1.length) (hb : z0v l c) :
  ACalls prog q1d [.ptr lid 0, .ptr rid 0, .i .u8 c] T (LtQ B lid rid (rdS l c s)) := by
 refine U7 U1 qam (by simp) ?_
 unfold q6i
 obtain ⟨b1, b2, b3⟩ := hb
 rcases hc with rfl | rfl | rfl
 ·have hm := q24 400 s
  simp -implicitDefEqProofs -dsimp only [go_sem, seval, decide_true, decide_false, ↓J0 _ _ N2]
  refine can (q45 ho.rd 400 (by decide) hl) ?_
  simp -implicitDefEqProofs -dsimp only [go_sem, seval]
  refine z6n (g := g) (B := B) (lid := lid) (rid := rid) (by repeat' (first | exact O6 _ _ | assumption | apply O5 | apply N4 | apply V8)) (K3 400 s).1 (K3 400 s).2 l x y w _ hm (by rw [b1 rfl]; simp only [List.length_nil]; omega) (q14 (O7 _ _) hl) (ho.read _) (fun x T1 m ho => ?_)
  simp -implicitDefEqProofs -dsimp only [go_sem, seval]
  refine Y3 _ (fun _ => .inr (.inl rfl)) ⟨rfl, g, x, y, w, ?_⟩
  rw [qlq]; exact ho
 ·have hm := q24 4 s
  simp -implicitDefEqProofs -dsimp only [go_sem, seval, decide_true, decide_false, ↓J0 _ _ N2]
  refine can (q45 ho.rd 4 (by decide) hl) ?_
  simp -implicitDefEqProofs -dsimp only [go_sem, seval]
  refine z6o (g := g) (B := B) (lid := lid) (rid := rid) (by repeat' (first | exact O6 _ _ | assumption | apply O5 | apply N4 | apply V8)) (K3 4 s).1 (K3 4 s).2 l x y w _ (by omega) (by rw [b2 rfl]; simp only [List.length_nil]; omega) (q14 (O7 _ _) hl) (ho.read _) (fun y T1 m ho => ?_)
  simp -implicitDefEqProofs -dsimp only [go_sem, seval]
  refine Y3 _ (fun _ => .inr (.inl rfl)) ⟨rfl, g, x, y, w, ?_⟩
  rw [qra]; exact ho
 ·have hm := q24 8 s
  simp -implicitDefEqProofs -dsimp only [go_sem, seval, decide_true, decide_false, ↓J0 _ _ N2]
  refine can (q45 ho.rd 8 (by decide) hl) ?_
  simp -implicitDefEqProofs -dsimp only [go_sem, seval]
  refine z6p (g := g) (B := B) (lid := lid) (rid := rid) (by repeat' (first | exact O6 _ _ | assumption | apply O5 | apply N4 | apply V8)) (K3 8 s).1 (K3 8 s).2 l x y w _ (by omega) (by rw [b3 rfl]; simp only [List.length_nil]; omega) (q14 (O7 _ _) hl) (ho.read _) (fun w T1 m ho => ?_)
  simp -implicitDefEqProofs -dsimp only [go_sem, seval]
  refine Y3 _ (fun _ => .inr (.inl rfl)) ⟨rfl, g, x, y, w, ?_⟩
  rw [qlr]; exact ho
theorem qwk {T : Tab} {id : Nat} {s : RS} (h : T id = q69 s) (hl : Len s.1.length) : ACalls prog q6s [.ptr id 0] T (fun v T' => v = .tup [.agg ((q27 s).1.cells none none), .b (qjf s)] /\ T' = rT T id (rTx s).2) := by
 refine U7 U1 qkp (by simp) ?_
 have c := qni h hl
 simp only [Tx.cells] at c
 unfold qcp
 simp -implicitDefEqProofs -dsimp only [go_sem, seval, ↓J0 _ _ qcw]
 refine can c ?_
 rcases hk : qjf s with _ | _
 ·have e : (q27 s).2 = q56 [116, 120, 110] (qlg 3) := by simp [q27, hk]
  simp -implicitDefEqProofs -dsimp only [go_sem, seval, e, q56, qm1]
  exact J9 rfl
 ·have e : (q27 s).2 = .nilifc := by simp [q27, hk]
  simp -implicitDefEqProofs -dsimp only [go_sem, seval, e, qm1]
  exact J9 rfl
theorem zer (g : Option Nat) (l : Lt Cf) (x y w : AV) (t : Tx) : q07 (lq g l x y w) 16 (t.cells none none) = lq none { l with t := t } x y w := rfl
attribute [go_sem] zer
theorem z3a {g : Option Nat} {B : Tab} {lid rid : Nat} {l : Lt Cf} {s : RS} {x y w : AV} {T : Tab} (ho : LtA g B lid rid l s x y w T) (c : Int) (hc : Sg c) (hl : Len s.1.length) (hb : z0v l c) :
  ACalls prog q2w [.ptr lid 0, .ptr rid 0, .i .u8 c] T (LtQ B lid rid (rdS l c s)) := by
 refine U7 U1 qdt (by simp) ?_
 unfold q84
 rcases hc with rfl | rfl | rfl | rfl | rfl | rfl | rfl | rfl | rfl | rfl | rfl | rfl | rfl | rfl | rfl
 ·have ho2 := ho.read (K3 3 s).2
  have ho3 := ho2.set { l with sh := (K3 3 s).1 }
  have hr : (rT T rid (K3 3 s).2) lid = .row 26 (lq g l x y w) := ho2.row
  simp -implicitDefEqProofs -dsimp only [go_sem, seval, decide_true, decide_false, ↓J0 _ _ N2]
  refine can (q45 ho.rd 3 (by decide) hl) ?_
  simp -implicitDefEqProofs -dsimp only [go_sem, seval]
  refine q11 hr rfl rfl (by rw [q5t]; decide) (J1 ?_)
  simp -implicitDefEqProofs -dsimp only [go_sem, seval]
  refine Y3 _ (fun _ => .inr (.inl rfl)) ⟨rfl, g, x, y, w, ?_⟩
  rw [qlk]; exact ho3
 ·have ho2 := ho.read (K3 18446744073709551615 s).2
  have ho3 := ho2.set { l with ep := (K3 18446744073709551615 s).1 }
  have hr : (rT T rid (K3 18446744073709551615 s).2) lid = .row 26 (lq g l x y w) := ho2.row
  simp -implicitDefEqProofs -dsimp only [go_sem, seval, decide_true, decide_false, ↓J0 _ _ q0s]
  refine can (z3v ho.rd hl) ?_
  simp -implicitDefEqProofs -dsimp only [go_sem, seval]
  refine q11 hr rfl rfl (by rw [q5t]; decide) (J1 ?_)
  simp -implicitDefEqProofs -dsimp only [go_sem, seval]
  refine Y3 _ (fun _ => .inr (.inl rfl)) ⟨rfl, g, x, y, w, ?_⟩
  rw [qll]; exact ho3
 ·have ho2 := ho.read (K3 1048576 s).2
  have ho3 := ho2.set { l with n := (K3 1048576 s).1 }
  have hr : (rT T rid (K3 1048576 s).2) lid = .row 26 (lq g l x y w) := ho2.row
  simp -implicitDefEqProofs -dsimp only [go_sem, seval, decide_true, decide_false, ↓J0 _ _ N2]
  refine can (q45 ho.rd 1048576 (by decide) hl) ?_
  simp -implicitDefEqProofs -dsimp only [go_sem, seval]
  refine q11 hr rfl rfl (by rw [q5t]; decide) (J1 ?_)
  simp -implicitDefEqProofs -dsimp only [go_sem, seval]
  refine Y3 _ (fun _ => .inr (.inl rfl)) ⟨rfl, g, x, y, w, ?_⟩
  rw [qlm]; exact ho3
 ·have ho2 := ho.read (K3 1048576 s).2
  have ho3 := ho2.set { l with m := (K3 1048576 s).1 }
  have hr : (rT T rid (K3 1048576 s).2) lid = .row 26 (lq g l x y w) := ho2.row
  simp -implicitDefEqProofs -dsimp only [go_sem, seval, decide_true, decide_false, ↓J0 _ _ N2]
  refine can (q45 ho.rd 1048576 (by decide) hl) ?_
  simp -implicitDefEqProofs -dsimp only [go_sem, seval]
  refine q11 hr rfl rfl (by rw [q5t]; decide) (J1 ?_)
  simp -implicitDefEqProofs -dsimp only [go_sem, seval]
  refine Y3 _ (fun _ => .inr (.inl rfl)) ⟨rfl, g, x, y, w, ?_⟩
  rw [qln]; exact ho3
 ·have ho2 := ho.read (K3 7 s).2
  have ho3 := ho2.set { l with nd := (K3 7 s).1 }
  have hr : (rT T rid (K3 7 s).2) lid = .row 26 (lq g l x y w) := ho2.row
  simp -implicitDefEqProofs -dsimp only [go_sem, seval, decide_true, decide_false, ↓J0 _ _ N2]
  refine can (q45 ho.rd 7 (by decide) hl) ?_
  simp -implicitDefEqProofs -dsimp only [go_sem, seval]
  refine q11 hr rfl rfl (by rw [q5t]; decide) (J1 ?_)
  simp -implicitDefEqProofs -dsimp only [go_sem, seval]
  refine Y3 _ (fun _ => .inr (.inl rfl)) ⟨rfl, g, x, y, w, ?_⟩
  rw [qlo]; exact ho3
 ·have ho2 := ho.read (K3 1 s).2
  have ho3 := ho2.set { l with fl := decide ((K3 1 s).1 = 1) }
  have hr : (rT T rid (K3 1 s).2) lid = .row 26 (lq g l x y w) := ho2.row
  simp -implicitDefEqProofs -dsimp only [go_sem, seval, decide_true, decide_false, ↓J0 _ _ q3t]
  refine can (qor ho.rd hl) ?_
  simp -implicitDefEqProofs -dsimp only [go_sem, seval]
  refine q11 hr rfl rfl (by rw [q5t]; decide) (J1 ?_)
  simp -implicitDefEqProofs -dsimp only [go_sem, seval]
  refine Y3 _ (fun _ => .inr (.inl rfl)) ⟨rfl, g, x, y, w, ?_⟩
  rw [qlp]; exact ho3
 ·have ho2 := ho.read (qjg s).2
  have ho3 := ho2.set { l with br := (qjg s).1.1, bn := (qjg s).1.2 }
  have hr : (rT T rid (qjg s).2) lid = .row 26 (lq g l x y w) := ho2.row
  simp -implicitDefEqProofs -dsimp only [go_sem, seval, decide_true, decide_false, ↓J0 _ _ qgd]
  refine can (qut ho.rd hl) ?_
  simp -implicitDefEqProofs -dsimp only [go_sem, seval]
  refine q11 hr rfl rfl (by rw [q5t]; decide) (J1 ?_)
  simp -implicitDefEqProofs -dsimp only [go_sem, seval]
  refine Y3 _ (fun _ => .inr (.inl rfl)) ⟨rfl, g, x, y, w, ?_⟩
  rw [qr9]; exact ho3
 ·simp -implicitDefEqProofs -dsimp only [go_sem, seval, decide_true, decide_false, ↓J0 _ _ q3c]
  refine CallK.of (qfk ho 118 (.inl rfl) hl hb) fun v T' hq => J1 ?_
  simp -implicitDefEqProofs -dsimp only [go_sem, seval]
  exact Y3 _ (fun _ => .inr (.inl rfl)) ⟨rfl, hq.2⟩
 ·simp -implicitDefEqProofs -dsimp only [go_sem, seval, decide_true, decide_false, ↓J0 _ _ q3c]
  refine CallK.of (qfk ho 99 (.inr (.inl rfl)) hl hb) fun v T' hq => J1 ?_
  simp -implicitDefEqProofs -dsimp only [go_sem, seval]
  exact Y3 _ (fun _ => .inr (.inl rfl)) ⟨rfl, hq.2⟩
 ·simp -implicitDefEqProofs -dsimp only [go_sem, seval, decide_true, decide_false, ↓J0 _ _ q3c]
  refine CallK.of (qfk ho 108 (.inr (.inr rfl)) hl hb) fun v T' hq => J1 ?_
  simp -implicitDefEqProofs -dsimp only [go_sem, seval]
  exact Y3 _ (fun _ => .inr (.inl rfl)) ⟨rfl, hq.2⟩
 ·have ho2 := ho.read (rTx s).2
  have ho3 := ho2.setg none { l with t := (q27 s).1 }
  have hr : (rT T rid (rTx s).2) lid = .row 26 (lq g l x y w) := ho2.row
  have hq := qwk ho.rd hl
  generalize hE : (q27 s).1 = E at *
  simp -implicitDefEqProofs -dsimp only [go_sem, seval, decide_true, decide_false, ↓J0 _ _ qkq]
  refine can hq ?_
  simp -implicitDefEqProofs -dsimp only [go_sem, seval]
  refine q11 (y := .agg (E.cells none none)) hr rfl rfl (by rw [q5t]; decide) (J1 ?_)
  rw [show AV.cells (.agg (E.cells none none)) = E.cells none none from rfl, zer]
  simp -implicitDefEqProofs -dsimp only [go_sem, seval]
  refine Y3 _ (fun _ => .inr (.inl rfl)) ⟨rfl, none, x, y, w, ?_⟩
  rw [qls, hE]; exact ho3
 ·have ho2 := ho.read (K3 5 s).2
  have ho3 := ho2.set { l with cl := (K3 5 s).1 }
  have ho4 := ho3.read (rID s).2
  have ho5 := ho4.set { l with cl := (K3 5 s).1, sq := (rID s).1.2 }
  have hr : (rT T rid (K3 5 s).2) lid = .row 26 (lq g l x y w) := ho2.row
  have hr4 := ho4.row
  simp -implicitDefEqProofs -dsimp only [go_sem, seval, decide_true, decide_false, ↓J0 _ _ N2]
  refine can (q45 ho.rd 5 (by decide) hl) ?_
  simp -implicitDefEqProofs -dsimp only [go_sem, seval]
  refine q11 hr rfl rfl (by rw [q5t]; decide) (J1 ?_)
  simp -implicitDefEqProofs -dsimp only [go_sem, seval, ↓J0 _ _ q0s]
  refine can (z3v ho3.rd (q14 (O7 _ _) hl)) ?_
  simp -implicitDefEqProofs -dsimp only [go_sem, seval]
  refine q11 hr4 rfl rfl (by rw [q5t]; decide) (J1 ?_)
  simp -implicitDefEqProofs -dsimp only [go_sem, seval]
  refine Y3 _ (fun _ => .inr (.inl rfl)) ⟨rfl, g, x, y, w, ?_⟩
  rw [qlt]; exact ho5
 ·have ho2 := ho.read (q1q 64 s).2
  have ho3 := ho2.set { l with v := (q1q 64 s).1 }
  have hr : (rT T rid (q1q 64 s).2) lid = .row 26 (lq g l x y w) := ho2.row
  simp -implicitDefEqProofs -dsimp only [go_sem, seval, decide_true, decide_false, ↓J0 _ _ q13]
  refine can (qhm ho.rd 64 (by decide) hl) ?_
  simp -implicitDefEqProofs -dsimp only [go_sem, seval]
  refine q11 hr rfl rfl (by rw [q5t]; decide) (J1 ?_)
  simp -implicitDefEqProofs -dsimp only [go_sem, seval]
  refine Y3 _ (fun _ => .inr (.inl rfl)) ⟨rfl, g, x, y, w, ?_⟩
  rw [qlu]; exact ho3
 ·have ho2 := ho.read (K3 18446744073709551615 s).2
  have ho3 := ho2.set { l with q := (K3 18446744073709551615 s).1 }
  have hr : (rT T rid (K3 18446744073709551615 s).2) lid = .row 26 (lq g l x y w) := ho2.row
  simp -implicitDefEqProofs -dsimp only [go_sem, seval, decide_true, decide_false, ↓J0 _ _ q0s]
  refine can (z3v ho.rd hl) ?_
  simp -implicitDefEqProofs -dsimp only [go_sem, seval]
  refine q11 hr rfl rfl (by rw [q5t]; decide) (J1 ?_)
  simp -implicitDefEqProofs -dsimp only [go_sem, seval]
  refine Y3 _ (fun _ => .inr (.inl rfl)) ⟨rfl, g, x, y, w, ?_⟩
  rw [qlv]; exact ho3
 ·have ho2 := ho.read (K3 99 s).2
  have ho3 := ho2.set { l with co := (K3 99 s).1 }
  have hr : (rT T rid (K3 99 s).2) lid = .row 26 (lq g l x y w) := ho2.row
  simp -implicitDefEqProofs -dsimp only [go_sem, seval, decide_true, decide_false, ↓J0 _ _ N2]
  refine can (q45 ho.rd 99 (by decide) hl) ?_
  simp -implicitDefEqProofs -dsimp only [go_sem, seval]
  refine q11 hr rfl rfl (by rw [q5t]; decide) (J1 ?_)
  simp -implicitDefEqProofs -dsimp only [go_sem, seval]
  refine Y3 _ (fun _ => .inr (.inl rfl)) ⟨rfl, g, x, y, w, ?_⟩
  rw [qlw]; exact ho3
end Go.Aw
namespace Go.Aw
open Go
open Go.Proofs.Tryz (prog)
set_option linter.all false
set_option maxHeartbeats 8000000
set_option maxRecDepth 8000
def rdL : Bs -> Lt Cf × RS -> Lt Cf × RS
 | [], p => p
 | c :: cs, p => rdL cs (rdS p.1 c.toNat p.2)
theorem z6q {c d : UInt8} (h : c ≠ d) : (c.toNat : Int) ≠ d.toNat := fun e => h (UInt8.toNat_inj.1 (by omega))
theorem z09 {c : UInt8} (h : sgB c = true) : Sg c.toNat := qus c h
theorem z0a {l : Lt Cf} (hr : l.Rng) (rest : Bs) : ∀ (us : Bs) (o : Lt Cf), us.all sgB = true -> (us.all fun s => maF l s.toNat) = true -> us.Nodup -> (∀ c ∈ us, z0v o c.toNat) -> rdL us (o, ((us.flatMap fun s => enS l s.toNat) ++ rest, false)) = (baF l o us, (rest, false))
 | [], o, _, _, _, _ => rfl
 | c :: us, o, h1, h2, h3, h4 => by
  simp only [List.all_cons, Bool.and_eq_true] at h1 h2
  obtain ⟨h5, h6⟩ := List.nodup_cons.1 h3
  have hs := z09 h1.1
  simp only [rdL, List.flatMap_cons, List.append_assoc]
  rw [z6l hs hr h2.1 (h4 c (List.mem_cons_self ..))]
  exact z0a hr rest us _ h1.2 h2.2 h6 fun d hd => qtw hs (z6q fun e => h5 (e ▸ hd)) (h4 d (List.mem_cons_of_mem _ hd))
def zL : Lt Cf := ⟨0, 0, 0, 0, 0, 0, 0, 0, 0, 0, false, 0, 0, [], [], [], zT, 0, 0, [], 0, 0⟩
def rHd (s : RS) : Lt Cf × RS :=
 let a := K3 3 s
 let b := K3 8 a.2
 let c := K3 3 b.2
 let d := K3 8 c.2
 let k := K3 21 d.2
 ({ zL with fk := a.1, fn := b.1, tk := c.1, tn := d.1, k := k.1 }, k.2)
def rLt (s : RS) : Lt Cf × RS := rdL (qc5 (rHd s).1.k) (rHd s)
def lOk (s : RS) : Bool := (!(rLt s).2.2 && decide ((rLt s).2.1 = [])) && lrF (rLt s).1
theorem qlx (k : Int) : (qc5 k).Nodup := by
 rcases kinds k with (rfl | rfl | rfl | rfl | rfl | rfl | rfl | rfl | rfl | rfl | rfl | rfl | rfl | rfl | rfl | rfl | rfl | rfl | rfl | rfl | rfl) | h
 any_goals (decide +kernel)
 rw [qz3 h]
 exact List.nodup_nil
theorem qtx {o : Lt Cf} (h1 : o.vs = []) (h2 : o.cs = []) (h3 : o.es = []) (c : Int) : z0v o c := ⟨fun _ => h1, fun _ => h2, fun _ => h3⟩
theorem qit {α : Type} {e : α -> α -> Bool} (h : ∀ x y, e x y = true -> x = y) : ∀ (xs ys : List α), eqL e xs ys = true -> xs = ys
 | [], [], _ => rfl
 | [], _ :: _, h' => by cases h'
 | _ :: _, [], h' => by cases h'
 | x :: xs, y :: ys, h' => by
  simp only [eqL, Bool.and_eq_true] at h'
  rw [h x y h'.1, qit h xs ys h'.2]
theorem z45 {a b : Tx} (h : txE a b = true) : a = b := by
 simp only [txE, Bool.and_eq_true, decide_eq_true_eq] at h
 obtain ⟨⟨⟨⟨h1, h2⟩, h3⟩, h4⟩, h5⟩ := h
 have h4 := qit (fun x y h => by simp only [rdE, Bool.and_eq_true, decide_eq_true_eq] at h; cases x; cases y; simp_all) _ _ h4
 have h5 := qit (fun x y h => by simp only [wtE, Bool.and_eq_true, decide_eq_true_eq] at h; cases x; cases y; simp_all) _ _ h5
 cases a; cases b; simp_all
theorem zar {a b : En} (h : enE a b = true) : a = b := by
 simp only [enE, Bool.and_eq_true, decide_eq_true_eq] at h
 have := z45 h.2
 cases a; cases b; simp_all
theorem zas {a b : Cf} (h : cfE a b = true) : a = b := by
 simp only [cfE, Bool.and_eq_true, decide_eq_true_eq] at h
 obtain ⟨⟨⟨⟨h1, h2⟩, h3⟩, h4⟩, h5⟩ := h
 have h4 := qit (fun x y h => of_decide_eq_true h) _ _ h4
 have h5 := qit (fun x y h => of_decide_eq_true h) _ _ h5
 cases a; cases b; simp_all
theorem zat {a b : Lt Cf} (h : ltE a b = true) : a = b := by
 simp only [ltE, Bool.and_eq_true, decide_eq_true_eq] at h
 have hv : ∀ x y : List Vt, eqL vtE x y = true -> x = y := qit fun x y h => by simp only [vtE, Bool.and_eq_true, decide_eq_true_eq] at h; cases x; cases y; simp_all
 have hc : ∀ x y : List Cf, eqL cfE x y = true -> x = y := qit fun x y h => zas h
 have he : ∀ x y : List En, eqL enE x y = true -> x = y := qit fun x y h => zar h
 have ht : ∀ x y : Tx, txE x y = true -> x = y := fun x y h => z45 h
 cases a; cases b
 simp only [Lt.mk.injEq]
 simp only at h
 have := fun x y => hv x y
 grind
theorem z6r {l : Lt Cf} (h : lrF l = true) (rest : Bs) : rHd (enc l.fk.toNat ++ enc l.fn.toNat ++ enc l.tk.toNat ++ enc l.tn.toNat ++ enc l.k.toNat ++ rest, false) = (l.bare0, (rest, false)) := by
 obtain ⟨h1, h2, h3, h4, h5⟩ := qh1 h
 have hk := h1
 simp only [qop, decide_eq_true_eq] at hk
 have key : ∀ k n : Int, z0t k n = true -> (0 <= k /\ k <= 3) /\ (0 <= n /\ n <= 8) := fun k n h => by
  simp only [z0t, Bool.and_eq_true, decide_eq_true_eq] at h
  unfold z1v at h
  by_cases e1 : k = 1
  ·rw [if_pos e1] at h; omega
  by_cases e2 : k = 2
  ·rw [if_neg e1, if_pos e2] at h; omega
  by_cases e3 : k = 3
  ·rw [if_neg e1, if_neg e2, if_pos e3] at h; omega
  ·rw [if_neg e1, if_neg e2, if_neg e3] at h; omega
 have a1 := key _ _ h2
 have a2 := key _ _ h3
 unfold rHd
 simp only [List.append_assoc]
 rw [Q9 (by omega) (by omega)]
 simp only
 rw [Q9 (by omega) (by omega)]
 simp only
 rw [Q9 (by omega) (by omega)]
 simp only
 rw [Q9 (by omega) (by omega)]
 simp only
 rw [Q9 (by omega) (by omega)]
 simp only
 rw [nn a1.1.1, nn a1.2.1, nn a2.1.1, nn a2.2.1, nn (by omega)]
 rfl
theorem z6s {l : Lt Cf} (hr : l.Rng) (h : lrF l = true) : rLt (q26 l, false) = (l, ([], false)) := by
 obtain ⟨h1, h2, h3, h4, h5⟩ := qh1 h
 unfold rLt q26
 rw [z6r h]
 have e := z0a hr [] (qc5 l.k) l.bare0 (qbp l.k).1 h5 (qlx l.k) fun c _ => qtx rfl rfl rfl _
 rw [List.append_nil] at e
 show rdL (qc5 l.k) _ = _
 rw [e, <- zat h4]
end Go.Aw
