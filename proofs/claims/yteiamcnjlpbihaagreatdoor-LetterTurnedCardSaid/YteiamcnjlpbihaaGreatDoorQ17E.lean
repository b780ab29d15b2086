import Derived.Test.YteiamcnjlpbihaaGreatDoorQ17D
namespace Go.Aw
open Go
open Go.Proofs.Tryz (prog)
set_option linter.all false
set_option maxHeartbeats 8000000
set_option maxRecDepth 8000
def LtQ (B : Tab) (lid rid : Nat) (p : Lt Cf × RS) (v : AV) (T : Tab) : Prop := v = .tup [] /\ ∃ g x y w, LtA g B lid rid p.1 p.2 x y w T
theorem qj3 {g : Option Nat} {B : Tab} {lid rid : Nat} {l : Lt Cf} {s : RS} {x y w : AV} {T : Tab} (ho : LtA g B lid rid l s x y w T) (c : Int) (hc : c = 118 \/ c = 99 \/ c = 108) (hl : Len s.1.length) (hb : z6p l c) :
  ACalls prog q24 [.ptr lid 0, .ptr rid 0, .i .u8 c] T (LtQ B lid rid (rdS l c s)) := by
 refine q06 U7 qd3 (by simp) ?_
 unfold q8b
 obtain ⟨b1, b2, b3⟩ := hb
 rcases hc with rfl | rfl | rfl
 ·have hm := q2y 400 s
  simp -implicitDefEqProofs -dsimp only [go_sem, seval, decide_true, decide_false, ↓J0 _ _ N3]
  refine can (q5l ho.rd 400 (by decide) hl) ?_
  simp -implicitDefEqProofs -dsimp only [go_sem, seval]
  refine z93 (g := g) (B := B) (lid := lid) (rid := rid) (by repeat' (first | exact N8 _ _ | assumption | apply N7 | apply K8 | apply V0)) (K4 400 s).1 (K4 400 s).2 l x y w _ hm (by rw [b1 rfl]; simp only [List.length_nil]; omega) (q1l (Q8 _ _) hl) (ho.read _) (fun x T1 m ho => ?_)
  simp -implicitDefEqProofs -dsimp only [go_sem, seval]
  refine q0r _ (fun _ => .inr (.inl rfl)) ⟨rfl, g, x, y, w, ?_⟩
  rw [qrt]; exact ho
 ·have hm := q2y 4 s
  simp -implicitDefEqProofs -dsimp only [go_sem, seval, decide_true, decide_false, ↓J0 _ _ N3]
  refine can (q5l ho.rd 4 (by decide) hl) ?_
  simp -implicitDefEqProofs -dsimp only [go_sem, seval]
  refine z94 (g := g) (B := B) (lid := lid) (rid := rid) (by repeat' (first | exact N8 _ _ | assumption | apply N7 | apply K8 | apply V0)) (K4 4 s).1 (K4 4 s).2 l x y w _ (by omega) (by rw [b2 rfl]; simp only [List.length_nil]; omega) (q1l (Q8 _ _) hl) (ho.read _) (fun y T1 m ho => ?_)
  simp -implicitDefEqProofs -dsimp only [go_sem, seval]
  refine q0r _ (fun _ => .inr (.inl rfl)) ⟨rfl, g, x, y, w, ?_⟩
  rw [qxh]; exact ho
 ·have hm := q2y 8 s
  simp -implicitDefEqProofs -dsimp only [go_sem, seval, decide_true, decide_false, ↓J0 _ _ N3]
  refine can (q5l ho.rd 8 (by decide) hl) ?_
  simp -implicitDefEqProofs -dsimp only [go_sem, seval]
  refine z95 (g := g) (B := B) (lid := lid) (rid := rid) (by repeat' (first | exact N8 _ _ | assumption | apply N7 | apply K8 | apply V0)) (K4 8 s).1 (K4 8 s).2 l x y w _ (by omega) (by rw [b3 rfl]; simp only [List.length_nil]; omega) (q1l (Q8 _ _) hl) (ho.read _) (fun w T1 m ho => ?_)
  simp -implicitDefEqProofs -dsimp only [go_sem, seval]
  refine q0r _ (fun _ => .inr (.inl rfl)) ⟨rfl, g, x, y, w, ?_⟩
  rw [qru]; exact ho
theorem qz2 {T : Tab} {id : Nat} {s : RS} (h : T id = q81 s) (hl : Len s.1.length) : ACalls prog q8m [.ptr id 0] T (fun v T' => v = .tup [.agg ((q3y s).1.cells none none), .b (qp8 s)] /\ T' = rT T id (rTx s).2) := by
 refine q06 U7 qnt (by simp) ?_
 have c := qq1 h hl
 simp only [Tx.cells] at c
 unfold qfr
 simp -implicitDefEqProofs -dsimp only [go_sem, seval, ↓J0 _ _ qfy]
 refine can c ?_
 rcases hk : qp8 s with _ | _
 ·have e : (q3y s).2 = q72 [116, 120, 110] (qog 3) := by simp [q3y, hk]
  simp -implicitDefEqProofs -dsimp only [go_sem, seval, e, q72, qpa]
  exact J9 rfl
 ·have e : (q3y s).2 = .nilifc := by simp [q3y, hk]
  simp -implicitDefEqProofs -dsimp only [go_sem, seval, e, qpa]
  exact J9 rfl
theorem zgx (g : Option Nat) (l : Lt Cf) (x y w : AV) (t : Tx) : q1y (lq g l x y w) 16 (t.cells none none) = lq none { l with t := t } x y w := rfl
attribute [go_sem] zgx
theorem z5v {g : Option Nat} {B : Tab} {lid rid : Nat} {l : Lt Cf} {s : RS} {x y w : AV} {T : Tab} (ho : LtA g B lid rid l s x y w T) (c : Int) (hc : Sg c) (hl : Len s.1.length) (hb : z6p l c) :
  ACalls prog q47 [.ptr lid 0, .ptr rid 0, .i .u8 c] T (LtQ B lid rid (rdS l c s)) := by
 refine q06 U7 qh8 (by simp) ?_
 unfold qaj
 rcases hc with rfl | rfl | rfl | rfl | rfl | rfl | rfl | rfl | rfl | rfl | rfl | rfl | rfl | rfl | rfl
 ·have ho2 := ho.read (K4 3 s).2
  have ho3 := ho2.set { l with sh := (K4 3 s).1 }
  have hr : (rT T rid (K4 3 s).2) lid = .row 26 (lq g l x y w) := ho2.row
  simp -implicitDefEqProofs -dsimp only [go_sem, seval, decide_true, decide_false, ↓J0 _ _ N3]
  refine can (q5l ho.rd 3 (by decide) hl) ?_
  simp -implicitDefEqProofs -dsimp only [go_sem, seval]
  refine q2m hr rfl rfl (by rw [q7n]; decide) (J1 ?_)
  simp -implicitDefEqProofs -dsimp only [go_sem, seval]
  refine q0r _ (fun _ => .inr (.inl rfl)) ⟨rfl, g, x, y, w, ?_⟩
  rw [qrn]; exact ho3
 ·have ho2 := ho.read (K4 18446744073709551615 s).2
  have ho3 := ho2.set { l with ep := (K4 18446744073709551615 s).1 }
  have hr : (rT T rid (K4 18446744073709551615 s).2) lid = .row 26 (lq g l x y w) := ho2.row
  simp -implicitDefEqProofs -dsimp only [go_sem, seval, decide_true, decide_false, ↓J0 _ _ q1a]
  refine can (z6e ho.rd hl) ?_
  simp -implicitDefEqProofs -dsimp only [go_sem, seval]
  refine q2m hr rfl rfl (by rw [q7n]; decide) (J1 ?_)
  simp -implicitDefEqProofs -dsimp only [go_sem, seval]
  refine q0r _ (fun _ => .inr (.inl rfl)) ⟨rfl, g, x, y, w, ?_⟩
  rw [qro]; exact ho3
 ·have ho2 := ho.read (K4 1048576 s).2
  have ho3 := ho2.set { l with n := (K4 1048576 s).1 }
  have hr : (rT T rid (K4 1048576 s).2) lid = .row 26 (lq g l x y w) := ho2.row
  simp -implicitDefEqProofs -dsimp only [go_sem, seval, decide_true, decide_false, ↓J0 _ _ N3]
  refine can (q5l ho.rd 1048576 (by decide) hl) ?_
  simp -implicitDefEqProofs -dsimp only [go_sem, seval]
  refine q2m hr rfl rfl (by rw [q7n]; decide) (J1 ?_)
  simp -implicitDefEqProofs -dsimp only [go_sem, seval]
  refine q0r _ (fun _ => .inr (.inl rfl)) ⟨rfl, g, x, y, w, ?_⟩
  rw [qrp]; exact ho3
 ·have ho2 := ho.read (K4 1048576 s).2
  have ho3 := ho2.set { l with m := (K4 1048576 s).1 }
  have hr : (rT T rid (K4 1048576 s).2) lid = .row 26 (lq g l x y w) := ho2.row
  simp -implicitDefEqProofs -dsimp only [go_sem, seval, decide_true, decide_false, ↓J0 _ _ N3]
  refine can (q5l ho.rd 1048576 (by decide) hl) ?_
  simp -implicitDefEqProofs -dsimp only [go_sem, seval]
  refine q2m hr rfl rfl (by rw [q7n]; decide) (J1 ?_)
  simp -implicitDefEqProofs -dsimp only [go_sem, seval]
  refine q0r _ (fun _ => .inr (.inl rfl)) ⟨rfl, g, x, y, w, ?_⟩
  rw [qrq]; exact ho3
 ·have ho2 := ho.read (K4 7 s).2
  have ho3 := ho2.set { l with nd := (K4 7 s).1 }
  have hr : (rT T rid (K4 7 s).2) lid = .row 26 (lq g l x y w) := ho2.row
  simp -implicitDefEqProofs -dsimp only [go_sem, seval, decide_true, decide_false, ↓J0 _ _ N3]
  refine can (q5l ho.rd 7 (by decide) hl) ?_
  simp -implicitDefEqProofs -dsimp only [go_sem, seval]
  refine q2m hr rfl rfl (by rw [q7n]; decide) (J1 ?_)
  simp -implicitDefEqProofs -dsimp only [go_sem, seval]
  refine q0r _ (fun _ => .inr (.inl rfl)) ⟨rfl, g, x, y, w, ?_⟩
  rw [qrr]; exact ho3
 ·have ho2 := ho.read (K4 1 s).2
  have ho3 := ho2.set { l with fl := decide ((K4 1 s).1 = 1) }
  have hr : (rT T rid (K4 1 s).2) lid = .row 26 (lq g l x y w) := ho2.row
  simp -implicitDefEqProofs -dsimp only [go_sem, seval, decide_true, decide_false, ↓J0 _ _ q5a]
  refine can (qrc ho.rd hl) ?_
  simp -implicitDefEqProofs -dsimp only [go_sem, seval]
  refine q2m hr rfl rfl (by rw [q7n]; decide) (J1 ?_)
  simp -implicitDefEqProofs -dsimp only [go_sem, seval]
  refine q0r _ (fun _ => .inr (.inl rfl)) ⟨rfl, g, x, y, w, ?_⟩
  rw [qrs]; exact ho3
 ·have ho2 := ho.read (qom s).2
  have ho3 := ho2.set { l with br := (qom s).1.1, bn := (qom s).1.2 }
  have hr : (rT T rid (qom s).2) lid = .row 26 (lq g l x y w) := ho2.row
  simp -implicitDefEqProofs -dsimp only [go_sem, seval, decide_true, decide_false, ↓J0 _ _ qjy]
  refine can (qxf ho.rd hl) ?_
  simp -implicitDefEqProofs -dsimp only [go_sem, seval]
  refine q2m hr rfl rfl (by rw [q7n]; decide) (J1 ?_)
  simp -implicitDefEqProofs -dsimp only [go_sem, seval]
  refine q0r _ (fun _ => .inr (.inl rfl)) ⟨rfl, g, x, y, w, ?_⟩
  rw [qxg]; exact ho3
 ·simp -implicitDefEqProofs -dsimp only [go_sem, seval, decide_true, decide_false, ↓J0 _ _ q4q]
  refine CallK.of (qj3 ho 118 (.inl rfl) hl hb) fun v T' hq => J1 ?_
  simp -implicitDefEqProofs -dsimp only [go_sem, seval]
  exact q0r _ (fun _ => .inr (.inl rfl)) ⟨rfl, hq.2⟩
 ·simp -implicitDefEqProofs -dsimp only [go_sem, seval, decide_true, decide_false, ↓J0 _ _ q4q]
  refine CallK.of (qj3 ho 99 (.inr (.inl rfl)) hl hb) fun v T' hq => J1 ?_
  simp -implicitDefEqProofs -dsimp only [go_sem, seval]
  exact q0r _ (fun _ => .inr (.inl rfl)) ⟨rfl, hq.2⟩
 ·simp -implicitDefEqProofs -dsimp only [go_sem, seval, decide_true, decide_false, ↓J0 _ _ q4q]
  refine CallK.of (qj3 ho 108 (.inr (.inr rfl)) hl hb) fun v T' hq => J1 ?_
  simp -implicitDefEqProofs -dsimp only [go_sem, seval]
  exact q0r _ (fun _ => .inr (.inl rfl)) ⟨rfl, hq.2⟩
 ·have ho2 := ho.read (rTx s).2
  have ho3 := ho2.setg none { l with t := (q3y s).1 }
  have hr : (rT T rid (rTx s).2) lid = .row 26 (lq g l x y w) := ho2.row
  have hq := qz2 ho.rd hl
  generalize hE : (q3y s).1 = E at *
  simp -implicitDefEqProofs -dsimp only [go_sem, seval, decide_true, decide_false, ↓J0 _ _ qnu]
  refine can hq ?_
  simp -implicitDefEqProofs -dsimp only [go_sem, seval]
  refine q2m (y := .agg (E.cells none none)) hr rfl rfl (by rw [q7n]; decide) (J1 ?_)
  rw [show AV.cells (.agg (E.cells none none)) = E.cells none none from rfl, zgx]
  simp -implicitDefEqProofs -dsimp only [go_sem, seval]
  refine q0r _ (fun _ => .inr (.inl rfl)) ⟨rfl, none, x, y, w, ?_⟩
  rw [qrv, hE]; exact ho3
 ·have ho2 := ho.read (K4 5 s).2
  have ho3 := ho2.set { l with cl := (K4 5 s).1 }
  have ho4 := ho3.read (rID s).2
  have ho5 := ho4.set { l with cl := (K4 5 s).1, sq := (rID s).1.2 }
  have hr : (rT T rid (K4 5 s).2) lid = .row 26 (lq g l x y w) := ho2.row
  have hr4 := ho4.row
  simp -implicitDefEqProofs -dsimp only [go_sem, seval, decide_true, decide_false, ↓J0 _ _ N3]
  refine can (q5l ho.rd 5 (by decide) hl) ?_
  simp -implicitDefEqProofs -dsimp only [go_sem, seval]
  refine q2m hr rfl rfl (by rw [q7n]; decide) (J1 ?_)
  simp -implicitDefEqProofs -dsimp only [go_sem, seval, ↓J0 _ _ q1a]
  refine can (z6e ho3.rd (q1l (Q8 _ _) hl)) ?_
  simp -implicitDefEqProofs -dsimp only [go_sem, seval]
  refine q2m hr4 rfl rfl (by rw [q7n]; decide) (J1 ?_)
  simp -implicitDefEqProofs -dsimp only [go_sem, seval]
  refine q0r _ (fun _ => .inr (.inl rfl)) ⟨rfl, g, x, y, w, ?_⟩
  rw [qrw]; exact ho5
 ·have ho2 := ho.read (q2u 64 s).2
  have ho3 := ho2.set { l with v := (q2u 64 s).1 }
  have hr : (rT T rid (q2u 64 s).2) lid = .row 26 (lq g l x y w) := ho2.row
  simp -implicitDefEqProofs -dsimp only [go_sem, seval, decide_true, decide_false, ↓J0 _ _ q1k]
  refine can (qkw ho.rd 64 (by decide) hl) ?_
  simp -implicitDefEqProofs -dsimp only [go_sem, seval]
  refine q2m hr rfl rfl (by rw [q7n]; decide) (J1 ?_)
  simp -implicitDefEqProofs -dsimp only [go_sem, seval]
  refine q0r _ (fun _ => .inr (.inl rfl)) ⟨rfl, g, x, y, w, ?_⟩
  rw [qrx]; exact ho3
 ·have ho2 := ho.read (K4 18446744073709551615 s).2
  have ho3 := ho2.set { l with q := (K4 18446744073709551615 s).1 }
  have hr : (rT T rid (K4 18446744073709551615 s).2) lid = .row 26 (lq g l x y w) := ho2.row
  simp -implicitDefEqProofs -dsimp only [go_sem, seval, decide_true, decide_false, ↓J0 _ _ q1a]
  refine can (z6e ho.rd hl) ?_
  simp -implicitDefEqProofs -dsimp only [go_sem, seval]
  refine q2m hr rfl rfl (by rw [q7n]; decide) (J1 ?_)
  simp -implicitDefEqProofs -dsimp only [go_sem, seval]
  refine q0r _ (fun _ => .inr (.inl rfl)) ⟨rfl, g, x, y, w, ?_⟩
  rw [qry]; exact ho3
 ·have ho2 := ho.read (K4 99 s).2
  have ho3 := ho2.set { l with co := (K4 99 s).1 }
  have hr : (rT T rid (K4 99 s).2) lid = .row 26 (lq g l x y w) := ho2.row
  simp -implicitDefEqProofs -dsimp only [go_sem, seval, decide_true, decide_false, ↓J0 _ _ N3]
  refine can (q5l ho.rd 99 (by decide) hl) ?_
  simp -implicitDefEqProofs -dsimp only [go_sem, seval]
  refine q2m hr rfl rfl (by rw [q7n]; decide) (J1 ?_)
  simp -implicitDefEqProofs -dsimp only [go_sem, seval]
  refine q0r _ (fun _ => .inr (.inl rfl)) ⟨rfl, g, x, y, w, ?_⟩
  rw [qrz]; exact ho3
end Go.Aw
