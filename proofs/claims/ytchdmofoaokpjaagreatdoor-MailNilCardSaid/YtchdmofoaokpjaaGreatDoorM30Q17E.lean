import Derived.Test.YtchdmofoaokpjaaGreatDoorM30Q17D
namespace Go.Aw
open Go
open Go.Proofs.Tryz (prog)
set_option linter.all false
set_option maxHeartbeats 8000000
set_option maxRecDepth 8000
def LtQ (B : Tab) (lid rid : Nat) (p : Lt Cf × RS) (v : AV) (T : Tab) : Prop := v = .tup [] /\ ∃ g x y w, LtA g B lid rid p.1 p.2 x y w T
theorem qfk {g : Option Nat} {B : Tab} {lid rid : Nat} {l : Lt Cf} {s : RS} {x y w : AV} {T : Tab} (ho : LtA g B lid rid l s x y w T) (c : Int) (hc : c = 118 \/ c = 99 \/ c = 108) (hl : Len s.1.length) (hb : z0h l c) :
  ACalls prog q1a [.ptr lid 0, .ptr rid 0, .i .u8 c] T (LtQ B lid rid (rdS l c s)) := by
 refine U7 Q9 qa9 (by simp) ?_
 unfold q66
 obtain ⟨b1, b2, b3⟩ := hb
 rcases hc with rfl | rfl | rfl
 ·have hm := q21 400 s
  simp -implicitDefEqProofs -dsimp only [go_sem, seval, decide_true, decide_false, ↓J0 _ _ N1]
  refine can (q40 ho.rd 400 (by decide) hl) ?_
  simp -implicitDefEqProofs -dsimp only [go_sem, seval]
  refine z64 (g := g) (B := B) (lid := lid) (rid := rid) (by repeat' (first | exact O7 _ _ | assumption | apply O6 | apply N6 | apply Y1)) (K3 400 s).1 (K3 400 s).2 l x y w _ hm (by rw [b1 rfl]; simp only [List.length_nil]; omega) (q10 (O5 _ _) hl) (ho.read _) (fun x T1 m ho => ?_)
  simp -implicitDefEqProofs -dsimp only [go_sem, seval]
  refine Y8 _ (fun _ => .inr (.inl rfl)) ⟨rfl, g, x, y, w, ?_⟩
  rw [qlk]; exact ho
 ·have hm := q21 4 s
  simp -implicitDefEqProofs -dsimp only [go_sem, seval, decide_true, decide_false, ↓J0 _ _ N1]
  refine can (q40 ho.rd 4 (by decide) hl) ?_
  simp -implicitDefEqProofs -dsimp only [go_sem, seval]
  refine z65 (g := g) (B := B) (lid := lid) (rid := rid) (by repeat' (first | exact O7 _ _ | assumption | apply O6 | apply N6 | apply Y1)) (K3 4 s).1 (K3 4 s).2 l x y w _ (by omega) (by rw [b2 rfl]; simp only [List.length_nil]; omega) (q10 (O5 _ _) hl) (ho.read _) (fun y T1 m ho => ?_)
  simp -implicitDefEqProofs -dsimp only [go_sem, seval]
  refine Y8 _ (fun _ => .inr (.inl rfl)) ⟨rfl, g, x, y, w, ?_⟩
  rw [qr7]; exact ho
 ·have hm := q21 8 s
  simp -implicitDefEqProofs -dsimp only [go_sem, seval, decide_true, decide_false, ↓J0 _ _ N1]
  refine can (q40 ho.rd 8 (by decide) hl) ?_
  simp -implicitDefEqProofs -dsimp only [go_sem, seval]
  refine z66 (g := g) (B := B) (lid := lid) (rid := rid) (by repeat' (first | exact O7 _ _ | assumption | apply O6 | apply N6 | apply Y1)) (K3 8 s).1 (K3 8 s).2 l x y w _ (by omega) (by rw [b3 rfl]; simp only [List.length_nil]; omega) (q10 (O5 _ _) hl) (ho.read _) (fun w T1 m ho => ?_)
  simp -implicitDefEqProofs -dsimp only [go_sem, seval]
  refine Y8 _ (fun _ => .inr (.inl rfl)) ⟨rfl, g, x, y, w, ?_⟩
  rw [qll]; exact ho
theorem qwg {T : Tab} {id : Nat} {s : RS} (h : T id = q5y s) (hl : Len s.1.length) : ACalls prog q6g [.ptr id 0] T (fun v T' => v = .tup [.agg ((q23 s).1.cells none none), .b (qjd s)] /\ T' = rT T id (rTx s).2) := by
 refine U7 Q9 qkk (by simp) ?_
 have c := qnc h hl
 simp only [Tx.cells] at c
 unfold qcg
 simp -implicitDefEqProofs -dsimp only [go_sem, seval, ↓J0 _ _ qcn]
 refine can c ?_
 rcases hk : qjd s with _ | _
 ·have e : (q23 s).2 = q4z [116, 120, 110] (qla 3) := by simp [q23, hk]
  simp -implicitDefEqProofs -dsimp only [go_sem, seval, e, q4z, qmm]
  exact J9 rfl
 ·have e : (q23 s).2 = .nilifc := by simp [q23, hk]
  simp -implicitDefEqProofs -dsimp only [go_sem, seval, e, qmm]
  exact J9 rfl
theorem ze7 (g : Option Nat) (l : Lt Cf) (x y w : AV) (t : Tx) : q0a (lq g l x y w) 16 (t.cells none none) = lq none { l with t := t } x y w := rfl
attribute [go_sem] ze7
theorem z2s {g : Option Nat} {B : Tab} {lid rid : Nat} {l : Lt Cf} {s : RS} {x y w : AV} {T : Tab} (ho : LtA g B lid rid l s x y w T) (c : Int) (hc : Sg c) (hl : Len s.1.length) (hb : z0h l c) :
  ACalls prog q2u [.ptr lid 0, .ptr rid 0, .i .u8 c] T (LtQ B lid rid (rdS l c s)) := by
 refine U7 Q9 qdr (by simp) ?_
 unfold q7x
 rcases hc with rfl | rfl | rfl | rfl | rfl | rfl | rfl | rfl | rfl | rfl | rfl | rfl | rfl | rfl | rfl
 ·have ho2 := ho.read (K3 3 s).2
  have ho3 := ho2.set { l with sh := (K3 3 s).1 }
  have hr : (rT T rid (K3 3 s).2) lid = .row 26 (lq g l x y w) := ho2.row
  simp -implicitDefEqProofs -dsimp only [go_sem, seval, decide_true, decide_false, ↓J0 _ _ N1]
  refine can (q40 ho.rd 3 (by decide) hl) ?_
  simp -implicitDefEqProofs -dsimp only [go_sem, seval]
  refine q16 hr rfl rfl (by rw [q5j]; decide) (J1 ?_)
  simp -implicitDefEqProofs -dsimp only [go_sem, seval]
  refine Y8 _ (fun _ => .inr (.inl rfl)) ⟨rfl, g, x, y, w, ?_⟩
  rw [qle]; exact ho3
 ·have ho2 := ho.read (K3 18446744073709551615 s).2
  have ho3 := ho2.set { l with ep := (K3 18446744073709551615 s).1 }
  have hr : (rT T rid (K3 18446744073709551615 s).2) lid = .row 26 (lq g l x y w) := ho2.row
  simp -implicitDefEqProofs -dsimp only [go_sem, seval, decide_true, decide_false, ↓J0 _ _ q0q]
  refine can (z3d ho.rd hl) ?_
  simp -implicitDefEqProofs -dsimp only [go_sem, seval]
  refine q16 hr rfl rfl (by rw [q5j]; decide) (J1 ?_)
  simp -implicitDefEqProofs -dsimp only [go_sem, seval]
  refine Y8 _ (fun _ => .inr (.inl rfl)) ⟨rfl, g, x, y, w, ?_⟩
  rw [qlf]; exact ho3
 ·have ho2 := ho.read (K3 1048576 s).2
  have ho3 := ho2.set { l with n := (K3 1048576 s).1 }
  have hr : (rT T rid (K3 1048576 s).2) lid = .row 26 (lq g l x y w) := ho2.row
  simp -implicitDefEqProofs -dsimp only [go_sem, seval, decide_true, decide_false, ↓J0 _ _ N1]
  refine can (q40 ho.rd 1048576 (by decide) hl) ?_
  simp -implicitDefEqProofs -dsimp only [go_sem, seval]
  refine q16 hr rfl rfl (by rw [q5j]; decide) (J1 ?_)
  simp -implicitDefEqProofs -dsimp only [go_sem, seval]
  refine Y8 _ (fun _ => .inr (.inl rfl)) ⟨rfl, g, x, y, w, ?_⟩
  rw [qlg]; exact ho3
 ·have ho2 := ho.read (K3 1048576 s).2
  have ho3 := ho2.set { l with m := (K3 1048576 s).1 }
  have hr : (rT T rid (K3 1048576 s).2) lid = .row 26 (lq g l x y w) := ho2.row
  simp -implicitDefEqProofs -dsimp only [go_sem, seval, decide_true, decide_false, ↓J0 _ _ N1]
  refine can (q40 ho.rd 1048576 (by decide) hl) ?_
  simp -implicitDefEqProofs -dsimp only [go_sem, seval]
  refine q16 hr rfl rfl (by rw [q5j]; decide) (J1 ?_)
  simp -implicitDefEqProofs -dsimp only [go_sem, seval]
  refine Y8 _ (fun _ => .inr (.inl rfl)) ⟨rfl, g, x, y, w, ?_⟩
  rw [qlh]; exact ho3
 ·have ho2 := ho.read (K3 7 s).2
  have ho3 := ho2.set { l with nd := (K3 7 s).1 }
  have hr : (rT T rid (K3 7 s).2) lid = .row 26 (lq g l x y w) := ho2.row
  simp -implicitDefEqProofs -dsimp only [go_sem, seval, decide_true, decide_false, ↓J0 _ _ N1]
  refine can (q40 ho.rd 7 (by decide) hl) ?_
  simp -implicitDefEqProofs -dsimp only [go_sem, seval]
  refine q16 hr rfl rfl (by rw [q5j]; decide) (J1 ?_)
  simp -implicitDefEqProofs -dsimp only [go_sem, seval]
  refine Y8 _ (fun _ => .inr (.inl rfl)) ⟨rfl, g, x, y, w, ?_⟩
  rw [qli]; exact ho3
 ·have ho2 := ho.read (K3 1 s).2
  have ho3 := ho2.set { l with fl := decide ((K3 1 s).1 = 1) }
  have hr : (rT T rid (K3 1 s).2) lid = .row 26 (lq g l x y w) := ho2.row
  simp -implicitDefEqProofs -dsimp only [go_sem, seval, decide_true, decide_false, ↓J0 _ _ q3q]
  refine can (qop ho.rd hl) ?_
  simp -implicitDefEqProofs -dsimp only [go_sem, seval]
  refine q16 hr rfl rfl (by rw [q5j]; decide) (J1 ?_)
  simp -implicitDefEqProofs -dsimp only [go_sem, seval]
  refine Y8 _ (fun _ => .inr (.inl rfl)) ⟨rfl, g, x, y, w, ?_⟩
  rw [qlj]; exact ho3
 ·have ho2 := ho.read (qje s).2
  have ho3 := ho2.set { l with br := (qje s).1.1, bn := (qje s).1.2 }
  have hr : (rT T rid (qje s).2) lid = .row 26 (lq g l x y w) := ho2.row
  simp -implicitDefEqProofs -dsimp only [go_sem, seval, decide_true, decide_false, ↓J0 _ _ qge]
  refine can (quq ho.rd hl) ?_
  simp -implicitDefEqProofs -dsimp only [go_sem, seval]
  refine q16 hr rfl rfl (by rw [q5j]; decide) (J1 ?_)
  simp -implicitDefEqProofs -dsimp only [go_sem, seval]
  refine Y8 _ (fun _ => .inr (.inl rfl)) ⟨rfl, g, x, y, w, ?_⟩
  rw [qr6]; exact ho3
 ·simp -implicitDefEqProofs -dsimp only [go_sem, seval, decide_true, decide_false, ↓J0 _ _ q39]
  refine CallK.of (qfk ho 118 (.inl rfl) hl hb) fun v T' hq => J1 ?_
  simp -implicitDefEqProofs -dsimp only [go_sem, seval]
  exact Y8 _ (fun _ => .inr (.inl rfl)) ⟨rfl, hq.2⟩
 ·simp -implicitDefEqProofs -dsimp only [go_sem, seval, decide_true, decide_false, ↓J0 _ _ q39]
  refine CallK.of (qfk ho 99 (.inr (.inl rfl)) hl hb) fun v T' hq => J1 ?_
  simp -implicitDefEqProofs -dsimp only [go_sem, seval]
  exact Y8 _ (fun _ => .inr (.inl rfl)) ⟨rfl, hq.2⟩
 ·simp -implicitDefEqProofs -dsimp only [go_sem, seval, decide_true, decide_false, ↓J0 _ _ q39]
  refine CallK.of (qfk ho 108 (.inr (.inr rfl)) hl hb) fun v T' hq => J1 ?_
  simp -implicitDefEqProofs -dsimp only [go_sem, seval]
  exact Y8 _ (fun _ => .inr (.inl rfl)) ⟨rfl, hq.2⟩
 ·have ho2 := ho.read (rTx s).2
  have ho3 := ho2.setg none { l with t := (q23 s).1 }
  have hr : (rT T rid (rTx s).2) lid = .row 26 (lq g l x y w) := ho2.row
  have hq := qwg ho.rd hl
  generalize hE : (q23 s).1 = E at *
  simp -implicitDefEqProofs -dsimp only [go_sem, seval, decide_true, decide_false, ↓J0 _ _ qkl]
  refine can hq ?_
  simp -implicitDefEqProofs -dsimp only [go_sem, seval]
  refine q16 (y := .agg (E.cells none none)) hr rfl rfl (by rw [q5j]; decide) (J1 ?_)
  rw [show AV.cells (.agg (E.cells none none)) = E.cells none none from rfl, ze7]
  simp -implicitDefEqProofs -dsimp only [go_sem, seval]
  refine Y8 _ (fun _ => .inr (.inl rfl)) ⟨rfl, none, x, y, w, ?_⟩
  rw [qlm, hE]; exact ho3
 ·have ho2 := ho.read (K3 5 s).2
  have ho3 := ho2.set { l with cl := (K3 5 s).1 }
  have ho4 := ho3.read (rID s).2
  have ho5 := ho4.set { l with cl := (K3 5 s).1, sq := (rID s).1.2 }
  have hr : (rT T rid (K3 5 s).2) lid = .row 26 (lq g l x y w) := ho2.row
  have hr4 := ho4.row
  simp -implicitDefEqProofs -dsimp only [go_sem, seval, decide_true, decide_false, ↓J0 _ _ N1]
  refine can (q40 ho.rd 5 (by decide) hl) ?_
  simp -implicitDefEqProofs -dsimp only [go_sem, seval]
  refine q16 hr rfl rfl (by rw [q5j]; decide) (J1 ?_)
  simp -implicitDefEqProofs -dsimp only [go_sem, seval, ↓J0 _ _ q0q]
  refine can (z3d ho3.rd (q10 (O5 _ _) hl)) ?_
  simp -implicitDefEqProofs -dsimp only [go_sem, seval]
  refine q16 hr4 rfl rfl (by rw [q5j]; decide) (J1 ?_)
  simp -implicitDefEqProofs -dsimp only [go_sem, seval]
  refine Y8 _ (fun _ => .inr (.inl rfl)) ⟨rfl, g, x, y, w, ?_⟩
  rw [qln]; exact ho5
 ·have ho2 := ho.read (q1o 64 s).2
  have ho3 := ho2.set { l with v := (q1o 64 s).1 }
  have hr : (rT T rid (q1o 64 s).2) lid = .row 26 (lq g l x y w) := ho2.row
  simp -implicitDefEqProofs -dsimp only [go_sem, seval, decide_true, decide_false, ↓J0 _ _ q0z]
  refine can (qhl ho.rd 64 (by decide) hl) ?_
  simp -implicitDefEqProofs -dsimp only [go_sem, seval]
  refine q16 hr rfl rfl (by rw [q5j]; decide) (J1 ?_)
  simp -implicitDefEqProofs -dsimp only [go_sem, seval]
  refine Y8 _ (fun _ => .inr (.inl rfl)) ⟨rfl, g, x, y, w, ?_⟩
  rw [qlo]; exact ho3
 ·have ho2 := ho.read (K3 18446744073709551615 s).2
  have ho3 := ho2.set { l with q := (K3 18446744073709551615 s).1 }
  have hr : (rT T rid (K3 18446744073709551615 s).2) lid = .row 26 (lq g l x y w) := ho2.row
  simp -implicitDefEqProofs -dsimp only [go_sem, seval, decide_true, decide_false, ↓J0 _ _ q0q]
  refine can (z3d ho.rd hl) ?_
  simp -implicitDefEqProofs -dsimp only [go_sem, seval]
  refine q16 hr rfl rfl (by rw [q5j]; decide) (J1 ?_)
  simp -implicitDefEqProofs -dsimp only [go_sem, seval]
  refine Y8 _ (fun _ => .inr (.inl rfl)) ⟨rfl, g, x, y, w, ?_⟩
  rw [qlp]; exact ho3
 ·have ho2 := ho.read (K3 99 s).2
  have ho3 := ho2.set { l with co := (K3 99 s).1 }
  have hr : (rT T rid (K3 99 s).2) lid = .row 26 (lq g l x y w) := ho2.row
  simp -implicitDefEqProofs -dsimp only [go_sem, seval, decide_true, decide_false, ↓J0 _ _ N1]
  refine can (q40 ho.rd 99 (by decide) hl) ?_
  simp -implicitDefEqProofs -dsimp only [go_sem, seval]
  refine q16 hr rfl rfl (by rw [q5j]; decide) (J1 ?_)
  simp -implicitDefEqProofs -dsimp only [go_sem, seval]
  refine Y8 _ (fun _ => .inr (.inl rfl)) ⟨rfl, g, x, y, w, ?_⟩
  rw [qlq]; exact ho3
end Go.Aw
