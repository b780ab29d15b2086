import Derived.Test.YteiamcnjlpbihaaGreatDoorQ17D
namespace Go.Aw
open Go
open Go.Proofs.Tryz (prog)
set_option linter.all false
set_option maxHeartbeats 8000000
set_option maxRecDepth 8000
def LtQ (B : Tab) (lid rid : Nat) (p : Lt Cf × RS) (v : AV) (T : Tab) : Prop := v = .tup [] /\ ∃ g x y w, LtA g B lid rid p.1 p.2 x y w T
theorem qmp {g : Option Nat} {B : Tab} {lid rid : Nat} {l : Lt Cf} {s : RS} {x y w : AV} {T : Tab} (ho : LtA g B lid rid l s x y w T) (c : Int) (hc : c = 118 \/ c = 99 \/ c = 108) (hl : Len s.1.length) (hb : z8e l c) :
  ACalls prog q2i [.ptr lid 0, .ptr rid 0, .i .u8 c] T (LtQ B lid rid (rdS l c s)) := by
 refine Z3 U4 qfm (by simp) ?_
 unfold q9z
 obtain ⟨b1, b2, b3⟩ := hb
 rcases hc with rfl | rfl | rfl
 ·have hm := q3c 400 s
  simp -implicitDefEqProofs -dsimp only [go_sem, seval, decide_true, decide_false, ↓J0 _ _ O1]
  refine can (q6h ho.rd 400 (by decide) hl) ?_
  simp -implicitDefEqProofs -dsimp only [go_sem, seval]
  refine ze3 (g := g) (B := B) (lid := lid) (rid := rid) (by repeat' (first | exact N2 _ _ | assumption | apply N1 | apply K8 | apply Q6)) (K4 400 s).1 (K4 400 s).2 l x y w _ hm (by rw [b1 rfl]; simp only [List.length_nil]; omega) (q23 (U3 _ _) hl) (ho.read _) (fun x T1 m ho => ?_)
  simp -implicitDefEqProofs -dsimp only [go_sem, seval]
  refine q12 _ (fun _ => .inr (.inl rfl)) ⟨rfl, g, x, y, w, ?_⟩
  rw [qt8]; exact ho
 ·have hm := q3c 4 s
  simp -implicitDefEqProofs -dsimp only [go_sem, seval, decide_true, decide_false, ↓J0 _ _ O1]
  refine can (q6h ho.rd 4 (by decide) hl) ?_
  simp -implicitDefEqProofs -dsimp only [go_sem, seval]
  refine ze4 (g := g) (B := B) (lid := lid) (rid := rid) (by repeat' (first | exact N2 _ _ | assumption | apply N1 | apply K8 | apply Q6)) (K4 4 s).1 (K4 4 s).2 l x y w _ (by omega) (by rw [b2 rfl]; simp only [List.length_nil]; omega) (q23 (U3 _ _) hl) (ho.read _) (fun y T1 m ho => ?_)
  simp -implicitDefEqProofs -dsimp only [go_sem, seval]
  refine q12 _ (fun _ => .inr (.inl rfl)) ⟨rfl, g, x, y, w, ?_⟩
  rw [qz2]; exact ho
 ·have hm := q3c 8 s
  simp -implicitDefEqProofs -dsimp only [go_sem, seval, decide_true, decide_false, ↓J0 _ _ O1]
  refine can (q6h ho.rd 8 (by decide) hl) ?_
  simp -implicitDefEqProofs -dsimp only [go_sem, seval]
  refine ze5 (g := g) (B := B) (lid := lid) (rid := rid) (by repeat' (first | exact N2 _ _ | assumption | apply N1 | apply K8 | apply Q6)) (K4 8 s).1 (K4 8 s).2 l x y w _ (by omega) (by rw [b3 rfl]; simp only [List.length_nil]; omega) (q23 (U3 _ _) hl) (ho.read _) (fun w T1 m ho => ?_)
  simp -implicitDefEqProofs -dsimp only [go_sem, seval]
  refine q12 _ (fun _ => .inr (.inl rfl)) ⟨rfl, g, x, y, w, ?_⟩
  rw [qt9]; exact ho
theorem z4a {T : Tab} {id : Nat} {s : RS} (h : T id = q9n s) (hl : Len s.1.length) : ACalls prog qae [.ptr id 0] T (fun v T' => v = .tup [.agg ((q3e s).1.cells none none), .b (qqx s)] /\ T' = rT T id (rTx s).2) := by
 refine Z3 U4 qs7 (by simp) ?_
 have c := quu h hl
 simp only [Tx.cells] at c
 unfold qic
 simp -implicitDefEqProofs -dsimp only [go_sem, seval, ↓J0 _ _ qij]
 refine can c ?_
 rcases hk : qqx s with _ | _
 ·have e : (q3e s).2 = q8f [116, 120, 110] (qsx 3) := by simp [q3e, hk]
  simp -implicitDefEqProofs -dsimp only [go_sem, seval, e, q8f, qu4]
  exact J9 rfl
 ·have e : (q3e s).2 = .nilifc := by simp [q3e, hk]
  simp -implicitDefEqProofs -dsimp only [go_sem, seval, e, qu4]
  exact J9 rfl
theorem zmr (g : Option Nat) (l : Lt Cf) (x y w : AV) (t : Tx) : q31 (lq g l x y w) 16 (t.cells none none) = lq none { l with t := t } x y w := rfl
attribute [go_sem] zmr
theorem zaj {g : Option Nat} {B : Tab} {lid rid : Nat} {l : Lt Cf} {s : RS} {x y w : AV} {T : Tab} (ho : LtA g B lid rid l s x y w T) (c : Int) (hc : Sg c) (hl : Len s.1.length) (hb : z8e l c) :
  ACalls prog q4s [.ptr lid 0, .ptr rid 0, .i .u8 c] T (LtQ B lid rid (rdS l c s)) := by
 refine Z3 U4 qkb (by simp) ?_
 unfold qcc
 rcases hc with rfl | rfl | rfl | rfl | rfl | rfl | rfl | rfl | rfl | rfl | rfl | rfl | rfl | rfl | rfl
 ·have ho2 := ho.read (K4 3 s).2
  have ho3 := ho2.set { l with sh := (K4 3 s).1 }
  have hr : (rT T rid (K4 3 s).2) lid = .row 26 (lq g l x y w) := ho2.row
  simp -implicitDefEqProofs -dsimp only [go_sem, seval, decide_true, decide_false, ↓J0 _ _ O1]
  refine can (q6h ho.rd 3 (by decide) hl) ?_
  simp -implicitDefEqProofs -dsimp only [go_sem, seval]
  refine q39 hr rfl rfl (by rw [q99]; decide) (J1 ?_)
  simp -implicitDefEqProofs -dsimp only [go_sem, seval]
  refine q12 _ (fun _ => .inr (.inl rfl)) ⟨rfl, g, x, y, w, ?_⟩
  rw [qt2]; exact ho3
 ·have ho2 := ho.read (K4 18446744073709551615 s).2
  have ho3 := ho2.set { l with ep := (K4 18446744073709551615 s).1 }
  have hr : (rT T rid (K4 18446744073709551615 s).2) lid = .row 26 (lq g l x y w) := ho2.row
  simp -implicitDefEqProofs -dsimp only [go_sem, seval, decide_true, decide_false, ↓J0 _ _ q1l]
  refine can (zba ho.rd hl) ?_
  simp -implicitDefEqProofs -dsimp only [go_sem, seval]
  refine q39 hr rfl rfl (by rw [q99]; decide) (J1 ?_)
  simp -implicitDefEqProofs -dsimp only [go_sem, seval]
  refine q12 _ (fun _ => .inr (.inl rfl)) ⟨rfl, g, x, y, w, ?_⟩
  rw [qt3]; exact ho3
 ·have ho2 := ho.read (K4 1048576 s).2
  have ho3 := ho2.set { l with n := (K4 1048576 s).1 }
  have hr : (rT T rid (K4 1048576 s).2) lid = .row 26 (lq g l x y w) := ho2.row
  simp -implicitDefEqProofs -dsimp only [go_sem, seval, decide_true, decide_false, ↓J0 _ _ O1]
  refine can (q6h ho.rd 1048576 (by decide) hl) ?_
  simp -implicitDefEqProofs -dsimp only [go_sem, seval]
  refine q39 hr rfl rfl (by rw [q99]; decide) (J1 ?_)
  simp -implicitDefEqProofs -dsimp only [go_sem, seval]
  refine q12 _ (fun _ => .inr (.inl rfl)) ⟨rfl, g, x, y, w, ?_⟩
  rw [qt4]; exact ho3
 ·have ho2 := ho.read (K4 1048576 s).2
  have ho3 := ho2.set { l with m := (K4 1048576 s).1 }
  have hr : (rT T rid (K4 1048576 s).2) lid = .row 26 (lq g l x y w) := ho2.row
  simp -implicitDefEqProofs -dsimp only [go_sem, seval, decide_true, decide_false, ↓J0 _ _ O1]
  refine can (q6h ho.rd 1048576 (by decide) hl) ?_
  simp -implicitDefEqProofs -dsimp only [go_sem, seval]
  refine q39 hr rfl rfl (by rw [q99]; decide) (J1 ?_)
  simp -implicitDefEqProofs -dsimp only [go_sem, seval]
  refine q12 _ (fun _ => .inr (.inl rfl)) ⟨rfl, g, x, y, w, ?_⟩
  rw [qt5]; exact ho3
 ·have ho2 := ho.read (K4 7 s).2
  have ho3 := ho2.set { l with nd := (K4 7 s).1 }
  have hr : (rT T rid (K4 7 s).2) lid = .row 26 (lq g l x y w) := ho2.row
  simp -implicitDefEqProofs -dsimp only [go_sem, seval, decide_true, decide_false, ↓J0 _ _ O1]
  refine can (q6h ho.rd 7 (by decide) hl) ?_
  simp -implicitDefEqProofs -dsimp only [go_sem, seval]
  refine q39 hr rfl rfl (by rw [q99]; decide) (J1 ?_)
  simp -implicitDefEqProofs -dsimp only [go_sem, seval]
  refine q12 _ (fun _ => .inr (.inl rfl)) ⟨rfl, g, x, y, w, ?_⟩
  rw [qt6]; exact ho3
 ·have ho2 := ho.read (K4 1 s).2
  have ho3 := ho2.set { l with fl := decide ((K4 1 s).1 = 1) }
  have hr : (rT T rid (K4 1 s).2) lid = .row 26 (lq g l x y w) := ho2.row
  simp -implicitDefEqProofs -dsimp only [go_sem, seval, decide_true, decide_false, ↓J0 _ _ q64]
  refine can (qw3 ho.rd hl) ?_
  simp -implicitDefEqProofs -dsimp only [go_sem, seval]
  refine q39 hr rfl rfl (by rw [q99]; decide) (J1 ?_)
  simp -implicitDefEqProofs -dsimp only [go_sem, seval]
  refine q12 _ (fun _ => .inr (.inl rfl)) ⟨rfl, g, x, y, w, ?_⟩
  rw [qt7]; exact ho3
 ·have ho2 := ho.read (qqz s).2
  have ho3 := ho2.set { l with br := (qqz s).1.1, bn := (qqz s).1.2 }
  have hr : (rT T rid (qqz s).2) lid = .row 26 (lq g l x y w) := ho2.row
  simp -implicitDefEqProofs -dsimp only [go_sem, seval, decide_true, decide_false, ↓J0 _ _ qo5]
  refine can (z2q ho.rd hl) ?_
  simp -implicitDefEqProofs -dsimp only [go_sem, seval]
  refine q39 hr rfl rfl (by rw [q99]; decide) (J1 ?_)
  simp -implicitDefEqProofs -dsimp only [go_sem, seval]
  refine q12 _ (fun _ => .inr (.inl rfl)) ⟨rfl, g, x, y, w, ?_⟩
  rw [qz1]; exact ho3
 ·simp -implicitDefEqProofs -dsimp only [go_sem, seval, decide_true, decide_false, ↓J0 _ _ q5c]
  refine CallK.of (qmp ho 118 (.inl rfl) hl hb) fun v T' hq => J1 ?_
  simp -implicitDefEqProofs -dsimp only [go_sem, seval]
  exact q12 _ (fun _ => .inr (.inl rfl)) ⟨rfl, hq.2⟩
 ·simp -implicitDefEqProofs -dsimp only [go_sem, seval, decide_true, decide_false, ↓J0 _ _ q5c]
  refine CallK.of (qmp ho 99 (.inr (.inl rfl)) hl hb) fun v T' hq => J1 ?_
  simp -implicitDefEqProofs -dsimp only [go_sem, seval]
  exact q12 _ (fun _ => .inr (.inl rfl)) ⟨rfl, hq.2⟩
 ·simp -implicitDefEqProofs -dsimp only [go_sem, seval, decide_true, decide_false, ↓J0 _ _ q5c]
  refine CallK.of (qmp ho 108 (.inr (.inr rfl)) hl hb) fun v T' hq => J1 ?_
  simp -implicitDefEqProofs -dsimp only [go_sem, seval]
  exact q12 _ (fun _ => .inr (.inl rfl)) ⟨rfl, hq.2⟩
 ·have ho2 := ho.read (rTx s).2
  have ho3 := ho2.setg none { l with t := (q3e s).1 }
  have hr : (rT T rid (rTx s).2) lid = .row 26 (lq g l x y w) := ho2.row
  have hq := z4a ho.rd hl
  generalize hE : (q3e s).1 = E at *
  simp -implicitDefEqProofs -dsimp only [go_sem, seval, decide_true, decide_false, ↓J0 _ _ qs8]
  refine can hq ?_
  simp -implicitDefEqProofs -dsimp only [go_sem, seval]
  refine q39 (y := .agg (E.cells none none)) hr rfl rfl (by rw [q99]; decide) (J1 ?_)
  rw [show AV.cells (.agg (E.cells none none)) = E.cells none none from rfl, zmr]
  simp -implicitDefEqProofs -dsimp only [go_sem, seval]
  refine q12 _ (fun _ => .inr (.inl rfl)) ⟨rfl, none, x, y, w, ?_⟩
  rw [qta, hE]; exact ho3
 ·have ho2 := ho.read (K4 5 s).2
  have ho3 := ho2.set { l with cl := (K4 5 s).1 }
  have ho4 := ho3.read (rID s).2
  have ho5 := ho4.set { l with cl := (K4 5 s).1, sq := (rID s).1.2 }
  have hr : (rT T rid (K4 5 s).2) lid = .row 26 (lq g l x y w) := ho2.row
  have hr4 := ho4.row
  simp -implicitDefEqProofs -dsimp only [go_sem, seval, decide_true, decide_false, ↓J0 _ _ O1]
  refine can (q6h ho.rd 5 (by decide) hl) ?_
  simp -implicitDefEqProofs -dsimp only [go_sem, seval]
  refine q39 hr rfl rfl (by rw [q99]; decide) (J1 ?_)
  simp -implicitDefEqProofs -dsimp only [go_sem, seval, ↓J0 _ _ q1l]
  refine can (zba ho3.rd (q23 (U3 _ _) hl)) ?_
  simp -implicitDefEqProofs -dsimp only [go_sem, seval]
  refine q39 hr4 rfl rfl (by rw [q99]; decide) (J1 ?_)
  simp -implicitDefEqProofs -dsimp only [go_sem, seval]
  refine q12 _ (fun _ => .inr (.inl rfl)) ⟨rfl, g, x, y, w, ?_⟩
  rw [qtb]; exact ho5
 ·have ho2 := ho.read (q33 64 s).2
  have ho3 := ho2.set { l with v := (q33 64 s).1 }
  have hr : (rT T rid (q33 64 s).2) lid = .row 26 (lq g l x y w) := ho2.row
  simp -implicitDefEqProofs -dsimp only [go_sem, seval, decide_true, decide_false, ↓J0 _ _ q22]
  refine can (qpc ho.rd 64 (by decide) hl) ?_
  simp -implicitDefEqProofs -dsimp only [go_sem, seval]
  refine q39 hr rfl rfl (by rw [q99]; decide) (J1 ?_)
  simp -implicitDefEqProofs -dsimp only [go_sem, seval]
  refine q12 _ (fun _ => .inr (.inl rfl)) ⟨rfl, g, x, y, w, ?_⟩
  rw [qtc]; exact ho3
 ·have ho2 := ho.read (K4 18446744073709551615 s).2
  have ho3 := ho2.set { l with q := (K4 18446744073709551615 s).1 }
  have hr : (rT T rid (K4 18446744073709551615 s).2) lid = .row 26 (lq g l x y w) := ho2.row
  simp -implicitDefEqProofs -dsimp only [go_sem, seval, decide_true, decide_false, ↓J0 _ _ q1l]
  refine can (zba ho.rd hl) ?_
  simp -implicitDefEqProofs -dsimp only [go_sem, seval]
  refine q39 hr rfl rfl (by rw [q99]; decide) (J1 ?_)
  simp -implicitDefEqProofs -dsimp only [go_sem, seval]
  refine q12 _ (fun _ => .inr (.inl rfl)) ⟨rfl, g, x, y, w, ?_⟩
  rw [qtd]; exact ho3
 ·have ho2 := ho.read (K4 99 s).2
  have ho3 := ho2.set { l with co := (K4 99 s).1 }
  have hr : (rT T rid (K4 99 s).2) lid = .row 26 (lq g l x y w) := ho2.row
  simp -implicitDefEqProofs -dsimp only [go_sem, seval, decide_true, decide_false, ↓J0 _ _ O1]
  refine can (q6h ho.rd 99 (by decide) hl) ?_
  simp -implicitDefEqProofs -dsimp only [go_sem, seval]
  refine q39 hr rfl rfl (by rw [q99]; decide) (J1 ?_)
  simp -implicitDefEqProofs -dsimp only [go_sem, seval]
  refine q12 _ (fun _ => .inr (.inl rfl)) ⟨rfl, g, x, y, w, ?_⟩
  rw [qte]; exact ho3
end Go.Aw
