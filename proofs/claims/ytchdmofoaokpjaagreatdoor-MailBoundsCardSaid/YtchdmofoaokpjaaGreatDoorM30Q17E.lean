import Derived.Test.YtchdmofoaokpjaaGreatDoorM30Q17D
namespace Go.Aw
open Go
open Go.Proofs.Tryz (prog)
set_option linter.all false
set_option maxHeartbeats 8000000
set_option maxRecDepth 8000
def LtQ (B : Tab) (lid rid : Nat) (p : Lt Cf × RS) (v : AV) (T : Tab) : Prop := v = .tup [] /\ ∃ g x y w, LtA g B lid rid p.1 p.2 x y w T
theorem qe3 {g : Option Nat} {B : Tab} {lid rid : Nat} {l : Lt Cf} {s : RS} {x y w : AV} {T : Tab} (ho : LtA g B lid rid l s x y w T) (c : Int) (hc : c = 118 \/ c = 99 \/ c = 108) (hl : Len s.1.length) (hb : qyt l c) :
  ACalls prog q19 [.ptr lid 0, .ptr rid 0, .i .u8 c] T (LtQ B lid rid (rdS l c s)) := by
 refine U6 U1 q9i (by simp) ?_
 unfold q5s
 obtain ⟨b1, b2, b3⟩ := hb
 rcases hc with rfl | rfl | rfl
 ·have hm := q1z 400 s
  simp -implicitDefEqProofs -dsimp only [go_sem, seval, decide_true, decide_false, ↓J0 _ _ N1]
  refine can (q3s ho.rd 400 (by decide) hl) ?_
  simp -implicitDefEqProofs -dsimp only [go_sem, seval]
  refine z46 (g := g) (B := B) (lid := lid) (rid := rid) (by repeat' (first | exact Q2 _ _ | assumption | apply Q1 | apply N7 | apply Z0)) (K3 400 s).1 (K3 400 s).2 l x y w _ hm (by rw [b1 rfl]; simp only [List.length_nil]; omega) (q0z (O5 _ _) hl) (ho.read _) (fun x T1 m ho => ?_)
  simp -implicitDefEqProofs -dsimp only [go_sem, seval]
  refine V9 _ (fun _ => .inr (.inl rfl)) ⟨rfl, g, x, y, w, ?_⟩
  rw [qkd]; exact ho
 ·have hm := q1z 4 s
  simp -implicitDefEqProofs -dsimp only [go_sem, seval, decide_true, decide_false, ↓J0 _ _ N1]
  refine can (q3s ho.rd 4 (by decide) hl) ?_
  simp -implicitDefEqProofs -dsimp only [go_sem, seval]
  refine z47 (g := g) (B := B) (lid := lid) (rid := rid) (by repeat' (first | exact Q2 _ _ | assumption | apply Q1 | apply N7 | apply Z0)) (K3 4 s).1 (K3 4 s).2 l x y w _ (by omega) (by rw [b2 rfl]; simp only [List.length_nil]; omega) (q0z (O5 _ _) hl) (ho.read _) (fun y T1 m ho => ?_)
  simp -implicitDefEqProofs -dsimp only [go_sem, seval]
  refine V9 _ (fun _ => .inr (.inl rfl)) ⟨rfl, g, x, y, w, ?_⟩
  rw [qpx]; exact ho
 ·have hm := q1z 8 s
  simp -implicitDefEqProofs -dsimp only [go_sem, seval, decide_true, decide_false, ↓J0 _ _ N1]
  refine can (q3s ho.rd 8 (by decide) hl) ?_
  simp -implicitDefEqProofs -dsimp only [go_sem, seval]
  refine z48 (g := g) (B := B) (lid := lid) (rid := rid) (by repeat' (first | exact Q2 _ _ | assumption | apply Q1 | apply N7 | apply Z0)) (K3 8 s).1 (K3 8 s).2 l x y w _ (by omega) (by rw [b3 rfl]; simp only [List.length_nil]; omega) (q0z (O5 _ _) hl) (ho.read _) (fun w T1 m ho => ?_)
  simp -implicitDefEqProofs -dsimp only [go_sem, seval]
  refine V9 _ (fun _ => .inr (.inl rfl)) ⟨rfl, g, x, y, w, ?_⟩
  rw [qke]; exact ho
theorem quy {T : Tab} {id : Nat} {s : RS} (h : T id = q5k s) (hl : Len s.1.length) : ACalls prog q61 [.ptr id 0] T (fun v T' => v = .tup [.agg ((q21 s).1.cells none none), .b (qi4 s)] /\ T' = rT T id (rTx s).2) := by
 refine U6 U1 qjd (by simp) ?_
 have c := qm2 h hl
 simp only [Tx.cells] at c
 unfold qbh
 simp -implicitDefEqProofs -dsimp only [go_sem, seval, ↓J0 _ _ qbo]
 refine can c ?_
 rcases hk : qi4 s with _ | _
 ·have e : (q21 s).2 = q4k [116, 120, 110] (qk3 3) := by simp [q21, hk]
  simp -implicitDefEqProofs -dsimp only [go_sem, seval, e, q4k, qkm]
  exact J9 rfl
 ·have e : (q21 s).2 = .nilifc := by simp [q21, hk]
  simp -implicitDefEqProofs -dsimp only [go_sem, seval, e, qkm]
  exact J9 rfl
theorem zbx (g : Option Nat) (l : Lt Cf) (x y w : AV) (t : Tx) : q0a (lq g l x y w) 16 (t.cells none none) = lq none { l with t := t } x y w := rfl
attribute [go_sem] zbx
theorem z0x {g : Option Nat} {B : Tab} {lid rid : Nat} {l : Lt Cf} {s : RS} {x y w : AV} {T : Tab} (ho : LtA g B lid rid l s x y w T) (c : Int) (hc : Sg c) (hl : Len s.1.length) (hb : qyt l c) :
  ACalls prog q2q [.ptr lid 0, .ptr rid 0, .i .u8 c] T (LtQ B lid rid (rdS l c s)) := by
 refine U6 U1 qcm (by simp) ?_
 unfold q76
 rcases hc with rfl | rfl | rfl | rfl | rfl | rfl | rfl | rfl | rfl | rfl | rfl | rfl | rfl | rfl | rfl
 ·have ho2 := ho.read (K3 3 s).2
  have ho3 := ho2.set { l with sh := (K3 3 s).1 }
  have hr : (rT T rid (K3 3 s).2) lid = .row 26 (lq g l x y w) := ho2.row
  simp -implicitDefEqProofs -dsimp only [go_sem, seval, decide_true, decide_false, ↓J0 _ _ N1]
  refine can (q3s ho.rd 3 (by decide) hl) ?_
  simp -implicitDefEqProofs -dsimp only [go_sem, seval]
  refine q15 hr rfl rfl (by rw [q52]; decide) (J1 ?_)
  simp -implicitDefEqProofs -dsimp only [go_sem, seval]
  refine V9 _ (fun _ => .inr (.inl rfl)) ⟨rfl, g, x, y, w, ?_⟩
  rw [qk7]; exact ho3
 ·have ho2 := ho.read (K3 18446744073709551615 s).2
  have ho3 := ho2.set { l with ep := (K3 18446744073709551615 s).1 }
  have hr : (rT T rid (K3 18446744073709551615 s).2) lid = .row 26 (lq g l x y w) := ho2.row
  simp -implicitDefEqProofs -dsimp only [go_sem, seval, decide_true, decide_false, ↓J0 _ _ q0o]
  refine can (z1k ho.rd hl) ?_
  simp -implicitDefEqProofs -dsimp only [go_sem, seval]
  refine q15 hr rfl rfl (by rw [q52]; decide) (J1 ?_)
  simp -implicitDefEqProofs -dsimp only [go_sem, seval]
  refine V9 _ (fun _ => .inr (.inl rfl)) ⟨rfl, g, x, y, w, ?_⟩
  rw [qk8]; exact ho3
 ·have ho2 := ho.read (K3 1048576 s).2
  have ho3 := ho2.set { l with n := (K3 1048576 s).1 }
  have hr : (rT T rid (K3 1048576 s).2) lid = .row 26 (lq g l x y w) := ho2.row
  simp -implicitDefEqProofs -dsimp only [go_sem, seval, decide_true, decide_false, ↓J0 _ _ N1]
  refine can (q3s ho.rd 1048576 (by decide) hl) ?_
  simp -implicitDefEqProofs -dsimp only [go_sem, seval]
  refine q15 hr rfl rfl (by rw [q52]; decide) (J1 ?_)
  simp -implicitDefEqProofs -dsimp only [go_sem, seval]
  refine V9 _ (fun _ => .inr (.inl rfl)) ⟨rfl, g, x, y, w, ?_⟩
  rw [qk9]; exact ho3
 ·have ho2 := ho.read (K3 1048576 s).2
  have ho3 := ho2.set { l with m := (K3 1048576 s).1 }
  have hr : (rT T rid (K3 1048576 s).2) lid = .row 26 (lq g l x y w) := ho2.row
  simp -implicitDefEqProofs -dsimp only [go_sem, seval, decide_true, decide_false, ↓J0 _ _ N1]
  refine can (q3s ho.rd 1048576 (by decide) hl) ?_
  simp -implicitDefEqProofs -dsimp only [go_sem, seval]
  refine q15 hr rfl rfl (by rw [q52]; decide) (J1 ?_)
  simp -implicitDefEqProofs -dsimp only [go_sem, seval]
  refine V9 _ (fun _ => .inr (.inl rfl)) ⟨rfl, g, x, y, w, ?_⟩
  rw [qka]; exact ho3
 ·have ho2 := ho.read (K3 7 s).2
  have ho3 := ho2.set { l with nd := (K3 7 s).1 }
  have hr : (rT T rid (K3 7 s).2) lid = .row 26 (lq g l x y w) := ho2.row
  simp -implicitDefEqProofs -dsimp only [go_sem, seval, decide_true, decide_false, ↓J0 _ _ N1]
  refine can (q3s ho.rd 7 (by decide) hl) ?_
  simp -implicitDefEqProofs -dsimp only [go_sem, seval]
  refine q15 hr rfl rfl (by rw [q52]; decide) (J1 ?_)
  simp -implicitDefEqProofs -dsimp only [go_sem, seval]
  refine V9 _ (fun _ => .inr (.inl rfl)) ⟨rfl, g, x, y, w, ?_⟩
  rw [qkb]; exact ho3
 ·have ho2 := ho.read (K3 1 s).2
  have ho3 := ho2.set { l with fl := decide ((K3 1 s).1 = 1) }
  have hr : (rT T rid (K3 1 s).2) lid = .row 26 (lq g l x y w) := ho2.row
  simp -implicitDefEqProofs -dsimp only [go_sem, seval, decide_true, decide_false, ↓J0 _ _ q3i]
  refine can (qnh ho.rd hl) ?_
  simp -implicitDefEqProofs -dsimp only [go_sem, seval]
  refine q15 hr rfl rfl (by rw [q52]; decide) (J1 ?_)
  simp -implicitDefEqProofs -dsimp only [go_sem, seval]
  refine V9 _ (fun _ => .inr (.inl rfl)) ⟨rfl, g, x, y, w, ?_⟩
  rw [qkc]; exact ho3
 ·have ho2 := ho.read (qi5 s).2
  have ho3 := ho2.set { l with br := (qi5 s).1.1, bn := (qi5 s).1.2 }
  have hr : (rT T rid (qi5 s).2) lid = .row 26 (lq g l x y w) := ho2.row
  simp -implicitDefEqProofs -dsimp only [go_sem, seval, decide_true, decide_false, ↓J0 _ _ qez]
  refine can (qtd ho.rd hl) ?_
  simp -implicitDefEqProofs -dsimp only [go_sem, seval]
  refine q15 hr rfl rfl (by rw [q52]; decide) (J1 ?_)
  simp -implicitDefEqProofs -dsimp only [go_sem, seval]
  refine V9 _ (fun _ => .inr (.inl rfl)) ⟨rfl, g, x, y, w, ?_⟩
  rw [qpw]; exact ho3
 ·simp -implicitDefEqProofs -dsimp only [go_sem, seval, decide_true, decide_false, ↓J0 _ _ q35]
  refine CallK.of (qe3 ho 118 (.inl rfl) hl hb) fun v T' hq => J1 ?_
  simp -implicitDefEqProofs -dsimp only [go_sem, seval]
  exact V9 _ (fun _ => .inr (.inl rfl)) ⟨rfl, hq.2⟩
 ·simp -implicitDefEqProofs -dsimp only [go_sem, seval, decide_true, decide_false, ↓J0 _ _ q35]
  refine CallK.of (qe3 ho 99 (.inr (.inl rfl)) hl hb) fun v T' hq => J1 ?_
  simp -implicitDefEqProofs -dsimp only [go_sem, seval]
  exact V9 _ (fun _ => .inr (.inl rfl)) ⟨rfl, hq.2⟩
 ·simp -implicitDefEqProofs -dsimp only [go_sem, seval, decide_true, decide_false, ↓J0 _ _ q35]
  refine CallK.of (qe3 ho 108 (.inr (.inr rfl)) hl hb) fun v T' hq => J1 ?_
  simp -implicitDefEqProofs -dsimp only [go_sem, seval]
  exact V9 _ (fun _ => .inr (.inl rfl)) ⟨rfl, hq.2⟩
 ·have ho2 := ho.read (rTx s).2
  have ho3 := ho2.setg none { l with t := (q21 s).1 }
  have hr : (rT T rid (rTx s).2) lid = .row 26 (lq g l x y w) := ho2.row
  have hq := quy ho.rd hl
  generalize hE : (q21 s).1 = E at *
  simp -implicitDefEqProofs -dsimp only [go_sem, seval, decide_true, decide_false, ↓J0 _ _ qje]
  refine can hq ?_
  simp -implicitDefEqProofs -dsimp only [go_sem, seval]
  refine q15 (y := .agg (E.cells none none)) hr rfl rfl (by rw [q52]; decide) (J1 ?_)
  rw [show AV.cells (.agg (E.cells none none)) = E.cells none none from rfl, zbx]
  simp -implicitDefEqProofs -dsimp only [go_sem, seval]
  refine V9 _ (fun _ => .inr (.inl rfl)) ⟨rfl, none, x, y, w, ?_⟩
  rw [qkf, hE]; exact ho3
 ·have ho2 := ho.read (K3 5 s).2
  have ho3 := ho2.set { l with cl := (K3 5 s).1 }
  have ho4 := ho3.read (rID s).2
  have ho5 := ho4.set { l with cl := (K3 5 s).1, sq := (rID s).1.2 }
  have hr : (rT T rid (K3 5 s).2) lid = .row 26 (lq g l x y w) := ho2.row
  have hr4 := ho4.row
  simp -implicitDefEqProofs -dsimp only [go_sem, seval, decide_true, decide_false, ↓J0 _ _ N1]
  refine can (q3s ho.rd 5 (by decide) hl) ?_
  simp -implicitDefEqProofs -dsimp only [go_sem, seval]
  refine q15 hr rfl rfl (by rw [q52]; decide) (J1 ?_)
  simp -implicitDefEqProofs -dsimp only [go_sem, seval, ↓J0 _ _ q0o]
  refine can (z1k ho3.rd (q0z (O5 _ _) hl)) ?_
  simp -implicitDefEqProofs -dsimp only [go_sem, seval]
  refine q15 hr4 rfl rfl (by rw [q52]; decide) (J1 ?_)
  simp -implicitDefEqProofs -dsimp only [go_sem, seval]
  refine V9 _ (fun _ => .inr (.inl rfl)) ⟨rfl, g, x, y, w, ?_⟩
  rw [qkg]; exact ho5
 ·have ho2 := ho.read (q1n 64 s).2
  have ho3 := ho2.set { l with v := (q1n 64 s).1 }
  have hr : (rT T rid (q1n 64 s).2) lid = .row 26 (lq g l x y w) := ho2.row
  simp -implicitDefEqProofs -dsimp only [go_sem, seval, decide_true, decide_false, ↓J0 _ _ q0y]
  refine can (qg6 ho.rd 64 (by decide) hl) ?_
  simp -implicitDefEqProofs -dsimp only [go_sem, seval]
  refine q15 hr rfl rfl (by rw [q52]; decide) (J1 ?_)
  simp -implicitDefEqProofs -dsimp only [go_sem, seval]
  refine V9 _ (fun _ => .inr (.inl rfl)) ⟨rfl, g, x, y, w, ?_⟩
  rw [qkh]; exact ho3
 ·have ho2 := ho.read (K3 18446744073709551615 s).2
  have ho3 := ho2.set { l with q := (K3 18446744073709551615 s).1 }
  have hr : (rT T rid (K3 18446744073709551615 s).2) lid = .row 26 (lq g l x y w) := ho2.row
  simp -implicitDefEqProofs -dsimp only [go_sem, seval, decide_true, decide_false, ↓J0 _ _ q0o]
  refine can (z1k ho.rd hl) ?_
  simp -implicitDefEqProofs -dsimp only [go_sem, seval]
  refine q15 hr rfl rfl (by rw [q52]; decide) (J1 ?_)
  simp -implicitDefEqProofs -dsimp only [go_sem, seval]
  refine V9 _ (fun _ => .inr (.inl rfl)) ⟨rfl, g, x, y, w, ?_⟩
  rw [qki]; exact ho3
 ·have ho2 := ho.read (K3 99 s).2
  have ho3 := ho2.set { l with co := (K3 99 s).1 }
  have hr : (rT T rid (K3 99 s).2) lid = .row 26 (lq g l x y w) := ho2.row
  simp -implicitDefEqProofs -dsimp only [go_sem, seval, decide_true, decide_false, ↓J0 _ _ N1]
  refine can (q3s ho.rd 99 (by decide) hl) ?_
  simp -implicitDefEqProofs -dsimp only [go_sem, seval]
  refine q15 hr rfl rfl (by rw [q52]; decide) (J1 ?_)
  simp -implicitDefEqProofs -dsimp only [go_sem, seval]
  refine V9 _ (fun _ => .inr (.inl rfl)) ⟨rfl, g, x, y, w, ?_⟩
  rw [qkj]; exact ho3
end Go.Aw
