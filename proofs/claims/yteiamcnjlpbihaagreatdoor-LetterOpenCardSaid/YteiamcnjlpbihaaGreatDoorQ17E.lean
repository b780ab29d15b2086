import Derived.Test.YteiamcnjlpbihaaGreatDoorQ17D
namespace Go.Aw
open Go
open Go.Proofs.Tryz (prog)
set_option linter.all false
set_option maxHeartbeats 8000000
set_option maxRecDepth 8000
def LtQ (B : Tab) (lid rid : Nat) (p : Lt Cf × RS) (v : AV) (T : Tab) : Prop := v = .tup [] /\ ∃ g x y w, LtA g B lid rid p.1 p.2 x y w T
theorem qm4 {g : Option Nat} {B : Tab} {lid rid : Nat} {l : Lt Cf} {s : RS} {x y w : AV} {T : Tab} (ho : LtA g B lid rid l s x y w T) (c : Int) (hc : c = 118 \/ c = 99 \/ c = 108) (hl : Len s.1.length) (hb : z7f l c) :
  ACalls prog q2n [.ptr lid 0, .ptr rid 0, .i .u8 c] T (LtQ B lid rid (rdS l c s)) := by
 refine Z3 U3 qfe (by simp) ?_
 unfold q9l
 obtain ⟨b1, b2, b3⟩ := hb
 rcases hc with rfl | rfl | rfl
 ·have hm := q1d 400 s
  simp -implicitDefEqProofs -dsimp only [go_sem, seval, decide_true, decide_false, ↓J0 _ _ N8]
  refine can (q6d ho.rd 400 (by decide) hl) ?_
  simp -implicitDefEqProofs -dsimp only [go_sem, seval]
  refine zdj (g := g) (B := B) (lid := lid) (rid := rid) (by repeat' (first | exact N2 _ _ | assumption | apply N1 | apply K9 | apply Q3)) (K2 400 s).1 (K2 400 s).2 l x y w _ hm (by rw [b1 rfl]; simp only [List.length_nil]; omega) (q26 (U2 _ _) hl) (ho.read _) (fun x T1 m ho => ?_)
  simp -implicitDefEqProofs -dsimp only [go_sem, seval]
  refine q12 _ (fun _ => .inr (.inl rfl)) ⟨rfl, g, x, y, w, ?_⟩
  rw [qsm]; exact ho
 ·have hm := q1d 4 s
  simp -implicitDefEqProofs -dsimp only [go_sem, seval, decide_true, decide_false, ↓J0 _ _ N8]
  refine can (q6d ho.rd 4 (by decide) hl) ?_
  simp -implicitDefEqProofs -dsimp only [go_sem, seval]
  refine zdk (g := g) (B := B) (lid := lid) (rid := rid) (by repeat' (first | exact N2 _ _ | assumption | apply N1 | apply K9 | apply Q3)) (K2 4 s).1 (K2 4 s).2 l x y w _ (by omega) (by rw [b2 rfl]; simp only [List.length_nil]; omega) (q26 (U2 _ _) hl) (ho.read _) (fun y T1 m ho => ?_)
  simp -implicitDefEqProofs -dsimp only [go_sem, seval]
  refine q12 _ (fun _ => .inr (.inl rfl)) ⟨rfl, g, x, y, w, ?_⟩
  rw [qyu]; exact ho
 ·have hm := q1d 8 s
  simp -implicitDefEqProofs -dsimp only [go_sem, seval, decide_true, decide_false, ↓J0 _ _ N8]
  refine can (q6d ho.rd 8 (by decide) hl) ?_
  simp -implicitDefEqProofs -dsimp only [go_sem, seval]
  refine zdl (g := g) (B := B) (lid := lid) (rid := rid) (by repeat' (first | exact N2 _ _ | assumption | apply N1 | apply K9 | apply Q3)) (K2 8 s).1 (K2 8 s).2 l x y w _ (by omega) (by rw [b3 rfl]; simp only [List.length_nil]; omega) (q26 (U2 _ _) hl) (ho.read _) (fun w T1 m ho => ?_)
  simp -implicitDefEqProofs -dsimp only [go_sem, seval]
  refine q12 _ (fun _ => .inr (.inl rfl)) ⟨rfl, g, x, y, w, ?_⟩
  rw [qsn]; exact ho
theorem z3x {T : Tab} {id : Nat} {s : RS} (h : T id = q9a s) (hl : Len s.1.length) : ACalls prog qa1 [.ptr id 0] T (fun v T' => v = .tup [.agg ((q3e s).1.cells none none), .b (qqb s)] /\ T' = rT T id (rTx s).2) := by
 refine Z3 U3 qrn (by simp) ?_
 have c := quj h hl
 simp only [Tx.cells] at c
 unfold qi5
 simp -implicitDefEqProofs -dsimp only [go_sem, seval, ↓J0 _ _ qic]
 refine can c ?_
 rcases hk : qqb s with _ | _
 ·have e : (q3e s).2 = q85 [116, 120, 110] (qs9 3) := by simp [q3e, hk]
  simp -implicitDefEqProofs -dsimp only [go_sem, seval, e, q85, qts]
  exact J9 rfl
 ·have e : (q3e s).2 = .nilifc := by simp [q3e, hk]
  simp -implicitDefEqProofs -dsimp only [go_sem, seval, e, qts]
  exact J9 rfl
theorem zm1 (g : Option Nat) (l : Lt Cf) (x y w : AV) (t : Tx) : q22 (lq g l x y w) 16 (t.cells none none) = lq none { l with t := t } x y w := rfl
attribute [go_sem] zm1
theorem za2 {g : Option Nat} {B : Tab} {lid rid : Nat} {l : Lt Cf} {s : RS} {x y w : AV} {T : Tab} (ho : LtA g B lid rid l s x y w T) (c : Int) (hc : Sg c) (hl : Len s.1.length) (hb : z7f l c) :
  ACalls prog q4t [.ptr lid 0, .ptr rid 0, .i .u8 c] T (LtQ B lid rid (rdS l c s)) := by
 refine Z3 U3 qjz (by simp) ?_
 unfold qc2
 rcases hc with rfl | rfl | rfl | rfl | rfl | rfl | rfl | rfl | rfl | rfl | rfl | rfl | rfl | rfl | rfl
 ·have ho2 := ho.read (K2 3 s).2
  have ho3 := ho2.set { l with sh := (K2 3 s).1 }
  have hr : (rT T rid (K2 3 s).2) lid = .row 26 (lq g l x y w) := ho2.row
  simp -implicitDefEqProofs -dsimp only [go_sem, seval, decide_true, decide_false, ↓J0 _ _ N8]
  refine can (q6d ho.rd 3 (by decide) hl) ?_
  simp -implicitDefEqProofs -dsimp only [go_sem, seval]
  refine q35 hr rfl rfl (by rw [q8v]; decide) (J1 ?_)
  simp -implicitDefEqProofs -dsimp only [go_sem, seval]
  refine q12 _ (fun _ => .inr (.inl rfl)) ⟨rfl, g, x, y, w, ?_⟩
  rw [qsg]; exact ho3
 ·have ho2 := ho.read (K2 18446744073709551615 s).2
  have ho3 := ho2.set { l with ep := (K2 18446744073709551615 s).1 }
  have hr : (rT T rid (K2 18446744073709551615 s).2) lid = .row 26 (lq g l x y w) := ho2.row
  simp -implicitDefEqProofs -dsimp only [go_sem, seval, decide_true, decide_false, ↓J0 _ _ q1n]
  refine can (zav ho.rd hl) ?_
  simp -implicitDefEqProofs -dsimp only [go_sem, seval]
  refine q35 hr rfl rfl (by rw [q8v]; decide) (J1 ?_)
  simp -implicitDefEqProofs -dsimp only [go_sem, seval]
  refine q12 _ (fun _ => .inr (.inl rfl)) ⟨rfl, g, x, y, w, ?_⟩
  rw [qsh]; exact ho3
 ·have ho2 := ho.read (K2 1048576 s).2
  have ho3 := ho2.set { l with n := (K2 1048576 s).1 }
  have hr : (rT T rid (K2 1048576 s).2) lid = .row 26 (lq g l x y w) := ho2.row
  simp -implicitDefEqProofs -dsimp only [go_sem, seval, decide_true, decide_false, ↓J0 _ _ N8]
  refine can (q6d ho.rd 1048576 (by decide) hl) ?_
  simp -implicitDefEqProofs -dsimp only [go_sem, seval]
  refine q35 hr rfl rfl (by rw [q8v]; decide) (J1 ?_)
  simp -implicitDefEqProofs -dsimp only [go_sem, seval]
  refine q12 _ (fun _ => .inr (.inl rfl)) ⟨rfl, g, x, y, w, ?_⟩
  rw [qsi]; exact ho3
 ·have ho2 := ho.read (K2 1048576 s).2
  have ho3 := ho2.set { l with m := (K2 1048576 s).1 }
  have hr : (rT T rid (K2 1048576 s).2) lid = .row 26 (lq g l x y w) := ho2.row
  simp -implicitDefEqProofs -dsimp only [go_sem, seval, decide_true, decide_false, ↓J0 _ _ N8]
  refine can (q6d ho.rd 1048576 (by decide) hl) ?_
  simp -implicitDefEqProofs -dsimp only [go_sem, seval]
  refine q35 hr rfl rfl (by rw [q8v]; decide) (J1 ?_)
  simp -implicitDefEqProofs -dsimp only [go_sem, seval]
  refine q12 _ (fun _ => .inr (.inl rfl)) ⟨rfl, g, x, y, w, ?_⟩
  rw [qsj]; exact ho3
 ·have ho2 := ho.read (K2 7 s).2
  have ho3 := ho2.set { l with nd := (K2 7 s).1 }
  have hr : (rT T rid (K2 7 s).2) lid = .row 26 (lq g l x y w) := ho2.row
  simp -implicitDefEqProofs -dsimp only [go_sem, seval, decide_true, decide_false, ↓J0 _ _ N8]
  refine can (q6d ho.rd 7 (by decide) hl) ?_
  simp -implicitDefEqProofs -dsimp only [go_sem, seval]
  refine q35 hr rfl rfl (by rw [q8v]; decide) (J1 ?_)
  simp -implicitDefEqProofs -dsimp only [go_sem, seval]
  refine q12 _ (fun _ => .inr (.inl rfl)) ⟨rfl, g, x, y, w, ?_⟩
  rw [qsk]; exact ho3
 ·have ho2 := ho.read (K2 1 s).2
  have ho3 := ho2.set { l with fl := decide ((K2 1 s).1 = 1) }
  have hr : (rT T rid (K2 1 s).2) lid = .row 26 (lq g l x y w) := ho2.row
  simp -implicitDefEqProofs -dsimp only [go_sem, seval, decide_true, decide_false, ↓J0 _ _ q60]
  refine can (qvw ho.rd hl) ?_
  simp -implicitDefEqProofs -dsimp only [go_sem, seval]
  refine q35 hr rfl rfl (by rw [q8v]; decide) (J1 ?_)
  simp -implicitDefEqProofs -dsimp only [go_sem, seval]
  refine q12 _ (fun _ => .inr (.inl rfl)) ⟨rfl, g, x, y, w, ?_⟩
  rw [qsl]; exact ho3
 ·have ho2 := ho.read (qm6 s).2
  have ho3 := ho2.set { l with br := (qm6 s).1.1, bn := (qm6 s).1.2 }
  have hr : (rT T rid (qm6 s).2) lid = .row 26 (lq g l x y w) := ho2.row
  simp -implicitDefEqProofs -dsimp only [go_sem, seval, decide_true, decide_false, ↓J0 _ _ qnn]
  refine can (z28 ho.rd hl) ?_
  simp -implicitDefEqProofs -dsimp only [go_sem, seval]
  refine q35 hr rfl rfl (by rw [q8v]; decide) (J1 ?_)
  simp -implicitDefEqProofs -dsimp only [go_sem, seval]
  refine q12 _ (fun _ => .inr (.inl rfl)) ⟨rfl, g, x, y, w, ?_⟩
  rw [qyt]; exact ho3
 ·simp -implicitDefEqProofs -dsimp only [go_sem, seval, decide_true, decide_false, ↓J0 _ _ q5d]
  refine CallK.of (qm4 ho 118 (.inl rfl) hl hb) fun v T' hq => J1 ?_
  simp -implicitDefEqProofs -dsimp only [go_sem, seval]
  exact q12 _ (fun _ => .inr (.inl rfl)) ⟨rfl, hq.2⟩
 ·simp -implicitDefEqProofs -dsimp only [go_sem, seval, decide_true, decide_false, ↓J0 _ _ q5d]
  refine CallK.of (qm4 ho 99 (.inr (.inl rfl)) hl hb) fun v T' hq => J1 ?_
  simp -implicitDefEqProofs -dsimp only [go_sem, seval]
  exact q12 _ (fun _ => .inr (.inl rfl)) ⟨rfl, hq.2⟩
 ·simp -implicitDefEqProofs -dsimp only [go_sem, seval, decide_true, decide_false, ↓J0 _ _ q5d]
  refine CallK.of (qm4 ho 108 (.inr (.inr rfl)) hl hb) fun v T' hq => J1 ?_
  simp -implicitDefEqProofs -dsimp only [go_sem, seval]
  exact q12 _ (fun _ => .inr (.inl rfl)) ⟨rfl, hq.2⟩
 ·have ho2 := ho.read (rTx s).2
  have ho3 := ho2.setg none { l with t := (q3e s).1 }
  have hr : (rT T rid (rTx s).2) lid = .row 26 (lq g l x y w) := ho2.row
  have hq := z3x ho.rd hl
  generalize hE : (q3e s).1 = E at *
  simp -implicitDefEqProofs -dsimp only [go_sem, seval, decide_true, decide_false, ↓J0 _ _ qro]
  refine can hq ?_
  simp -implicitDefEqProofs -dsimp only [go_sem, seval]
  refine q35 (y := .agg (E.cells none none)) hr rfl rfl (by rw [q8v]; decide) (J1 ?_)
  rw [show AV.cells (.agg (E.cells none none)) = E.cells none none from rfl, zm1]
  simp -implicitDefEqProofs -dsimp only [go_sem, seval]
  refine q12 _ (fun _ => .inr (.inl rfl)) ⟨rfl, none, x, y, w, ?_⟩
  rw [qso, hE]; exact ho3
 ·have ho2 := ho.read (K2 5 s).2
  have ho3 := ho2.set { l with cl := (K2 5 s).1 }
  have ho4 := ho3.read (rID s).2
  have ho5 := ho4.set { l with cl := (K2 5 s).1, sq := (rID s).1.2 }
  have hr : (rT T rid (K2 5 s).2) lid = .row 26 (lq g l x y w) := ho2.row
  have hr4 := ho4.row
  simp -implicitDefEqProofs -dsimp only [go_sem, seval, decide_true, decide_false, ↓J0 _ _ N8]
  refine can (q6d ho.rd 5 (by decide) hl) ?_
  simp -implicitDefEqProofs -dsimp only [go_sem, seval]
  refine q35 hr rfl rfl (by rw [q8v]; decide) (J1 ?_)
  simp -implicitDefEqProofs -dsimp only [go_sem, seval, ↓J0 _ _ q1n]
  refine can (zav ho3.rd (q26 (U2 _ _) hl)) ?_
  simp -implicitDefEqProofs -dsimp only [go_sem, seval]
  refine q35 hr4 rfl rfl (by rw [q8v]; decide) (J1 ?_)
  simp -implicitDefEqProofs -dsimp only [go_sem, seval]
  refine q12 _ (fun _ => .inr (.inl rfl)) ⟨rfl, g, x, y, w, ?_⟩
  rw [qsp]; exact ho5
 ·have ho2 := ho.read (q2f 64 s).2
  have ho3 := ho2.set { l with v := (q2f 64 s).1 }
  have hr : (rT T rid (q2f 64 s).2) lid = .row 26 (lq g l x y w) := ho2.row
  simp -implicitDefEqProofs -dsimp only [go_sem, seval, decide_true, decide_false, ↓J0 _ _ q25]
  refine can (qot ho.rd 64 (by decide) hl) ?_
  simp -implicitDefEqProofs -dsimp only [go_sem, seval]
  refine q35 hr rfl rfl (by rw [q8v]; decide) (J1 ?_)
  simp -implicitDefEqProofs -dsimp only [go_sem, seval]
  refine q12 _ (fun _ => .inr (.inl rfl)) ⟨rfl, g, x, y, w, ?_⟩
  rw [qsq]; exact ho3
 ·have ho2 := ho.read (K2 18446744073709551615 s).2
  have ho3 := ho2.set { l with q := (K2 18446744073709551615 s).1 }
  have hr : (rT T rid (K2 18446744073709551615 s).2) lid = .row 26 (lq g l x y w) := ho2.row
  simp -implicitDefEqProofs -dsimp only [go_sem, seval, decide_true, decide_false, ↓J0 _ _ q1n]
  refine can (zav ho.rd hl) ?_
  simp -implicitDefEqProofs -dsimp only [go_sem, seval]
  refine q35 hr rfl rfl (by rw [q8v]; decide) (J1 ?_)
  simp -implicitDefEqProofs -dsimp only [go_sem, seval]
  refine q12 _ (fun _ => .inr (.inl rfl)) ⟨rfl, g, x, y, w, ?_⟩
  rw [qsr]; exact ho3
 ·have ho2 := ho.read (K2 99 s).2
  have ho3 := ho2.set { l with co := (K2 99 s).1 }
  have hr : (rT T rid (K2 99 s).2) lid = .row 26 (lq g l x y w) := ho2.row
  simp -implicitDefEqProofs -dsimp only [go_sem, seval, decide_true, decide_false, ↓J0 _ _ N8]
  refine can (q6d ho.rd 99 (by decide) hl) ?_
  simp -implicitDefEqProofs -dsimp only [go_sem, seval]
  refine q35 hr rfl rfl (by rw [q8v]; decide) (J1 ?_)
  simp -implicitDefEqProofs -dsimp only [go_sem, seval]
  refine q12 _ (fun _ => .inr (.inl rfl)) ⟨rfl, g, x, y, w, ?_⟩
  rw [qss]; exact ho3
end Go.Aw
