import Derived.Test.YtnkagdjmjakeiaaGreatDoorV22T16G
namespace Go.Aw
open Go
open Go.Proofs.Tryz (prog)
set_option linter.all false
set_option maxHeartbeats 4000000
theorem Owns.upd {T T' : Tab} {z n : Nat} {v : AV} {xs : List AV} {l : List Ow} (h : Owns T (⟨z, v, n, xs⟩ :: l) T') (hn : 0 < n) :
  ∃ id, v = .sl id 0 n none /\ T' id = .row z xs /\ xs.length = n * z /\ ∀ m ys, ys.length = m * z -> Owns T (⟨z, .sl id 0 m none, m, ys⟩ :: l) (T'.put id (.row z ys)) := by
 obtain ⟨T1, h1, hx, h2⟩ := h
 rcases h2 with ⟨_, e, _⟩ | ⟨id, e1, e2, rfl⟩
 ·simp only at e; omega
 ·refine ⟨id, e1, T1.put_same id _, hx, fun m ys hy => ⟨T1, h1, hy, .inr ⟨id, rfl, e2, ?_⟩⟩⟩
  simp only [Tab.put_put]
def cfz : Cf := ⟨0, 0, [], [], 0⟩
def Cf.may (c : Cf) (n ep : Int) : Bool := c.right && srv n && !decide (ep <= c.ep)
theorem Cf.right_len {c : Cf} (h : c.right = true) : 0 < c.ch.length /\ c.ch.length <= 8 /\ c.fu.length = c.ch.length := by
 simp only [Cf.right, Bool.and_eq_true, Bool.not_eq_true', decide_eq_false_iff_not, Bool.not_eq_false', decide_eq_true_eq] at h
 omega
def qr7 (c : Cf) (n ep : Int) (T : Tab) (v : AV) (T' : Tab) : Prop :=
 (c.may n ep = false /\ v = .tup [.agg (cfz.cells (some 0) (some 0)), .i .i64 1] /\ T' = T) \/
 (c.may n ep = true /\ ∃ v1 v2, v = .tup [.agg [.i .u64 ep, .i .i64 c.sh, v1, v2, .i .i64 c.ln], .i .i64 0] /\ Owns T [⟨1, v2, c.ch.length, G4 c.fu⟩, ⟨1, v1, c.ch.length, q38 c.ch⟩] T')
theorem qdd (c : Cf) (k1 k2 : Option Nat) (n ep : Int) (hl : Len c.ch.length) (T : Tab) : ACalls prog q1a [.agg (c.cells k1 k2), .i .i64 n, .i .u64 ep] T (qr7 c n ep T) := by
 refine K6 O2 qfv (by simp) ?_
 unfold qae
 simp -implicitDefEqProofs -dsimp only [go_sem, seval, Cf.cells, ↓J1 _ _ J4]
 (first | (apply J8 <;> intro h_1 <;> simp -implicitDefEqProofs -dsimp only [go_sem, seval, Cf.cells, ↓J1 _ _ J4, ↓J1 _ _ J3, ↓J1 _ _ J9, ↓J1 _ _ J6, h_1]) | (refine CallK.pure (N0 c k1 k2 hl) (J5 ?_); simp -implicitDefEqProofs -dsimp only [go_sem, seval, Cf.cells, ↓J1 _ _ J4, ↓J1 _ _ J3, ↓J1 _ _ J9, ↓J1 _ _ J6]; have h_1 := trivial) | (refine CallK.pure (K7 _) (J5 ?_); simp -implicitDefEqProofs -dsimp only [go_sem, seval, Cf.cells, ↓J1 _ _ J4, ↓J1 _ _ J3, ↓J1 _ _ J9, ↓J1 _ _ J6]; have h_1 := trivial) | (have h_1 := trivial)) <;>
  (first | (apply J8 <;> intro h_2 <;> simp -implicitDefEqProofs -dsimp only [go_sem, seval, Cf.cells, ↓J1 _ _ J4, ↓J1 _ _ J3, ↓J1 _ _ J9, ↓J1 _ _ J6, h_1, h_2]) | (refine CallK.pure (N0 c k1 k2 hl) (J5 ?_); simp -implicitDefEqProofs -dsimp only [go_sem, seval, Cf.cells, ↓J1 _ _ J4, ↓J1 _ _ J3, ↓J1 _ _ J9, ↓J1 _ _ J6, h_1]; have h_2 := trivial) | (refine CallK.pure (K7 _) (J5 ?_); simp -implicitDefEqProofs -dsimp only [go_sem, seval, Cf.cells, ↓J1 _ _ J4, ↓J1 _ _ J3, ↓J1 _ _ J9, ↓J1 _ _ J6, h_1]; have h_2 := trivial) | (have h_2 := trivial)) <;>
  (first | (apply J8 <;> intro h_3 <;> simp -implicitDefEqProofs -dsimp only [go_sem, seval, Cf.cells, ↓J1 _ _ J4, ↓J1 _ _ J3, ↓J1 _ _ J9, ↓J1 _ _ J6, h_1, h_2, h_3]) | (refine CallK.pure (N0 c k1 k2 hl) (J5 ?_); simp -implicitDefEqProofs -dsimp only [go_sem, seval, Cf.cells, ↓J1 _ _ J4, ↓J1 _ _ J3, ↓J1 _ _ J9, ↓J1 _ _ J6, h_1, h_2]; have h_3 := trivial) | (refine CallK.pure (K7 _) (J5 ?_); simp -implicitDefEqProofs -dsimp only [go_sem, seval, Cf.cells, ↓J1 _ _ J4, ↓J1 _ _ J3, ↓J1 _ _ J9, ↓J1 _ _ J6, h_1, h_2]; have h_3 := trivial) | (have h_3 := trivial)) <;>
  (first | (apply J8 <;> intro h_4 <;> simp -implicitDefEqProofs -dsimp only [go_sem, seval, Cf.cells, ↓J1 _ _ J4, ↓J1 _ _ J3, ↓J1 _ _ J9, ↓J1 _ _ J6, h_1, h_2, h_3, h_4]) | (refine CallK.pure (N0 c k1 k2 hl) (J5 ?_); simp -implicitDefEqProofs -dsimp only [go_sem, seval, Cf.cells, ↓J1 _ _ J4, ↓J1 _ _ J3, ↓J1 _ _ J9, ↓J1 _ _ J6, h_1, h_2, h_3]; have h_4 := trivial) | (refine CallK.pure (K7 _) (J5 ?_); simp -implicitDefEqProofs -dsimp only [go_sem, seval, Cf.cells, ↓J1 _ _ J4, ↓J1 _ _ J3, ↓J1 _ _ J9, ↓J1 _ _ J6, h_1, h_2, h_3]; have h_4 := trivial) | (have h_4 := trivial)) <;>
  (first | (apply J8 <;> intro h_5 <;> simp -implicitDefEqProofs -dsimp only [go_sem, seval, Cf.cells, ↓J1 _ _ J4, ↓J1 _ _ J3, ↓J1 _ _ J9, ↓J1 _ _ J6, h_1, h_2, h_3, h_4, h_5]) | (refine CallK.pure (N0 c k1 k2 hl) (J5 ?_); simp -implicitDefEqProofs -dsimp only [go_sem, seval, Cf.cells, ↓J1 _ _ J4, ↓J1 _ _ J3, ↓J1 _ _ J9, ↓J1 _ _ J6, h_1, h_2, h_3, h_4]; have h_5 := trivial) | (refine CallK.pure (K7 _) (J5 ?_); simp -implicitDefEqProofs -dsimp only [go_sem, seval, Cf.cells, ↓J1 _ _ J4, ↓J1 _ _ J3, ↓J1 _ _ J9, ↓J1 _ _ J6, h_1, h_2, h_3, h_4]; have h_5 := trivial) | (have h_5 := trivial)) <;>
  (first | (apply J8 <;> intro h_6 <;> simp -implicitDefEqProofs -dsimp only [go_sem, seval, Cf.cells, ↓J1 _ _ J4, ↓J1 _ _ J3, ↓J1 _ _ J9, ↓J1 _ _ J6, h_1, h_2, h_3, h_4, h_5, h_6]) | (refine CallK.pure (N0 c k1 k2 hl) (J5 ?_); simp -implicitDefEqProofs -dsimp only [go_sem, seval, Cf.cells, ↓J1 _ _ J4, ↓J1 _ _ J3, ↓J1 _ _ J9, ↓J1 _ _ J6, h_1, h_2, h_3, h_4, h_5]; have h_6 := trivial) | (refine CallK.pure (K7 _) (J5 ?_); simp -implicitDefEqProofs -dsimp only [go_sem, seval, Cf.cells, ↓J1 _ _ J4, ↓J1 _ _ J3, ↓J1 _ _ J9, ↓J1 _ _ J6, h_1, h_2, h_3, h_4, h_5]; have h_6 := trivial) | (have h_6 := trivial))
 all_goals first
  | (refine q1z T (fun _ => .inr (.inl rfl)) (.inl ⟨?_, rfl, rfl⟩)
     simp_all [Cf.may]
     done)
  | skip
 have hm : c.may n ep = true := by simp_all [Cf.may]
 have hr : c.right = true := by simp_all [Cf.may]
 obtain ⟨r1, r2, r3⟩ := Cf.right_len hr
 refine CallK.of (q7g (xs := q38 c.ch) (q20 _) (by omega)) (fun v1 T1 o1 => ?_)
 refine J5 ?_
 obtain ⟨p1, p2, p3, p4, p5, p6⟩ := o1.form
 simp -implicitDefEqProofs -dsimp only [go_sem, seval, ↓J1 _ _ J6, p1, p2, p3, p4, p5, p6]
 refine CallK.of (q6a (xs := G4 c.fu) (G7 _) (by omega)) (fun v2 T2 o2 => ?_)
 refine J5 ?_
 obtain ⟨q1, q2, q3, q4, q5, q6⟩ := o2.form
 simp -implicitDefEqProofs -dsimp only [go_sem, seval, p1, p2, p3, p4, p5, p6, q1, q2, q3, q4, q5, q6]
 refine q1z T2 (fun _ => .inr (.inl rfl)) (.inr ⟨hm, v1, v2, rfl, T1, ⟨T, rfl, o1⟩, ?_⟩)
 rw [<- r3]
 exact o2
end Go.Aw
