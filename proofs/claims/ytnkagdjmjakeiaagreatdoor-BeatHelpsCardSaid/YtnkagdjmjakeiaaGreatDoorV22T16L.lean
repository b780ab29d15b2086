import Derived.Test.YtnkagdjmjakeiaaGreatDoorV22T16I
namespace Go.Aw
open Go
open Go.Proofs.Tryz (prog)
set_option linter.all false
set_option maxHeartbeats 4000000
def Cf.learn (c : Cf) (n ep : Int) : Cf × Int :=
 if c.may n ep = false then (cfz, 1) else
 if c.has n = true then (cfz, 7) else
 if ¬ c.ln = -1 then (cfz, 10) else (⟨ep, c.sh, c.ch, c.fu, n⟩, 0)
def Cf.promote (c : Cf) (n ep : Int) : Cf × Int :=
 if c.may n ep = false then (cfz, 1) else
 if ¬ n = c.ln then (cfz, 6) else (⟨ep, c.sh, c.ch ++ [n], c.fu ++ [false], -1⟩, 0)
def Cf.mark (c : Cf) (n : Int) : Cf × Int :=
 if (c.right && srv n) = false then (cfz, 1) else
 if c.place n < 0 then (cfz, 6) else
 if (c.fu[(c.place n).toNat]?).getD false = true then (cfz, 7) else (⟨c.ep, c.sh, c.ch, c.fu.set (c.place n).toNat true, c.ln⟩, 0)
theorem qpo (c : Cf) (k1 k2 : Option Nat) (n ep : Int) (hl : Len c.ch.length) : U4 prog q4l [.agg (c.cells k1 k2), .i .i64 n, .i .u64 ep] (Cf.ret (c.learn n ep)) := by
 refine K9 O2 qh7 (by simp) fun T => ?_
 unfold qbt
 simp -implicitDefEqProofs -dsimp only [go_sem, seval, Cf.cells, ↓J1 _ _ q67]
 refine CallK.of (qdd c k1 k2 n ep hl T) (fun v T1 h => ?_)
 refine J5 ?_
 rcases h with ⟨h0, rfl, rfl⟩ | ⟨h0, v1, v2, rfl, how⟩
 ·simp -implicitDefEqProofs -dsimp only [go_sem, seval, cfz, Cf.cells]
  refine qbc ?_
  rw [Cf.learn, if_pos h0]
  exact q9h 1
 ·obtain ⟨p1, p2, p3, p4, p5, p6⟩ := how.form (List.mem_cons_self ..)
  obtain ⟨q1, q2, q3, q4, q5, q6⟩ := how.form (List.mem_cons_of_mem _ (List.mem_cons_self ..))
  simp only at p1 p2 p3 p4 p5 p6 q1 q2 q3 q4 q5 q6
  have hr : c.right = true := by simp only [Cf.may, Bool.and_eq_true] at h0; exact h0.1.1
  obtain ⟨r1, r2, r3⟩ := Cf.right_len hr
  simp -implicitDefEqProofs -dsimp only [go_sem, seval, Cf.cells, p1, p2, p3, p4, p5, p6, q1, q2, q3, q4, q5, q6, ↓J1 _ _ q7f]
  refine cpn (qq7 c k1 k2 n hl) ?_
  simp -implicitDefEqProofs -dsimp only [go_sem, seval, Cf.cells, p1, p2, p3, p4, p5, p6, q1, q2, q3, q4, q5, q6]
  refine J8 (fun h1 => ?_) (fun h1 => ?_)
  ·simp -implicitDefEqProofs -dsimp only [go_sem, seval, h1, Cf.cells, p1, p2, p3, p4, p5, p6, q1, q2, q3, q4, q5, q6]
   rw [Cf.learn, if_neg (by simp [h0]), if_pos h1]
   exact q7q how 7
  ·simp -implicitDefEqProofs -dsimp only [go_sem, seval, h1, Cf.cells, p1, p2, p3, p4, p5, p6, q1, q2, q3, q4, q5, q6]
   refine J8 (fun h2 => ?_) (fun h2 => ?_)
   ·have d2 : ¬ c.ln = -1 := by simpa using h2
    simp -implicitDefEqProofs -dsimp only [go_sem, seval, h1, h2, Cf.cells, p1, p2, p3, p4, p5, p6, q1, q2, q3, q4, q5, q6]
    rw [Cf.learn, if_neg (by simp [h0]), if_neg (by simp [h1]), if_pos d2]
    exact q7q how 10
   ·have d2 : c.ln = -1 := by simpa using h2
    simp -implicitDefEqProofs -dsimp only [go_sem, seval, h1, h2, Cf.cells, p1, p2, p3, p4, p5, p6, q1, q2, q3, q4, q5, q6]
    refine qde how ?_ (List.mem_cons_of_mem _ (List.mem_cons_self ..)) (List.mem_cons_self ..) rfl r3
    rw [Cf.learn, if_neg (by simp [h0]), if_neg (by simp [h1]), if_neg (by simp [d2])]
theorem qkz (c : Cf) (k1 k2 : Option Nat) (n ep : Int) (hl : Len c.ch.length) : U4 prog q35 [.agg (c.cells k1 k2), .i .i64 n, .i .u64 ep] (Cf.ret (c.promote n ep)) := by
 refine K9 O2 qdz (by simp) fun T => ?_
 unfold q8d
 simp -implicitDefEqProofs -dsimp only [go_sem, seval, Cf.cells, ↓J1 _ _ q67]
 refine CallK.of (qdd c k1 k2 n ep hl T) (fun v T1 h => ?_)
 refine J5 ?_
 rcases h with ⟨h0, rfl, rfl⟩ | ⟨h0, v1, v2, rfl, how⟩
 ·simp -implicitDefEqProofs -dsimp only [go_sem, seval, cfz, Cf.cells]
  refine qbc ?_
  rw [Cf.promote, if_pos h0]
  exact q9h 1
 ·obtain ⟨p1, p2, p3, p4, p5, p6⟩ := how.form (List.mem_cons_self ..)
  obtain ⟨q1, q2, q3, q4, q5, q6⟩ := how.form (List.mem_cons_of_mem _ (List.mem_cons_self ..))
  simp only at p1 p2 p3 p4 p5 p6 q1 q2 q3 q4 q5 q6
  have hr : c.right = true := by simp only [Cf.may, Bool.and_eq_true] at h0; exact h0.1.1
  obtain ⟨r1, r2, r3⟩ := Cf.right_len hr
  simp -implicitDefEqProofs -dsimp only [go_sem, seval, Cf.cells, p1, p2, p3, p4, p5, p6, q1, q2, q3, q4, q5, q6]
  refine J8 (fun h1 => ?_) (fun h1 => ?_)
  ·have d1 : ¬ n = c.ln := by simpa using h1
   simp -implicitDefEqProofs -dsimp only [go_sem, seval, h1, Cf.cells, p1, p2, p3, p4, p5, p6, q1, q2, q3, q4, q5, q6]
   rw [Cf.promote, if_neg (by simp [h0]), if_pos d1]
   exact q7q how 6
  ·have d1 : n = c.ln := by simpa using h1
   simp -implicitDefEqProofs -dsimp only [go_sem, seval, h1, Cf.cells, p1, p2, p3, p4, p5, p6, q1, q2, q3, q4, q5, q6]
   refine how.swap.app (m := 1) (news := q38 [n]) (by simp [N4, q38]) rfl (by simp only; omega) (by simp only; omega) fun v1' T2 how2 => ?_
   refine J5 ?_
   obtain ⟨q1, q2, q3, q4, q5, q6⟩ := how2.form (List.mem_cons_self ..)
   simp only at q1 q2 q3 q4 q5 q6
   simp -implicitDefEqProofs -dsimp only [go_sem, seval, Cf.cells, p1, p2, p3, p4, p5, p6, q1, q2, q3, q4, q5, q6]
   refine how2.swap.app (m := 1) (news := G4 [false]) (by simp [N4, G4]) rfl (by simp only; omega) (by simp only; omega) fun v2' T3 how3 => ?_
   refine J5 ?_
   obtain ⟨p1, p2, p3, p4, p5, p6⟩ := how3.form (List.mem_cons_self ..)
   simp only at p1 p2 p3 p4 p5 p6
   simp -implicitDefEqProofs -dsimp only [go_sem, seval, Cf.cells, p1, p2, p3, p4, p5, p6, q1, q2, q3, q4, q5, q6]
   simp only [qcw, qbp] at how3
   refine qde how3 ?_ (List.mem_cons_of_mem _ (List.mem_cons_self ..)) (List.mem_cons_self ..) ?_ ?_
   ·rw [Cf.promote, if_neg (by simp [h0]), if_neg (by simp [d1])]
   ·simp
   ·simp [r3]
theorem qnm (l : List Bool) (k : Nat) (h : k < l.length) : N6 (G4 l) (0 + k * 1) [.b true] = G4 (l.set k true) := by
 unfold N6 G4
 rw [List.set_eq_take_append_cons_drop, if_pos h]
 simp
theorem qs0 (c : Cf) (k1 k2 : Option Nat) (n : Int) (hl : Len c.ch.length) : U4 prog q5x [.agg (c.cells k1 k2), .i .i64 n] (Cf.ret (c.mark n)) := by
 refine K9 O2 qir (by simp) fun T => ?_
 unfold qdc
 have fail : ∀ {T : Tab}, (c.right && srv n) = false -> qdr (.tup [.agg (cfz.cells (some 0) (some 0)), .i .i64 1]) (fun v T' => v = Cf.ret (c.mark n) /\ T' = T) T := fun h => by
  rw [Cf.mark, if_pos h]; exact qbc (q9h 1)
 simp -implicitDefEqProofs -dsimp only [go_sem, seval, Cf.cells, ↓J1 _ _ J4]
 refine cpn (N0 c k1 k2 hl) ?_
 cases hr : c.right with
 | false =>
  simp -implicitDefEqProofs -dsimp only [go_sem, seval, Cf.cells, hr]
  exact fail (by simp [hr])
 | true =>
  simp -implicitDefEqProofs -dsimp only [go_sem, seval, Cf.cells, hr, ↓J1 _ _ J3]
  refine cpn (K7 n) ?_
  cases hs : srv n with
  | false =>
   simp -implicitDefEqProofs -dsimp only [go_sem, seval, Cf.cells, hs]
   exact fail (by simp [hs])
  | true =>
   have hrs : (c.right && srv n) = true := by simp [hr, hs]
   obtain ⟨r1, r2, r3⟩ := Cf.right_len hr
   have hpl := c.place_lt n
   simp -implicitDefEqProofs -dsimp only [go_sem, seval, Cf.cells, hs, ↓J1 _ _ q5l]
   refine cpn (qjl c k1 k2 n hl) ?_
   simp -implicitDefEqProofs -dsimp only [go_sem, seval]
   refine J8 (fun h1 => ?_) (fun h1 => ?_)
   ·simp -implicitDefEqProofs -dsimp only [go_sem, seval, h1]
    rw [Cf.mark, if_neg (by simp [hrs]), if_pos (of_decide_eq_true h1)]
    exact qbc (q9h 6)
   ·have d1 := of_decide_eq_false h1
    obtain ⟨k, hk⟩ : ∃ k : Nat, c.place n = k := ⟨(c.place n).toNat, by omega⟩
    have hg : c.fu[k]? = some c.fu[k] := List.getElem?_eq_getElem (by omega)
    have e1 : (k : Int) < (c.fu.length : Int) := by omega
    rw [hk] at h1 d1 hpl
    rw [hk]
    have hm : c.mark n = if c.fu[k] = true then (cfz, 7) else (⟨c.ep, c.sh, c.ch, c.fu.set k true, c.ln⟩, 0) := by
     rw [Cf.mark, if_neg (by simp [hrs]), hk, if_neg d1, Int.toNat_natCast, hg]; rfl
    simp -implicitDefEqProofs -dsimp only [go_sem, seval, h1, q3t, hg, e1, Int.natCast_nonneg, Int.toNat_natCast]
    refine J8 (fun h2 => ?_) (fun h2 => ?_)
    ·simp -implicitDefEqProofs -dsimp only [go_sem, seval, h2]
     rw [hm, if_pos h2]
     exact qbc (q9h 7)
    ·simp -implicitDefEqProofs -dsimp only [go_sem, seval, h2, ↓J1 _ _ J9]
     rw [hm, if_neg (by simp [h2])]
     refine CallK.of (q7g (xs := q38 c.ch) (q20 _) (by omega)) (fun v1 T1 o1 => ?_)
     refine J5 ?_
     obtain ⟨p1, p2, p3, p4, p5, p6⟩ := o1.form
     simp -implicitDefEqProofs -dsimp only [go_sem, seval, ↓J1 _ _ J6, p1, p2, p3, p4, p5, p6]
     refine CallK.of (q6a (xs := G4 c.fu) (G7 _) (by omega)) (fun v2 T2 o2 => ?_)
     refine J5 ?_
     have how : Owns T [⟨1, v2, c.ch.length, G4 c.fu⟩, ⟨1, v1, c.ch.length, q38 c.ch⟩] T2 := ⟨T1, ⟨T, rfl, o1⟩, by rw [<- r3]; exact o2⟩
     obtain ⟨id, rfl, i1, i2, i3⟩ := how.upd (by omega)
     have e2 : (k : Int) < (c.ch.length : Int) := by omega
     simp -implicitDefEqProofs -dsimp only [go_sem, seval, p1, p2, p3, p4, p5, p6, e2, Int.natCast_nonneg, Int.toNat_natCast]
     have hset := qnm c.fu k (by omega)
     simp only [Nat.zero_add, Nat.mul_one] at hset
     refine q3i i1 rfl rfl (by rw [G7]; omega) ?_
     rw [show (AV.b true).cells = [AV.b true] from rfl, hset]
     refine J5 ?_
     have how2 := i3 c.ch.length (G4 (c.fu.set k true)) (by simp [G7, r3])
     simp -implicitDefEqProofs -dsimp only [go_sem, seval, p1, p2, p3, p4, p5, p6]
     exact qde how2 rfl (List.mem_cons_of_mem _ (List.mem_cons_self ..)) (List.mem_cons_self ..) rfl (by simp [r3])
end Go.Aw
