import Derived.Test.YtpbnmegmhhkloaaDoorW06D05B
namespace Go.Aw
open Go
open Go.Proofs.Tryd (prog)
set_option linter.all false
set_option maxHeartbeats 4000000
def Dk.sync (d : Dk) (k : Int) : Int × Dk :=
 if isV k = 1 then (1, d) else
 if d.write.1 = 0 then (d.write.1, d.write.2.2.set k ⟨(d.get k).b, (d.get k).c, (d.get k).b.length⟩) else (d.write.1, d.write.2.2)
theorem qey {d : Dk} (hd : d.Ok) (hl : d.left <= 9223372036854775807) {T : Tab} {id : Nat} (hT : At T id d) (k : Int) :
  ACalls prog V4 [.ptr id 0, .i .i64 k] T (fun v T' => v = .i .i64 (d.sync k).1 /\ T' = T.put id (.row 8 (d.sync k).2.cells)) := by
 refine K1 O5 q8i (by simp) ?_
 unfold q3l
 have hself : T = T.put id (.row 8 d.cells) := (Tab.put_self hT).symm
 simp -implicitDefEqProofs -dsimp only [go_sem, seval, ↓J2 _ _ q07]
 refine cpn (qkd id 0 k) ?_
 rcases q4h k with hk | ⟨hk, hk2⟩
 ·rw [hk]
  simp -implicitDefEqProofs -dsimp only [go_sem, seval, decide_true, decide_false]
  refine K6 ?_ ?_
  ·rw [Dk.sync, if_pos hk]; exact .refl _
  ·rw [Dk.sync, if_pos hk]; exact hself
 ·rw [hk]
  have hap : d.sync k = if d.write.1 = 0 then (d.write.1, d.write.2.2.set k ⟨(d.get k).b, (d.get k).c, (d.get k).b.length⟩) else (d.write.1, d.write.2.2) := by
   rw [Dk.sync, if_neg (by omega)]
  obtain ⟨d', hd', hw, hwr⟩ := q10 d hd
  have cWr := qcg hd hl hT
  have hT' : T.put id (.row 8 d'.cells) id = .row 8 [.i .i64 d'.room, .fz d.a0.b.length (J1 d.a0.b) d.a0.c, .i .i64 d.a0.su, .fz d.a1.b.length (J1 d.a1.b) d.a1.c, .i .i64 d.a1.su, .b d'.lost, .b d'.armed, .i .i64 d'.left] := by
   rw [Tab.put_same]; simp only [Dk.cells, bts, hw.a0, hw.a1]
  simp -implicitDefEqProofs -dsimp only [go_sem, seval, decide_true, decide_false, ↓J2 _ _ I7]
  refine can cWr ?_
  rw [hap]
  rcases hwr with e | e | e <;> rw [e]
  ·simp -implicitDefEqProofs -dsimp only [go_sem, seval, decide_true, decide_false]
   exact K6 (.refl _) rfl
  ·simp -implicitDefEqProofs -dsimp only [go_sem, seval, decide_true, decide_false]
   exact K6 (.refl _) rfl
  ·rw [if_pos (by simp)]
   simp -implicitDefEqProofs -dsimp only [go_sem, seval, decide_true, decide_false]
   rcases hk2 with rfl | rfl
   all_goals
    simp -implicitDefEqProofs -dsimp only [go_sem, seval, decide_true, decide_false, hT', show ((2 : Nat) : Int) = 2 from rfl]
    refine O6 hT' rfl rfl (by simp) ?_
    refine J7 ?_
    simp -implicitDefEqProofs -dsimp only [go_sem, seval]
    refine K6 (.refl _) ?_
    rw [Tab.put_put]
    simp [Dk.set, Dk.get, Dk.cells, bts, hw.a1, hw.a0, N0]
def Dk.cut (d : Dk) (k n : Int) : Int × Dk :=
 if isV k = 1 then (1, d) else
 if n < 0 \/ (d.get k).b.length < n then (1, d) else
 if d.write.1 = 0 then (d.write.1, d.write.2.2.set k ⟨(d.get k).b.take n.toNat, none, n⟩) else (d.write.1, d.write.2.2)
theorem qn7 {d : Dk} (hd : d.Ok) (hl : d.left <= 9223372036854775807) {T : Tab} {id : Nat} (hT : At T id d) (k n : Int) :
  ACalls prog G9 [.ptr id 0, .i .i64 k, .i .i64 n] T (fun v T' => v = .i .i64 (d.cut k n).1 /\ T' = T.put id (.row 8 (d.cut k n).2.cells)) := by
 refine K1 O5 q9m (by simp) ?_
 unfold q49
 have hself : T = T.put id (.row 8 d.cells) := (Tab.put_self hT).symm
 have r1 := hd.r1
 have r2 := hd.fits
 have hT0 : T id = .row 8 [.i .i64 d.room, .fz d.a0.b.length (J1 d.a0.b) d.a0.c, .i .i64 d.a0.su, .fz d.a1.b.length (J1 d.a1.b) d.a1.c, .i .i64 d.a1.su, .b d.lost, .b d.armed, .i .i64 d.left] := hT
 simp -implicitDefEqProofs -dsimp only [go_sem, seval, ↓J2 _ _ q07]
 refine cpn (qkd id 0 k) ?_
 rcases q4h k with hk | ⟨hk, hk2⟩
 ·rw [hk]
  simp -implicitDefEqProofs -dsimp only [go_sem, seval, decide_true, decide_false]
  refine K6 ?_ ?_
  ·rw [Dk.cut, if_pos hk]; exact .refl _
  ·rw [Dk.cut, if_pos hk]; exact hself
 ·rw [hk]
  obtain ⟨d', hd', hw, hwr⟩ := q10 d hd
  have cWr := qcg hd hl hT
  have hT' : T.put id (.row 8 d'.cells) id = .row 8 [.i .i64 d'.room, .fz d.a0.b.length (J1 d.a0.b) d.a0.c, .i .i64 d.a0.su, .fz d.a1.b.length (J1 d.a1.b) d.a1.c, .i .i64 d.a1.su, .b d'.lost, .b d'.armed, .i .i64 d'.left] := by
   rw [Tab.put_same]; simp only [Dk.cells, bts, hw.a0, hw.a1]
  have fail : (n < 0 \/ (d.get k).b.length < n) -> qdq (.i .i64 1) (fun v T' => v = .i .i64 (d.cut k n).1 /\ T' = T.put id (.row 8 (d.cut k n).2.cells)) T := fun h => by
   refine K6 ?_ ?_
   ·rw [Dk.cut, if_neg (by omega), if_pos h]; exact .refl _
   ·rw [Dk.cut, if_neg (by omega), if_pos h]; exact hself
  have hap : ¬ (n < 0 \/ (d.get k).b.length < n) -> d.cut k n = if d.write.1 = 0 then (d.write.1, d.write.2.2.set k ⟨(d.get k).b.take n.toNat, none, n⟩) else (d.write.1, d.write.2.2) := fun h => by
   rw [Dk.cut, if_neg (by omega), if_neg h]
  rcases hk2 with rfl | rfl
  ·have hg : d.get 0 = d.a0 := rfl
   rw [hg] at fail hap
   simp -implicitDefEqProofs -dsimp only [go_sem, seval, decide_true, decide_false, hT0, show ((2 : Nat) : Int) = 2 from rfl]
   refine V6 (fun h1 => ?_) (fun h1 => ?_)
   ·simp -implicitDefEqProofs -dsimp only [go_sem, seval, h1]
    exact fail (.inl (of_decide_eq_true h1))
   ·simp -implicitDefEqProofs -dsimp only [go_sem, seval, h1, hT0]
    refine V6 (fun h2 => ?_) (fun h2 => ?_)
    ·simp -implicitDefEqProofs -dsimp only [go_sem, seval, h2]
     exact fail (.inr (of_decide_eq_true h2))
    ·have d1 := of_decide_eq_false h1
     have d2 := of_decide_eq_false h2
     have hap := hap (by omega)
     have f1 : 0 <= n := by omega
     have f2 : n.toNat <= d.a0.b.length := by omega
     have f4 : (d.a0.b.take n.toNat).length = n.toNat := by rw [List.length_take]; omega
     have cCl : ∀ cc, PCalls prog J3 [.fz n.toNat (J1 (d.a0.b.take n.toNat)) cc] (.fz n.toNat (J1 (d.a0.b.take n.toNat)) none) := fun cc => by
      have := q4x (d.a0.b.take n.toNat) cc (by omega)
      unfold bts at this
      rwa [f4] at this
     simp -implicitDefEqProofs -dsimp only [go_sem, seval, h2, ↓J2 _ _ I7]
     refine can cWr ?_
     rw [hap]
     rcases hwr with e | e | e <;> rw [e]
     ·simp -implicitDefEqProofs -dsimp only [go_sem, seval, decide_true, decide_false]
      exact K6 (.refl _) rfl
     ·simp -implicitDefEqProofs -dsimp only [go_sem, seval, decide_true, decide_false]
      exact K6 (.refl _) rfl
     ·rw [if_pos (by simp)]
      simp -implicitDefEqProofs -dsimp only [go_sem, seval, decide_true, decide_false, hT', f1, f2, Nat.zero_le, true_and, O1, ↓J2 _ _ J9]
      refine cpn (cCl _) ?_
      simp -implicitDefEqProofs -dsimp only [go_sem, seval]
      refine O6 hT' rfl rfl (by simp) ?_
      refine J7 ?_
      simp -implicitDefEqProofs -dsimp only [go_sem, seval]
      refine O6 (Tab.put_same _ _ _) rfl rfl (by simp [N0]) ?_
      refine J7 ?_
      simp -implicitDefEqProofs -dsimp only [go_sem, seval]
      refine K6 (.refl _) ?_
      simp only [Tab.put_put]
      simp [Dk.set, Dk.get, Dk.cells, bts, hw.a1, hw.a0, N0, f4]
  ·have hg : d.get 1 = d.a1 := rfl
   rw [hg] at fail hap
   simp -implicitDefEqProofs -dsimp only [go_sem, seval, decide_true, decide_false, hT0, show ((2 : Nat) : Int) = 2 from rfl]
   refine V6 (fun h1 => ?_) (fun h1 => ?_)
   ·simp -implicitDefEqProofs -dsimp only [go_sem, seval, h1]
    exact fail (.inl (of_decide_eq_true h1))
   ·simp -implicitDefEqProofs -dsimp only [go_sem, seval, h1, hT0]
    refine V6 (fun h2 => ?_) (fun h2 => ?_)
    ·simp -implicitDefEqProofs -dsimp only [go_sem, seval, h2]
     exact fail (.inr (of_decide_eq_true h2))
    ·have d1 := of_decide_eq_false h1
     have d2 := of_decide_eq_false h2
     have hap := hap (by omega)
     have f1 : 0 <= n := by omega
     have f2 : n.toNat <= d.a1.b.length := by omega
     have f4 : (d.a1.b.take n.toNat).length = n.toNat := by rw [List.length_take]; omega
     have cCl : ∀ cc, PCalls prog J3 [.fz n.toNat (J1 (d.a1.b.take n.toNat)) cc] (.fz n.toNat (J1 (d.a1.b.take n.toNat)) none) := fun cc => by
      have := q4x (d.a1.b.take n.toNat) cc (by omega)
      unfold bts at this
      rwa [f4] at this
     simp -implicitDefEqProofs -dsimp only [go_sem, seval, h2, ↓J2 _ _ I7]
     refine can cWr ?_
     rw [hap]
     rcases hwr with e | e | e <;> rw [e]
     ·simp -implicitDefEqProofs -dsimp only [go_sem, seval, decide_true, decide_false]
      exact K6 (.refl _) rfl
     ·simp -implicitDefEqProofs -dsimp only [go_sem, seval, decide_true, decide_false]
      exact K6 (.refl _) rfl
     ·rw [if_pos (by simp)]
      simp -implicitDefEqProofs -dsimp only [go_sem, seval, decide_true, decide_false, hT', f1, f2, Nat.zero_le, true_and, O1, ↓J2 _ _ J9]
      refine cpn (cCl _) ?_
      simp -implicitDefEqProofs -dsimp only [go_sem, seval]
      refine O6 hT' rfl rfl (by simp) ?_
      refine J7 ?_
      simp -implicitDefEqProofs -dsimp only [go_sem, seval]
      refine O6 (Tab.put_same _ _ _) rfl rfl (by simp [N0]) ?_
      refine J7 ?_
      simp -implicitDefEqProofs -dsimp only [go_sem, seval]
      refine K6 (.refl _) ?_
      simp only [Tab.put_put]
      simp [Dk.set, Dk.get, Dk.cells, bts, hw.a1, hw.a0, N0, f4]
def Dk.read (d : Dk) (k : Int) : AV × Int :=
 if isV k = 1 then (.fz 0 [] (some 0), 1) else if d.lost = true then (.fz 0 [] (some 0), 12) else (bts (d.get k).b none, 0)
theorem qke {d : Dk} (hd : d.Ok) {T : Tab} {id : Nat} (hT : At T id d) (k : Int) :
  ACalls prog Z9 [.ptr id 0, .i .i64 k] T (fun v T' => v = .tup [(d.read k).1, .i .i64 (d.read k).2] /\ T' = T) := by
 refine K1 O5 q8b (by simp) ?_
 unfold q3h
 have r1 := hd.r1
 have r2 := hd.fits
 have hT0 : T id = .row 8 [.i .i64 d.room, .fz d.a0.b.length (J1 d.a0.b) d.a0.c, .i .i64 d.a0.su, .fz d.a1.b.length (J1 d.a1.b) d.a1.c, .i .i64 d.a1.su, .b d.lost, .b d.armed, .i .i64 d.left] := hT
 have c0 : PCalls prog J3 [.fz d.a0.b.length (J1 d.a0.b) d.a0.c] (bts d.a0.b none) := q4x d.a0.b d.a0.c (by omega)
 have c1 : PCalls prog J3 [.fz d.a1.b.length (J1 d.a1.b) d.a1.c] (bts d.a1.b none) := q4x d.a1.b d.a1.c (by omega)
 simp -implicitDefEqProofs -dsimp only [go_sem, seval, ↓J2 _ _ q07]
 refine cpn (qkd id 0 k) ?_
 rcases q4h k with hk | ⟨hk, hk2⟩
 ·have e : d.read k = (.fz 0 [] (some 0), 1) := by rw [Dk.read, if_pos hk]
  rw [hk, e]
  simp -implicitDefEqProofs -dsimp only [go_sem, seval, decide_true, decide_false]
  exact K6 (.refl _) rfl
 ·rw [hk]
  simp -implicitDefEqProofs -dsimp only [go_sem, seval, decide_true, decide_false, hT0]
  refine V6 (fun h1 => ?_) (fun h1 => ?_)
  ·have e : d.read k = (.fz 0 [] (some 0), 12) := by rw [Dk.read, if_neg (by omega), if_pos h1]
   rw [e]
   simp -implicitDefEqProofs -dsimp only [go_sem, seval, h1]
   exact K6 (.refl _) rfl
  ·have e : d.read k = (bts (d.get k).b none, 0) := by rw [Dk.read, if_neg (by omega), if_neg (by simp [h1])]
   rw [e]
   simp -implicitDefEqProofs -dsimp only [go_sem, seval, h1]
   rcases hk2 with rfl | rfl
   ·simp -implicitDefEqProofs -dsimp only [go_sem, seval, hT0, show ((2 : Nat) : Int) = 2 from rfl, ↓J2 _ _ J9]
    refine cpn c0 ?_
    simp -implicitDefEqProofs -dsimp only [go_sem, seval, bts]
    exact K6 (.refl _) rfl
   ·simp -implicitDefEqProofs -dsimp only [go_sem, seval, hT0, show ((2 : Nat) : Int) = 2 from rfl, ↓J2 _ _ J9]
    refine cpn c1 ?_
    simp -implicitDefEqProofs -dsimp only [go_sem, seval, bts]
    exact K6 (.refl _) rfl
def Dk.sure (d : Dk) (k : Int) : Int := if isV k = 1 then 0 else (d.get k).su
theorem qot {d : Dk} {T : Tab} {id : Nat} (hT : At T id d) (k : Int) :
  ACalls prog q0d [.ptr id 0, .i .i64 k] T (fun v T' => v = .i .i64 (d.sure k) /\ T' = T) := by
 refine K1 O5 q8d (by simp) ?_
 unfold q3i
 have hT0 : T id = .row 8 [.i .i64 d.room, .fz d.a0.b.length (J1 d.a0.b) d.a0.c, .i .i64 d.a0.su, .fz d.a1.b.length (J1 d.a1.b) d.a1.c, .i .i64 d.a1.su, .b d.lost, .b d.armed, .i .i64 d.left] := hT
 simp -implicitDefEqProofs -dsimp only [go_sem, seval, ↓J2 _ _ q07]
 refine cpn (qkd id 0 k) ?_
 rcases q4h k with hk | ⟨hk, hk2⟩
 ·rw [hk, Dk.sure, if_pos hk]
  simp -implicitDefEqProofs -dsimp only [go_sem, seval, decide_true, decide_false]
  exact K6 (.refl _) rfl
 ·rw [hk, Dk.sure, if_neg (by omega)]
  simp -implicitDefEqProofs -dsimp only [go_sem, seval, decide_true, decide_false]
  rcases hk2 with rfl | rfl
  all_goals
   simp -implicitDefEqProofs -dsimp only [go_sem, seval, hT0, show ((2 : Nat) : Int) = 2 from rfl]
   exact K6 (.refl _) rfl
def Dk.arm (d : Dk) (n : Int) : Dk := { d with armed := true, left := max n 0 }
theorem qsu {d : Dk} {T : Tab} {id : Nat} (hT : At T id d) (n : Int) : ACalls prog q0n [.ptr id 0, .i .i64 n] T (fun v T' => v = .tup [] /\ T' = T.put id (.row 8 (d.arm n).cells)) := by
 refine K1 O5 q9d (by simp) ?_
 unfold q42
 have hT0 : T id = .row 8 [.i .i64 d.room, .fz d.a0.b.length (J1 d.a0.b) d.a0.c, .i .i64 d.a0.su, .fz d.a1.b.length (J1 d.a1.b) d.a1.c, .i .i64 d.a1.su, .b d.lost, .b d.armed, .i .i64 d.left] := hT
 simp -implicitDefEqProofs -dsimp only [go_sem, seval, hT0, qdw]
 refine O6 hT0 rfl rfl (by simp) ?_
 refine J7 ?_
 simp -implicitDefEqProofs -dsimp only [go_sem, seval]
 refine O6 (Tab.put_same _ _ _) rfl rfl (by simp [N0]) ?_
 refine J7 ?_
 simp -implicitDefEqProofs -dsimp only [go_sem, seval]
 refine K6 (.refl _) ?_
 simp only [Tab.put_put]
 have e : (if 0 > n then 0 else n) = max n 0 := by split <;> omega
 simp [Dk.arm, Dk.cells, bts, N0, e]
end Go.Aw
