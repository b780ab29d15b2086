import Derived.Test.YtpbnmegmhhkloaaDoorW06D05A
namespace Go.Aw
open Go
open Go.Proofs.Tryd (prog)
set_option linter.all false
set_option maxHeartbeats 4000000
def Dk.get (d : Dk) (k : Int) : Ar := if k = 0 then d.a0 else d.a1
def Dk.set (d : Dk) (k : Int) (a : Ar) : Dk := if k = 0 then { d with a0 := a } else { d with a1 := a }
theorem q4h (k : Int) : isV k = 1 \/ (isV k = 0 /\ (k = 0 \/ k = 1)) := by
 unfold isV
 split
 ·exact .inl rfl
 ·exact .inr ⟨rfl, by omega⟩
structure WrC (d d' : Dk) : Prop where
 a0 : d'.a0 = d.a0
 a1 : d'.a1 = d.a1
 room : d'.room = d.room
 left : d'.left <= d.left
theorem q10 (d : Dk) (hd : d.Ok) : ∃ d', d'.Ok /\ WrC d d' /\ (d.write = (12, false, d') \/ d.write = (12, true, d') \/ d.write = (0, false, d')) := by
 have ho := Dk.write_ok hd
 refine ⟨d.write.2.2, ho, ?_, ?_⟩
 ·unfold Dk.write
  repeat' split
  all_goals exact ⟨rfl, rfl, rfl, by simp only; omega⟩
 ·unfold Dk.write
  repeat' split
  ·exact .inl rfl
  ·exact .inr (.inl rfl)
  ·exact .inr (.inr rfl)
  ·exact .inr (.inr rfl)
def Dk.append (d : Dk) (k : Int) (b : List UInt8) : Int × Dk :=
 if isV k = 1 then (1, d) else
 if d.free < b.length then (9, d) else
 if d.write.1 = 0 \/ d.write.2.1 = true then (d.write.1, d.write.2.2.set k ⟨(d.get k).b ++ b, none, (d.get k).su⟩) else (d.write.1, d.write.2.2)
theorem qdm {d : Dk} (hd : d.Ok) (hl : d.left <= 9223372036854775807) {T : Tab} {id : Nat} (hT : At T id d) (k : Int) (b : List UInt8) (c : Option Nat) (hb : b.length < 9223372036854775808) :
  ACalls prog V7 [.ptr id 0, .i .i64 k, bts b c] T (fun v T' => v = .i .i64 (d.append k b).1 /\ T' = T.put id (.row 8 (d.append k b).2.cells)) := by
 refine K1 O5 q6m (by simp) ?_
 unfold q23
 have hself : T = T.put id (.row 8 d.cells) := (Tab.put_self hT).symm
 have r1 := hd.r1
 have r2 := hd.fits
 simp -implicitDefEqProofs -dsimp only [go_sem, seval, ↓J2 _ _ q07]
 refine cpn (qkd id 0 k) ?_
 rcases q4h k with hk | ⟨hk, hk2⟩
 ·rw [hk]
  simp -implicitDefEqProofs -dsimp only [go_sem, seval, decide_true, decide_false]
  refine K6 ?_ ?_
  ·rw [Dk.append, if_pos hk]; exact .refl _
  ·rw [Dk.append, if_pos hk]; exact hself
 ·rw [hk]
  simp -implicitDefEqProofs -dsimp only [go_sem, seval, bts, decide_true, decide_false, ↓J2 _ _ q8g]
  refine can (qos hd hT) ?_
  simp -implicitDefEqProofs -dsimp only [go_sem, seval]
  refine V6 (fun h1 => ?_) (fun h1 => ?_)
  ·simp -implicitDefEqProofs -dsimp only [go_sem, seval, h1]
   refine K6 ?_ ?_
   ·rw [Dk.append, if_neg (by omega), if_pos (of_decide_eq_true h1)]; exact .refl _
   ·rw [Dk.append, if_neg (by omega), if_pos (of_decide_eq_true h1)]; exact hself
  ·have hfit := of_decide_eq_false h1
   have hfr : d.free = d.room - d.a0.b.length - d.a1.b.length := rfl
   have hap : d.append k b = if d.write.1 = 0 \/ d.write.2.1 = true then (d.write.1, d.write.2.2.set k ⟨(d.get k).b ++ b, none, (d.get k).su⟩) else (d.write.1, d.write.2.2) := by
    rw [Dk.append, if_neg (by omega), if_neg hfit]
   obtain ⟨d', hd', hw, hwr⟩ := q10 d hd
   have cWr := qcg hd hl hT
   have hT' : T.put id (.row 8 d'.cells) id = .row 8 [.i .i64 d'.room, .fz d.a0.b.length (J1 d.a0.b) d.a0.c, .i .i64 d.a0.su, .fz d.a1.b.length (J1 d.a1.b) d.a1.c, .i .i64 d.a1.su, .b d'.lost, .b d'.armed, .i .i64 d'.left] := by
    rw [Tab.put_same]; simp only [Dk.cells, bts, hw.a0, hw.a1]
   have c0 : PCalls prog K0 [.fz 2 [.fz d.a0.b.length (J1 d.a0.b) d.a0.c, .fz b.length (J1 b) c] (some 2)] (bts (d.a0.b ++ b) none) := q4f d.a0.b b d.a0.c c (by omega) (by omega)
   have c1 : PCalls prog K0 [.fz 2 [.fz d.a1.b.length (J1 d.a1.b) d.a1.c, .fz b.length (J1 b) c] (some 2)] (bts (d.a1.b ++ b) none) := q4f d.a1.b b d.a1.c c (by omega) (by omega)
   simp -implicitDefEqProofs -dsimp only [go_sem, seval, h1, ↓J2 _ _ I7]
   refine can cWr ?_
   rw [hap]
   rcases hwr with e | e | e <;> rw [e]
   ·simp -implicitDefEqProofs -dsimp only [go_sem, seval, decide_true, decide_false]
    rw [if_neg (by simp)]
    exact K6 (.refl _) rfl
   all_goals
    rw [if_pos (by simp)]
    simp -implicitDefEqProofs -dsimp only [go_sem, seval, decide_true, decide_false]
    rcases hk2 with rfl | rfl
    ·simp -implicitDefEqProofs -dsimp only [go_sem, seval, decide_true, decide_false, hT', show ((2 : Nat) : Int) = 2 from rfl, ↓J2 _ _ K9]
     refine cpn c0 ?_
     simp -implicitDefEqProofs -dsimp only [go_sem, seval, bts]
     refine O6 hT' rfl rfl (by simp) ?_
     refine J7 ?_
     simp -implicitDefEqProofs -dsimp only [go_sem, seval]
     refine K6 (.refl _) ?_
     rw [Tab.put_put]
     simp [Dk.set, Dk.get, Dk.cells, bts, hw.a1, N0]
    ·simp -implicitDefEqProofs -dsimp only [go_sem, seval, decide_true, decide_false, hT', show ((2 : Nat) : Int) = 2 from rfl, ↓J2 _ _ K9]
     refine cpn c1 ?_
     simp -implicitDefEqProofs -dsimp only [go_sem, seval, bts]
     refine O6 hT' rfl rfl (by simp) ?_
     refine J7 ?_
     simp -implicitDefEqProofs -dsimp only [go_sem, seval]
     refine K6 (.refl _) ?_
     rw [Tab.put_put]
     simp [Dk.set, Dk.get, Dk.cells, bts, hw.a0, N0]
end Go.Aw
