import Derived.Test.YtpbnmegmhhkloaaDoorW06F04M
import Derived.Test.YtpbnmegmhhkloaaDoorT06Txt
import Derived.Test.YtpbnmegmhhkloaaDoorAwD
namespace Go.Aw
open Go
open Go.Proofs.Tryd (prog)
set_option linter.all false
set_option maxHeartbeats 4000000
structure Ar where
 b : List UInt8
 c : Option Nat
 su : Int
structure Dk where
 room : Int
 a0 : Ar
 a1 : Ar
 lost : Bool
 armed : Bool
 left : Int
def Ar.cells (a : Ar) : List AV := [bts a.b a.c, .i .i64 a.su]
def Dk.cells (d : Dk) : List AV := [.i .i64 d.room, bts d.a0.b d.a0.c, .i .i64 d.a0.su, bts d.a1.b d.a1.c, .i .i64 d.a1.su, .b d.lost, .b d.armed, .i .i64 d.left]
structure Ar.Ok (a : Ar) : Prop where
 s0 : 0 <= a.su
 s1 : a.su <= a.b.length
structure Dk.Ok (d : Dk) : Prop where
 r0 : 0 <= d.room
 r1 : d.room <= 1048576
 fits : (d.a0.b.length : Int) + d.a1.b.length <= d.room
 o0 : d.a0.Ok
 o1 : d.a1.Ok
 l0 : 0 <= d.left
def Dk.new (r : Int) : Dk := ⟨min (max r 0) 1048576, ⟨[], some 0, 0⟩, ⟨[], some 0, 0⟩, false, false, 0⟩
theorem Dk.new_ok (r : Int) : (Dk.new r).Ok := ⟨by simp only [Dk.new]; omega, by simp only [Dk.new]; omega, by simp [Dk.new]; omega, ⟨by simp [Dk.new], by simp [Dk.new]⟩, ⟨by simp [Dk.new], by simp [Dk.new]⟩, by simp [Dk.new]⟩
def At (T : Tab) (id : Nat) (d : Dk) : Prop := T id = .row 8 d.cells
theorem qkc (r : Int) (T : Tab) : ACalls prog q2j [.i .i64 r] T (fun v T' => ∃ id, v = .ptr id 0 /\ T id = .unused /\ T' = T.put id (.row 8 (Dk.new r).cells)) := by
 refine K1 O5 qgp (by simp) ?_
 unfold qb3
 simp -implicitDefEqProofs -dsimp only [go_sem, seval, qdw]
 intro id hid
 refine J7 ?_
 simp -implicitDefEqProofs -dsimp only [go_sem, seval]
 refine q19 _ (fun _ => .inr (.inl rfl)) ⟨id, rfl, hid, ?_⟩
 have e : (if 1048576 < if 0 > r then 0 else r then 1048576 else if 0 > r then 0 else r) = min (max r 0) 1048576 := by
  by_cases h : 0 > r
  ·rw [if_pos h]; simp; omega
  ·rw [if_neg h]; split <;> omega
 rw [e]
 rfl
def isV (k : Int) : Int := if k < 0 \/ 2 <= k then 1 else 0
theorem qkd (id o : Nat) (k : Int) : PCalls prog U7 [.ptr id o, .i .i64 k] (.i .i64 (isV k)) := by
 refine K7 O5 qa9 (by simp) fun T => ?_
 unfold q59
 simp -implicitDefEqProofs -dsimp only [go_sem, seval]
 (first | (apply V6 <;> intro h_1 <;> simp -implicitDefEqProofs -dsimp only [go_sem, seval, q7p, h_1]) | (have h_1 := trivial)) <;>
  (first | (apply V6 <;> intro h_2 <;> simp -implicitDefEqProofs -dsimp only [go_sem, seval, q7p, h_1, h_2]) | (have h_2 := trivial)) <;>
  (first | (apply V6 <;> intro h_3 <;> simp -implicitDefEqProofs -dsimp only [go_sem, seval, q7p, h_1, h_2, h_3]) | (have h_3 := trivial)) <;>
  (first | (apply V6 <;> intro h_4 <;> simp -implicitDefEqProofs -dsimp only [go_sem, seval, q7p, h_1, h_2, h_3, h_4]) | (have h_4 := trivial))
 all_goals
  refine J8 ?_
  simp_all [isV]
  try omega
def Dk.free (d : Dk) : Int := d.room - d.a0.b.length - d.a1.b.length
theorem qos {d : Dk} (hd : d.Ok) {T : Tab} {id : Nat} (hT : At T id d) : ACalls prog q0e [.ptr id 0] T (fun v T' => v = .i .i64 d.free /\ T' = T) := by
 refine K1 O5 q8f (by simp) ?_
 unfold q3k
 unfold At at hT
 have r0 := hd.r0; have r1 := hd.r1; have r2 := hd.fits
 have w1 : IntKind.i64.wrap (d.room - d.a0.b.length) = d.room - d.a0.b.length := K8 (by unfold I64; omega)
 have w2 : IntKind.i64.wrap (d.room - d.a0.b.length - d.a1.b.length) = d.free := K8 (by unfold I64; omega)
 have w3 : IntKind.i64.wrap 1 = 1 := rfl
 have w4 : IntKind.i64.wrap 2 = 2 := rfl
 simp -implicitDefEqProofs -dsimp only [go_sem, seval, hT, Dk.cells]
 refine N6 (l := I6) rfl (by repeat' (first | exact N3 _ _ | assumption | apply N2 | apply K3 | apply V2)) ?_
 unfold G5
 simp -implicitDefEqProofs -dsimp only [go_sem, seval, hT, Dk.cells, bts, w1, w3, show ((2 : Nat) : Int) = 2 from rfl]
 refine N6 (l := I6) rfl (by repeat' (first | exact N3 _ _ | assumption | apply N2 | apply K3 | apply V2)) ?_
 unfold G5
 simp -implicitDefEqProofs -dsimp only [go_sem, seval, hT, Dk.cells, bts, w2, w4, show ((2 : Nat) : Int) = 2 from rfl, show (1 : Int).toNat = 1 from rfl]
 refine N6 (l := I6) rfl (by repeat' (first | exact N3 _ _ | assumption | apply N2 | apply K3 | apply V2)) ?_
 unfold G5
 simp -implicitDefEqProofs -dsimp only [go_sem, seval, hT, Dk.cells, bts]
 exact J8 rfl
def Dk.write (d : Dk) : Int × Bool × Dk :=
 if d.lost = true then (12, false, d) else
 if d.armed = true /\ d.left = 0 then (12, true, { d with lost := true }) else
 if d.armed = true then (0, false, { d with left := d.left - 1 }) else (0, false, d)
theorem qcg {d : Dk} (hd : d.Ok) (hl : d.left <= 9223372036854775807) {T : Tab} {id : Nat} (hT : At T id d) :
  ACalls prog U8 [.ptr id 0] T (fun v T' => v = .tup [.i .i64 d.write.1, .b d.write.2.1] /\ T' = T.put id (.row 8 d.write.2.2.cells)) := by
 refine K1 O5 q7j (by simp) ?_
 unfold q2q
 unfold At at hT
 have hT' := hT
 unfold Dk.cells at hT'
 have w1 : IntKind.i64.wrap (d.left - 1) = d.left - 1 := K8 (by have := hd.l0; unfold I64; omega)
 simp -implicitDefEqProofs -dsimp only [go_sem, seval, hT, Dk.cells]
 refine V6 (fun h => ?_) (fun h => ?_)
 ·simp -implicitDefEqProofs -dsimp only [go_sem, seval, h]
  refine q19 _ (fun _ => .inr (.inl rfl)) ⟨by simp [Dk.write, h], ?_⟩
  rw [Dk.write, if_pos h]
  exact (Tab.put_self hT).symm
 ·simp -implicitDefEqProofs -dsimp only [go_sem, seval, h, hT']
  refine V6 (fun h1 => ?_) (fun h1 => ?_)
  ·simp -implicitDefEqProofs -dsimp only [go_sem, seval, h1, hT']
   refine V6 (fun h2 => ?_) (fun h2 => ?_)
   ·have e : d.write = (12, true, { d with lost := true }) := by rw [Dk.write, if_neg (by simp [h]), if_pos ⟨h1, of_decide_eq_true h2⟩]
    rw [e]
    simp -implicitDefEqProofs -dsimp only [go_sem, seval, h2, hT']
    refine O6 hT' rfl rfl (by simp) ?_
    refine J7 ?_
    simp -implicitDefEqProofs -dsimp only [go_sem, seval]
    exact q19 _ (fun _ => .inr (.inl rfl)) ⟨rfl, rfl⟩
   ·have e : d.write = (0, false, { d with left := d.left - 1 }) := by rw [Dk.write, if_neg (by simp [h]), if_neg (fun hx => of_decide_eq_false h2 hx.2), if_pos h1]
    rw [e]
    simp -implicitDefEqProofs -dsimp only [go_sem, seval, h2, hT', h1, w1]
    refine O6 hT' rfl rfl (by simp) ?_
    refine J7 ?_
    simp -implicitDefEqProofs -dsimp only [go_sem, seval]
    exact q19 _ (fun _ => .inr (.inl rfl)) ⟨rfl, rfl⟩
  ·have e : d.write = (0, false, d) := by rw [Dk.write, if_neg (by simp [h]), if_neg (by simp [h1]), if_neg (by simp [h1])]
   rw [e]
   simp -implicitDefEqProofs -dsimp only [go_sem, seval, h1, hT']
   exact q19 _ (fun _ => .inr (.inl rfl)) ⟨rfl, (Tab.put_self hT).symm⟩
theorem Dk.write_ok {d : Dk} (hd : d.Ok) : d.write.2.2.Ok := by
 obtain ⟨h1, h2, h3, h4, h5, h6⟩ := hd
 unfold Dk.write
 repeat' split
 all_goals first
  | exact ⟨h1, h2, h3, h4, h5, h6⟩
  | (refine ⟨h1, h2, h3, h4, h5, ?_⟩
     simp_all
     try omega)
end Go.Aw
