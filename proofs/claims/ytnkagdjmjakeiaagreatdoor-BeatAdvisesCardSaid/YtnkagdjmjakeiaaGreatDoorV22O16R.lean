import Derived.Test.YtnkagdjmjakeiaaGreatDoorAwD
import Derived.Test.YtnkagdjmjakeiaaGreatDoorV22T16J
namespace Go.Aw
open Go
open Go.Proofs.Tryz (prog)
set_option linter.all false
set_option maxHeartbeats 4000000
def bts (b : List UInt8) (c : Option Nat) : AV := .fz b.length (N3 b) c
theorem z0c {b : List UInt8} {c : Option Nat} : AV.plain (bts b c) = true := rfl
theorem qvw {b : List UInt8} {c : Option Nat} : AV.isLp (bts b c) = false := rfl
theorem qvx {b : List UInt8} {c : Option Nat} : AV.isOne (bts b c) = true := rfl
theorem qvy {b : List UInt8} {c : Option Nat} : AV.sto (bts b c) = true := rfl
theorem qvz {b : List UInt8} {c : Option Nat} : AV.cells (bts b c) = [bts b c] := rfl
theorem qw0 {b : List UInt8} {c : Option Nat} (j : Nat) : AV.offLp j (bts b c) = bts b c := rfl
theorem qw1 {b : List UInt8} {c : Option Nat} : qfi false (bts b c) = some (.i .i64 b.length) := rfl
attribute [go_sem] z0c qvw qvx qvy qvz qw0
attribute [go_sem ↓] qw1
theorem G3 (l : List UInt8) : (N3 l).length = l.length := by simp [N3]
theorem q8y (l m : List UInt8) : N3 l ++ N3 m = N3 (l ++ m) := by simp [N3]
theorem z3k (m : Nat) : Int.fdiv (m : Int) (2 ^ min 7 64) = ((m / 128 : Nat) : Int) := by
 rw [show (2 : Int) ^ min 7 64 = 128 from rfl, Int.fdiv_eq_ediv_of_nonneg _ (by decide)]
 omega
theorem qw2 {R : U6} (hR : ExtR R) {T : Tab} : ∀ (j m : Nat), m < 128 ^ (j + 1) -> m < 18446744073709551616 -> ∀ (xs : List UInt8) (v : AV) (T1 : Tab), xs.length + j <= 1000000100 ->
  Own T 1 v xs.length (N3 xs) T1 ->
  (∀ (xs' : List UInt8) (n : Nat) v T1, n < 128 -> xs' ++ [UInt8.ofNat n] = xs ++ enc m -> Own T 1 v xs'.length (N3 xs') T1 -> R (.exit 0) [(1, .i .u64 n), (5, v), (9, .b false)] [] T1) ->
  AW prog q4q R [(1, .i .u64 m), (5, v)] [] T1 := by
 intro j
 induction j with
 | zero =>
  intro m hm hm2 xs v T1 hx ho h2
  obtain ⟨p1, p2, p3, p4, p5, p6⟩ := ho.form
  have d : decide ((128 : Int) <= m) = false := decide_eq_false (by omega)
  refine O4 (l := q4q) rfl hR ?_
  unfold q5d
  simp -implicitDefEqProofs -dsimp only [go_sem, seval, d, p1, p2, p3, p4, p5, p6]
  exact h2 xs m v T1 (by omega) (by rw [q1d (by omega)]) ho
 | succ j ih =>
  intro m hm hm2 xs v T1 hx ho h2
  obtain ⟨p1, p2, p3, p4, p5, p6⟩ := ho.form
  by_cases hs : m < 128
  ·have d : decide ((128 : Int) <= m) = false := decide_eq_false (by omega)
   refine O4 (l := q4q) rfl hR ?_
   unfold q5d
   simp -implicitDefEqProofs -dsimp only [go_sem, seval, d, p1, p2, p3, p4, p5, p6]
   exact h2 xs m v T1 hs (by rw [q1d hs]) ho
  ·have d : decide ((128 : Int) <= m) = true := decide_eq_true (by omega)
   have hor : IntKind.u8.wrap ((BitVec.ofInt IntKind.u8.bits (IntKind.u8.wrap (m : Int)) ||| BitVec.ofInt IntKind.u8.bits 128).toNat : Nat) = ((m % 128 + 128 : Nat) : Int) := qvk m
   have e8 : ((m % 128 + 128 : Nat) : Int) = ((UInt8.ofNat (m % 128 + 128)).toNat : Int) := by
    rw [UInt8.toNat_ofNat_of_lt' (by show m % 128 + 128 < 256; omega)]
   refine O4 (l := q4q) rfl hR ?_
   unfold q5d
   simp -implicitDefEqProofs -dsimp only [go_sem, seval, d, hor, p1, p2, p3, p4, p5, p6]
   refine ho.app (m := 1) (news := N3 [UInt8.ofNat (m % 128 + 128)]) (by rw [e8]; rfl) rfl (by omega) (by omega) fun v2 T2 ho => J3 ?_
   obtain ⟨p1, p2, p3, p4, p5, p6⟩ := ho.form
   simp -implicitDefEqProofs -dsimp only [go_sem, seval, p1, p2, p3, p4, p5, p6]
   rw [z3k]
   have hp : m / 128 < 128 ^ (j + 1) := by rw [Nat.div_lt_iff_lt_mul (by decide)]; rw [Nat.pow_succ] at hm; omega
   refine ih (m / 128) hp (by omega) (xs ++ [UInt8.ofNat (m % 128 + 128)]) v2 T2 (by simp; omega) (by rw [List.length_append, <- q8y]; exact ho) (fun xs' n v T1 hn he ho => ?_)
   exact h2 xs' n v T1 hn (by rw [he, qbn hs, List.append_assoc]; rfl) ho
theorem qg0 {n : Nat} (h : n < 256) : ((UInt8.ofNat n).toNat : Int) = n := by rw [UInt8.toNat_ofNat_of_lt' h]
theorem qjt (b : List UInt8) (c : Option Nat) (m : Nat) (hb : b.length <= 1000000000) (hm : m < 18446744073709551616) : Q4 prog q3b [bts b c, .i .u64 m] (bts (b ++ enc m) none) := by
 refine K8 O1 qmc (by simp) fun T => ?_
 unfold qgs
 simp -implicitDefEqProofs -dsimp only [go_sem, seval, bts, ↓J0 _ _ q3p]
 refine CallK.of (qjm (G3 b) hb) (fun v T1 ho => J3 ?_)
 obtain ⟨p1, p2, p3, p4, p5, p6⟩ := ho.form
 simp -implicitDefEqProofs -dsimp only [go_sem, seval, p1, p2, p3, p4, p5, p6]
 refine qw2 (T := T) (by repeat' (first | exact N8 _ _ | assumption | apply N7 | apply N0 | apply V0)) 9 m (by omega) hm b v T1 (by omega) ho (fun xs' n v T2 hn he ho => ?_)
 obtain ⟨p1, p2, p3, p4, p5, p6⟩ := ho.form
 have hlen : xs'.length + 1 = (b ++ enc m).length := by rw [<- he]; simp
 have h10 := qdc hm
 have hbd : xs'.length <= 1000000010 := by rw [List.length_append] at hlen; omega
 have hw : IntKind.u8.wrap (n : Int) = ((UInt8.ofNat n).toNat : Int) := by rw [qg0 (by omega), qbo]; omega
 simp -implicitDefEqProofs -dsimp only [go_sem, seval, hw, p1, p2, p3, p4, p5, p6]
 refine ho.app (m := 1) (news := N3 [UInt8.ofNat n]) rfl rfl (by omega) (by omega) fun v2 T3 ho => J3 ?_
 obtain ⟨p1, p2, p3, p4, p5, p6⟩ := ho.form
 simp -implicitDefEqProofs -dsimp only [go_sem, seval, p1, p2, p3, p4, p5, p6]
 rw [q8y, he, hlen] at ho
 exact ho.fzn
theorem q66 {n : Nat} (h : n < 18446744073709551616) : IntKind.u64.wrap (n : Int) = n := IntWalk.u64_in _ (by omega)
theorem qw3 : ∀ (k m : Nat), m < 128 ^ (k + 1) -> m < 18446744073709551616 -> ∀ T, ACalls prog G0 [.i .u64 m] T (fun v T' => v = bts (enc m) (if m < 128 then some 1 else none) /\ T' = T) := by
 intro k
 induction k with
 | zero =>
  intro m hm hm2 T
  have hs : m < 128 := by omega
  have d : decide ((m : Int) < 128) = true := decide_eq_true (by omega)
  have hw : IntKind.u8.wrap (m : Int) = ((UInt8.ofNat m).toNat : Int) := by rw [qg0 (by omega), qbo]; omega
  refine K3 O1 q48 (by simp) ?_
  unfold q1u
  simp -implicitDefEqProofs -dsimp only [go_sem, seval, d, hw]
  rw [if_pos hs, q1d hs]
  exact O6 (.refl _) rfl
 | succ k ih =>
  intro m hm hm2 T
  by_cases hs : m < 128
  ·have d : decide ((m : Int) < 128) = true := decide_eq_true (by omega)
   have hw : IntKind.u8.wrap (m : Int) = ((UInt8.ofNat m).toNat : Int) := by rw [qg0 (by omega), qbo]; omega
   refine K3 O1 q48 (by simp) ?_
   unfold q1u
   simp -implicitDefEqProofs -dsimp only [go_sem, seval, d, hw]
   rw [if_pos hs, q1d hs]
   exact O6 (.refl _) rfl
  ·have d : decide ((m : Int) < 128) = false := decide_eq_false (by omega)
   have e1 : Int.tmod (m : Int) 128 = ((m % 128 : Nat) : Int) := by rw [Int.tmod_eq_emod_of_nonneg (by omega)]; omega
   have e2 : Int.tdiv (m : Int) 128 = ((m / 128 : Nat) : Int) := by rw [Int.tdiv_eq_ediv_of_nonneg (by omega)]; omega
   have e3 : IntKind.u64.wrap (((m % 128 : Nat) : Int) + 128) = ((m % 128 + 128 : Nat) : Int) := by rw [IntWalk.u64_in _ (by omega)]; omega
   have e4 : IntKind.u8.wrap ((m % 128 + 128 : Nat) : Int) = ((UInt8.ofNat (m % 128 + 128)).toNat : Int) := by rw [qg0 (by omega), qbo]; omega
   have e5 : IntKind.u64.wrap ((m / 128 : Nat) : Int) = ((m / 128 : Nat) : Int) := q66 (by omega)
   have z1 : ((128 : Int) = 0) = False := by simp
   have hp : m / 128 < 128 ^ (k + 1) := by rw [Nat.div_lt_iff_lt_mul (by decide)]; rw [Nat.pow_succ] at hm; omega
   have hne : 0 < (enc (m / 128)).length := List.length_pos_iff.2 (qqu _)
   have h10 := qdc (m := m / 128) (by omega)
   refine K3 O1 q48 (by simp) ?_
   unfold q1u
   simp -implicitDefEqProofs -dsimp only [go_sem, seval, d, e1, e2, e3, e4, e5, z1, ↓J0 _ _ q6z]
   refine can (ih (m / 128) hp (by omega) T) ?_
   simp -implicitDefEqProofs -dsimp only [go_sem, seval, bts]
   refine qnf (m := (enc (m / 128)).length) (news := N3 (enc (m / 128))) (by simp [N2, G3]) rfl hne rfl (by omega) (by omega) fun v2 T3 ho => J3 ?_
   obtain ⟨p1, p2, p3, p4, p5, p6⟩ := ho.form
   simp -implicitDefEqProofs -dsimp only [go_sem, seval, p1, p2, p3, p4, p5, p6]
   rw [if_neg hs, qbn hs]
   have : ([AV.i .u8 ((UInt8.ofNat (m % 128 + 128)).toNat : Int)] ++ N3 (enc (m / 128))) = N3 (UInt8.ofNat (m % 128 + 128) :: enc (m / 128)) := rfl
   rw [this, Nat.add_comm 1] at ho
   exact ho.fzn
theorem qw4 (m : Nat) (hm : m < 18446744073709551616) : Q4 prog G0 [.i .u64 m] (bts (enc m) (if m < 128 then some 1 else none)) := fun T => qw3 9 m (by omega) hm T
end Go.Aw
