import Derived.Test.YtnkagdjmjakeiaaGreatDoorAwD
import Derived.Test.YtnkagdjmjakeiaaGreatDoorV22T16J
namespace Go.Aw
open Go
open Go.Proofs.Tryz (prog)
set_option linter.all false
set_option maxHeartbeats 4000000
def bts (b : List UInt8) (c : Option Nat) : AV := .fz b.length (N9 b) c
theorem qvk {b : List UInt8} {c : Option Nat} : AV.plain (bts b c) = true := rfl
theorem qrc {b : List UInt8} {c : Option Nat} : AV.isLp (bts b c) = false := rfl
theorem qrd {b : List UInt8} {c : Option Nat} : AV.isOne (bts b c) = true := rfl
theorem qre {b : List UInt8} {c : Option Nat} : AV.sto (bts b c) = true := rfl
theorem qrf {b : List UInt8} {c : Option Nat} : AV.cells (bts b c) = [bts b c] := rfl
theorem qrg {b : List UInt8} {c : Option Nat} (j : Nat) : AV.offLp j (bts b c) = bts b c := rfl
theorem qrh {b : List UInt8} {c : Option Nat} : qbz false (bts b c) = some (.i .i64 b.length) := rfl
attribute [go_sem] qvk qrc qrd qre qrf qrg
attribute [go_sem ↓] qrh
theorem q3j (l : List UInt8) : (N9 l).length = l.length := by simp [N9]
theorem q6f (l m : List UInt8) : N9 l ++ N9 m = N9 (l ++ m) := by simp [N9]
theorem qyw (m : Nat) : Int.fdiv (m : Int) (2 ^ min 7 64) = ((m / 128 : Nat) : Int) := by
 rw [show (2 : Int) ^ min 7 64 = 128 from rfl, Int.fdiv_eq_ediv_of_nonneg _ (by decide)]
 omega
theorem qri {R : Y5} (hR : ExtR R) {T : Tab} : ∀ (j m : Nat), m < 128 ^ (j + 1) -> m < 18446744073709551616 -> ∀ (xs : List UInt8) (v : AV) (T1 : Tab), xs.length + j <= 1000000100 ->
  Own T 1 v xs.length (N9 xs) T1 ->
  (∀ (xs' : List UInt8) (n : Nat) v T1, n < 128 -> xs' ++ [UInt8.ofNat n] = xs ++ enc m -> Own T 1 v xs'.length (N9 xs') T1 -> R (.exit 0) [(1, .i .u64 n), (5, v), (9, .b false)] [] T1) ->
  AW prog q3c R [(1, .i .u64 m), (5, v)] [] T1 := by
 intro j
 induction j with
 | zero =>
  intro m hm hm2 xs v T1 hx ho h2
  obtain ⟨p1, p2, p3, p4, p5, p6⟩ := ho.form
  have d : decide ((128 : Int) <= m) = false := decide_eq_false (by omega)
  refine Q7 (l := q3c) rfl hR ?_
  unfold q3v
  simp -implicitDefEqProofs -dsimp only [go_sem, seval, d, p1, p2, p3, p4, p5, p6]
  exact h2 xs m v T1 (by omega) (by rw [q39 (by omega)]) ho
 | succ j ih =>
  intro m hm hm2 xs v T1 hx ho h2
  obtain ⟨p1, p2, p3, p4, p5, p6⟩ := ho.form
  by_cases hs : m < 128
  ·have d : decide ((128 : Int) <= m) = false := decide_eq_false (by omega)
   refine Q7 (l := q3c) rfl hR ?_
   unfold q3v
   simp -implicitDefEqProofs -dsimp only [go_sem, seval, d, p1, p2, p3, p4, p5, p6]
   exact h2 xs m v T1 hs (by rw [q39 hs]) ho
  ·have d : decide ((128 : Int) <= m) = true := decide_eq_true (by omega)
   have hor : IntKind.u8.wrap ((BitVec.ofInt IntKind.u8.bits (IntKind.u8.wrap (m : Int)) ||| BitVec.ofInt IntKind.u8.bits 128).toNat : Nat) = ((m % 128 + 128 : Nat) : Int) := qr3 m
   have e8 : ((m % 128 + 128 : Nat) : Int) = ((UInt8.ofNat (m % 128 + 128)).toNat : Int) := by
    rw [UInt8.toNat_ofNat_of_lt' (by show m % 128 + 128 < 256; omega)]
   refine Q7 (l := q3c) rfl hR ?_
   unfold q3v
   simp -implicitDefEqProofs -dsimp only [go_sem, seval, d, hor, p1, p2, p3, p4, p5, p6]
   refine ho.app (m := 1) (news := N9 [UInt8.ofNat (m % 128 + 128)]) (by rw [e8]; rfl) rfl (by omega) (by omega) fun v2 T2 ho => J5 ?_
   obtain ⟨p1, p2, p3, p4, p5, p6⟩ := ho.form
   simp -implicitDefEqProofs -dsimp only [go_sem, seval, p1, p2, p3, p4, p5, p6]
   rw [qyw]
   have hp : m / 128 < 128 ^ (j + 1) := by rw [Nat.div_lt_iff_lt_mul (by decide)]; rw [Nat.pow_succ] at hm; omega
   refine ih (m / 128) hp (by omega) (xs ++ [UInt8.ofNat (m % 128 + 128)]) v2 T2 (by simp; omega) (by rw [List.length_append, <- q6f]; exact ho) (fun xs' n v T1 hn he ho => ?_)
   exact h2 xs' n v T1 hn (by rw [he, qfh hs, List.append_assoc]; rfl) ho
theorem qp4 {n : Nat} (h : n < 256) : ((UInt8.ofNat n).toNat : Int) = n := by rw [UInt8.toNat_ofNat_of_lt' h]
theorem qg5 (b : List UInt8) (c : Option Nat) (m : Nat) (hb : b.length <= 1000000000) (hm : m < 18446744073709551616) : U4 prog q22 [bts b c, .i .u64 m] (bts (b ++ enc m) none) := by
 refine K9 O2 qig (by simp) fun T => ?_
 unfold qd3
 simp -implicitDefEqProofs -dsimp only [go_sem, seval, bts, ↓J1 _ _ q2b]
 refine CallK.of (qfy (q3j b) hb) (fun v T1 ho => J5 ?_)
 obtain ⟨p1, p2, p3, p4, p5, p6⟩ := ho.form
 simp -implicitDefEqProofs -dsimp only [go_sem, seval, p1, p2, p3, p4, p5, p6]
 refine qri (T := T) (by repeat' (first | exact O6 _ _ | assumption | apply O5 | apply N2 | apply Z8)) 9 m (by omega) hm b v T1 (by omega) ho (fun xs' n v T2 hn he ho => ?_)
 obtain ⟨p1, p2, p3, p4, p5, p6⟩ := ho.form
 have hlen : xs'.length + 1 = (b ++ enc m).length := by rw [<- he]; simp
 have h10 := qh0 hm
 have hbd : xs'.length <= 1000000010 := by rw [List.length_append] at hlen; omega
 have hw : IntKind.u8.wrap (n : Int) = ((UInt8.ofNat n).toNat : Int) := by rw [qp4 (by omega), qfi]; omega
 simp -implicitDefEqProofs -dsimp only [go_sem, seval, hw, p1, p2, p3, p4, p5, p6]
 refine ho.app (m := 1) (news := N9 [UInt8.ofNat n]) rfl rfl (by omega) (by omega) fun v2 T3 ho => J5 ?_
 obtain ⟨p1, p2, p3, p4, p5, p6⟩ := ho.form
 simp -implicitDefEqProofs -dsimp only [go_sem, seval, p1, p2, p3, p4, p5, p6]
 rw [q6f, he, hlen] at ho
 exact ho.fzn
theorem qan {n : Nat} (h : n < 18446744073709551616) : IntKind.u64.wrap (n : Int) = n := IntWalk.u64_in _ (by omega)
end Go.Aw
