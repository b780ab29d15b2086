import Derived.Test.YtpbnmegmhhkloaaDoorW06F04A
import Derived.Test.YtpbnmegmhhkloaaDoorW06F04M
import Derived.Test.YtpbnmegmhhkloaaDoorAwD
import Derived.Test.YtpbnmegmhhkloaaDoorT06Txt
namespace Go.Aw
open Go
open Go.Proofs.Tryd (prog)
set_option linter.all false
set_option maxHeartbeats 4000000
attribute [go_sem] qn6 qji qjj qjk qjl qjm
attribute [go_sem ↓] qjn
theorem qw9 (m : Nat) : Int.fdiv (m : Int) (2 ^ min 7 64) = ((m / 128 : Nat) : Int) := by
 rw [show (2 : Int) ^ min 7 64 = 128 from rfl, Int.fdiv_eq_ediv_of_nonneg _ (by decide)]
 omega
theorem qok {R : Z1} (hR : ExtR R) {T : Tab} : ∀ (j m : Nat), m < 128 ^ (j + 1) -> m < 18446744073709551616 -> ∀ (xs : List UInt8) (v : AV) (T1 : Tab), xs.length + j <= 1000000100 ->
  Own T 1 v xs.length (J1 xs) T1 ->
  (∀ (xs' : List UInt8) (n : Nat) v T1, n < 128 -> xs' ++ [UInt8.ofNat n] = xs ++ enc m -> Own T 1 v xs'.length (J1 xs') T1 -> R (.exit 0) [(1, .i .u64 n), (5, v), (9, .b false)] [] T1) ->
  AW prog q17 R [(1, .i .u64 m), (5, v)] [] T1 := by
 intro j
 induction j with
 | zero =>
  intro m hm hm2 xs v T1 hx ho h2
  obtain ⟨p1, p2, p3, p4, p5, p6⟩ := ho.form
  have d : decide ((128 : Int) <= m) = false := decide_eq_false (by omega)
  refine N6 (l := q17) rfl hR ?_
  unfold q1h
  simp -implicitDefEqProofs -dsimp only [go_sem, seval, d, p1, p2, p3, p4, p5, p6]
  exact h2 xs m v T1 (by omega) (by rw [q04 (by omega)]) ho
 | succ j ih =>
  intro m hm hm2 xs v T1 hx ho h2
  obtain ⟨p1, p2, p3, p4, p5, p6⟩ := ho.form
  by_cases hs : m < 128
  ·have d : decide ((128 : Int) <= m) = false := decide_eq_false (by omega)
   refine N6 (l := q17) rfl hR ?_
   unfold q1h
   simp -implicitDefEqProofs -dsimp only [go_sem, seval, d, p1, p2, p3, p4, p5, p6]
   exact h2 xs m v T1 hs (by rw [q04 hs]) ho
  ·have d : decide ((128 : Int) <= m) = true := decide_eq_true (by omega)
   have hor : IntKind.u8.wrap ((BitVec.ofInt IntKind.u8.bits (IntKind.u8.wrap (m : Int)) ||| BitVec.ofInt IntKind.u8.bits 128).toNat : Nat) = ((m % 128 + 128 : Nat) : Int) := qo1 m
   have e8 : ((m % 128 + 128 : Nat) : Int) = ((UInt8.ofNat (m % 128 + 128)).toNat : Int) := by
    rw [UInt8.toNat_ofNat_of_lt' (by show m % 128 + 128 < 256; omega)]
   refine N6 (l := q17) rfl hR ?_
   unfold q1h
   simp -implicitDefEqProofs -dsimp only [go_sem, seval, d, hor, p1, p2, p3, p4, p5, p6]
   refine ho.app (m := 1) (news := J1 [UInt8.ofNat (m % 128 + 128)]) (by rw [e8]; rfl) rfl (by omega) (by omega) fun v2 T2 ho => J7 ?_
   obtain ⟨p1, p2, p3, p4, p5, p6⟩ := ho.form
   simp -implicitDefEqProofs -dsimp only [go_sem, seval, p1, p2, p3, p4, p5, p6]
   rw [qw9]
   have hp : m / 128 < 128 ^ (j + 1) := by rw [Nat.div_lt_iff_lt_mul (by decide)]; rw [Nat.pow_succ] at hm; omega
   refine ih (m / 128) hp (by omega) (xs ++ [UInt8.ofNat (m % 128 + 128)]) v2 T2 (by simp; omega) (by rw [List.length_append, <- U1]; exact ho) (fun xs' n v T1 hn he ho => ?_)
   exact h2 xs' n v T1 hn (by rw [he, qbx hs, List.append_assoc]; rfl) ho
theorem qml {n : Nat} (h : n < 256) : ((UInt8.ofNat n).toNat : Int) = n := by rw [UInt8.toNat_ofNat_of_lt' h]
theorem qk2 (b : List UInt8) (c : Option Nat) (m : Nat) (hb : b.length <= 1000000000) (hm : m < 18446744073709551616) : PCalls prog q1o [bts b c, .i .u64 m] (bts (b ++ enc m) none) := by
 refine K7 O5 qef (by simp) fun T => ?_
 unfold q9n
 simp -implicitDefEqProofs -dsimp only [go_sem, seval, bts, ↓J2 _ _ J9]
 refine CallK.of (q6z (U0 b) hb) (fun v T1 ho => J7 ?_)
 obtain ⟨p1, p2, p3, p4, p5, p6⟩ := ho.form
 simp -implicitDefEqProofs -dsimp only [go_sem, seval, p1, p2, p3, p4, p5, p6]
 refine qok (T := T) (by repeat' (first | exact N3 _ _ | assumption | apply N2 | apply K3 | apply V2)) 9 m (by omega) hm b v T1 (by omega) ho (fun xs' n v T2 hn he ho => ?_)
 obtain ⟨p1, p2, p3, p4, p5, p6⟩ := ho.form
 have hlen : xs'.length + 1 = (b ++ enc m).length := by rw [<- he]; simp
 have h10 := q6h hm
 have hbd : xs'.length <= 1000000010 := by rw [List.length_append] at hlen; omega
 have hw : IntKind.u8.wrap (n : Int) = ((UInt8.ofNat n).toNat : Int) := by rw [qml (by omega), qby]; omega
 simp -implicitDefEqProofs -dsimp only [go_sem, seval, hw, p1, p2, p3, p4, p5, p6]
 refine ho.app (m := 1) (news := J1 [UInt8.ofNat n]) rfl rfl (by omega) (by omega) fun v2 T3 ho => J7 ?_
 obtain ⟨p1, p2, p3, p4, p5, p6⟩ := ho.form
 simp -implicitDefEqProofs -dsimp only [go_sem, seval, p1, p2, p3, p4, p5, p6]
 rw [U1, he, hlen] at ho
 exact ho.fzn
theorem q9t {n : Nat} (h : n < 18446744073709551616) : IntKind.u64.wrap (n : Int) = n := IntWalk.u64_in _ (by omega)
end Go.Aw
