import Derived.Test.YteiamcnjlpbihaaGreatDoorAwD
import Derived.Test.YteiamcnjlpbihaaGreatDoorT17dTxt
namespace Go.Aw
open Go
open Go.Proofs.Tryz (prog)
set_option linter.all false
set_option maxHeartbeats 4000000
def bts (b : List UInt8) (c : Option Nat) : AV := .fz b.length (K8 b) c
theorem qe3 {b : List UInt8} {c : Option Nat} : AV.plain (bts b c) = true := rfl
theorem qai {b : List UInt8} {c : Option Nat} : AV.isLp (bts b c) = false := rfl
theorem qaj {b : List UInt8} {c : Option Nat} : AV.isOne (bts b c) = true := rfl
theorem qak {b : List UInt8} {c : Option Nat} : AV.sto (bts b c) = true := rfl
theorem qal {b : List UInt8} {c : Option Nat} : AV.cells (bts b c) = [bts b c] := rfl
theorem qam {b : List UInt8} {c : Option Nat} (j : Nat) : AV.offLp j (bts b c) = bts b c := rfl
theorem qvt {b : List UInt8} {c : Option Nat} : qpw false (bts b c) = some (.i .i64 b.length) := rfl
attribute [go_sem] qe3 qai qaj qak qal qam
attribute [go_sem ↓] qvt
theorem V4 (l : List UInt8) : (K8 l).length = l.length := by simp [K8]
theorem V5 (l m : List UInt8) : K8 l ++ K8 m = K8 (l ++ m) := by simp [K8]
theorem qgq {T : Tab} {n : Nat} {xs : List AV} {cap : Option Nat} (hx : xs.length = n) (hn : n <= 1000000000) : ACalls prog V8 [.fz n xs cap] T (fun v T' => Own T 1 v n xs T') := by
 refine Z3 U3 q58 (by simp) ?_
 unfold q2q
 have main : ∀ K : AV -> Tab -> Prop, (∀ v T', Own T 1 v n xs T' -> K v T') -> q1q 1 1 T (.fz 0 [] (some 0)) (.fz n xs cap) K := fun K hK =>
  (Own.nil T 1).app (m := n) (news := xs) (by simp [G4, hx]) rfl (by omega) (by omega) (by simpa using hK)
 simp -implicitDefEqProofs -dsimp only [go_sem, seval, z56]
 split
 ·refine main _ fun v T' h => ?_
  refine J1 ?_
  obtain ⟨q1, q2, q3, q4, q5, q6⟩ := h.form
  simp -implicitDefEqProofs -dsimp only [go_sem, seval, q1]
  exact h.fin (fun _ _ h => h)
 ·rename_i h0
  have e : n = 0 := by omega
  subst e
  have e : xs = [] := by simpa using hx
  subst e
  intro b
  refine J2 (fun h => ?_) (fun h => ?_) <;> simp -implicitDefEqProofs -dsimp only [go_sem, seval]
  ·exact (Own.nil T 1).fin (fun _ _ h => h)
  ·refine main _ fun v T' h => ?_
   refine J1 ?_
   obtain ⟨q1, q2, q3, q4, q5, q6⟩ := h.form
   simp -implicitDefEqProofs -dsimp only [go_sem, seval, q1]
   exact h.fin (fun _ _ h => h)
theorem zmf (m : Nat) : Int.fdiv (m : Int) (2 ^ min 7 64) = ((m / 128 : Nat) : Int) := by
 rw [show (2 : Int) ^ min 7 64 = 128 from rfl, Int.fdiv_eq_ediv_of_nonneg _ (by decide)]
 omega
theorem z5u {R : Z1} (hR : ExtR R) {T : Tab} : ∀ (j m : Nat), m < 128 ^ (j + 1) -> m < 18446744073709551616 -> ∀ (xs : List UInt8) (v : AV) (T1 : Tab), xs.length + j <= 1000000100 ->
  Own T 1 v xs.length (K8 xs) T1 ->
  (∀ (xs' : List UInt8) (n : Nat) v T1, n < 128 -> xs' ++ [UInt8.ofNat n] = xs ++ enc m -> Own T 1 v xs'.length (K8 xs') T1 -> R (.exit 0) [(1, .i .u64 n), (5, v), (9, .b false)] [] T1) ->
  AW prog qb9 R [(1, .i .u64 m), (5, v)] [] T1 := by
 intro j
 induction j with
 | zero =>
  intro m hm hm2 xs v T1 hx ho h2
  obtain ⟨p1, p2, p3, p4, p5, p6⟩ := ho.form
  have d : decide ((128 : Int) <= m) = false := decide_eq_false (by omega)
  refine O0 (l := qb9) rfl hR ?_
  unfold qcd
  simp -implicitDefEqProofs -dsimp only [go_sem, seval, d, p1, p2, p3, p4, p5, p6]
  exact h2 xs m v T1 (by omega) (by rw [q06 (by omega)]) ho
 | succ j ih =>
  intro m hm hm2 xs v T1 hx ho h2
  obtain ⟨p1, p2, p3, p4, p5, p6⟩ := ho.form
  by_cases hs : m < 128
  ·have d : decide ((128 : Int) <= m) = false := decide_eq_false (by omega)
   refine O0 (l := qb9) rfl hR ?_
   unfold qcd
   simp -implicitDefEqProofs -dsimp only [go_sem, seval, d, p1, p2, p3, p4, p5, p6]
   exact h2 xs m v T1 hs (by rw [q06 hs]) ho
  ·have d : decide ((128 : Int) <= m) = true := decide_eq_true (by omega)
   have hor : IntKind.u8.wrap ((BitVec.ofInt IntKind.u8.bits (IntKind.u8.wrap (m : Int)) ||| BitVec.ofInt IntKind.u8.bits 128).toNat : Nat) = ((m % 128 + 128 : Nat) : Int) := zbw m
   have e8 : ((m % 128 + 128 : Nat) : Int) = ((UInt8.ofNat (m % 128 + 128)).toNat : Int) := by
    rw [UInt8.toNat_ofNat_of_lt' (by show m % 128 + 128 < 256; omega)]
   refine O0 (l := qb9) rfl hR ?_
   unfold qcd
   simp -implicitDefEqProofs -dsimp only [go_sem, seval, d, hor, p1, p2, p3, p4, p5, p6]
   refine ho.app (m := 1) (news := K8 [UInt8.ofNat (m % 128 + 128)]) (by rw [e8]; rfl) rfl (by omega) (by omega) fun v2 T2 ho => J1 ?_
   obtain ⟨p1, p2, p3, p4, p5, p6⟩ := ho.form
   simp -implicitDefEqProofs -dsimp only [go_sem, seval, p1, p2, p3, p4, p5, p6]
   rw [zmf]
   have hp : m / 128 < 128 ^ (j + 1) := by rw [Nat.div_lt_iff_lt_mul (by decide)]; rw [Nat.pow_succ] at hm; omega
   refine ih (m / 128) hp (by omega) (xs ++ [UInt8.ofNat (m % 128 + 128)]) v2 T2 (by simp; omega) (by rw [List.length_append, <- V5]; exact ho) (fun xs' n v T1 hn he ho => ?_)
   exact h2 xs' n v T1 hn (by rw [he, qog hs, List.append_assoc]; rfl) ho
theorem qj1 {n : Nat} (h : n < 256) : ((UInt8.ofNat n).toNat : Int) = n := by rw [UInt8.toNat_ofNat_of_lt' h]
theorem zc4 {T : Tab} (b : List UInt8) (c : Option Nat) (m : Nat) (hb : b.length <= 1000000000) (hm : m < 18446744073709551616) : ACalls prog Q6 [bts b c, .i .u64 m] T (fun v T' => Own T 1 v (b ++ enc m).length (K8 (b ++ enc m)) T') := by
 refine Z3 U3 qra (by simp) ?_
 unfold ql7
 simp -implicitDefEqProofs -dsimp only [go_sem, seval, bts, ↓J0 _ _ q0m]
 refine CallK.of (qgq (V4 b) hb) (fun v T1 ho => J1 ?_)
 obtain ⟨p1, p2, p3, p4, p5, p6⟩ := ho.form
 simp -implicitDefEqProofs -dsimp only [go_sem, seval, p1, p2, p3, p4, p5, p6]
 refine z5u (T := T) (by repeat' (first | exact N2 _ _ | assumption | apply N1 | apply K9 | apply Q3)) 9 m (by omega) hm b v T1 (by omega) ho (fun xs' n v T2 hn he ho => ?_)
 obtain ⟨p1, p2, p3, p4, p5, p6⟩ := ho.form
 have hlen : xs'.length + 1 = (b ++ enc m).length := by rw [<- he]; simp
 have h10 := K5 hm
 have hbd : xs'.length <= 1000000010 := by rw [List.length_append] at hlen; omega
 have hw : IntKind.u8.wrap (n : Int) = ((UInt8.ofNat n).toNat : Int) := by rw [qj1 (by omega), qck]; omega
 simp -implicitDefEqProofs -dsimp only [go_sem, seval, hw, p1, p2, p3, p4, p5, p6]
 refine ho.app (m := 1) (news := K8 [UInt8.ofNat n]) rfl rfl (by omega) (by omega) fun v2 T3 ho => J1 ?_
 obtain ⟨p1, p2, p3, p4, p5, p6⟩ := ho.form
 simp -implicitDefEqProofs -dsimp only [go_sem, seval, p1, p2, p3, p4, p5, p6]
 rw [V5, he, hlen] at ho
 exact ho.fin (fun _ _ h => h)
theorem q0h (b : List UInt8) (c : Option Nat) (m : Nat) (hb : b.length <= 1000000000) (hm : m < 18446744073709551616) : PCalls prog Q6 [bts b c, .i .u64 m] (bts (b ++ enc m) none) := by
 refine K7 U3 qra (by simp) fun T => ?_
 unfold ql7
 simp -implicitDefEqProofs -dsimp only [go_sem, seval, bts, ↓J0 _ _ q0m]
 refine CallK.of (qgq (V4 b) hb) (fun v T1 ho => J1 ?_)
 obtain ⟨p1, p2, p3, p4, p5, p6⟩ := ho.form
 simp -implicitDefEqProofs -dsimp only [go_sem, seval, p1, p2, p3, p4, p5, p6]
 refine z5u (T := T) (by repeat' (first | exact N2 _ _ | assumption | apply N1 | apply K9 | apply Q3)) 9 m (by omega) hm b v T1 (by omega) ho (fun xs' n v T2 hn he ho => ?_)
 obtain ⟨p1, p2, p3, p4, p5, p6⟩ := ho.form
 have hlen : xs'.length + 1 = (b ++ enc m).length := by rw [<- he]; simp
 have h10 := K5 hm
 have hbd : xs'.length <= 1000000010 := by rw [List.length_append] at hlen; omega
 have hw : IntKind.u8.wrap (n : Int) = ((UInt8.ofNat n).toNat : Int) := by rw [qj1 (by omega), qck]; omega
 simp -implicitDefEqProofs -dsimp only [go_sem, seval, hw, p1, p2, p3, p4, p5, p6]
 refine ho.app (m := 1) (news := K8 [UInt8.ofNat n]) rfl rfl (by omega) (by omega) fun v2 T3 ho => J1 ?_
 obtain ⟨p1, p2, p3, p4, p5, p6⟩ := ho.form
 simp -implicitDefEqProofs -dsimp only [go_sem, seval, p1, p2, p3, p4, p5, p6]
 rw [V5, he, hlen] at ho
 exact ho.fzn
def q76 (s : List UInt8) : List UInt8 := enc s.length ++ s
theorem q0r {n : Nat} (h : n < 18446744073709551616) : IntKind.u64.wrap (n : Int) = n := IntWalk.u64_in _ (by omega)
theorem qy9 {T : Tab} (l : List UInt8) : G4 T 1 (.s l) = some (K8 l) := rfl
theorem qj2 (b : List UInt8) (c : Option Nat) (s : List UInt8) (hb : b.length <= 1000000000) (hs : s.length <= 1000000000) : PCalls prog q3x [bts b c, .s s] (bts (b ++ q76 s) none) := by
 refine K7 U3 qxh (by simp) fun T => ?_
 unfold qpc
 have h10 := K5 (m := s.length) (by omega)
 simp -implicitDefEqProofs -dsimp only [go_sem, seval, bts, q0r (n := s.length) (by omega), ↓J0 _ _ U1]
 refine CallK.of (zc4 b c s.length hb (by omega)) (fun v T1 ho => J1 ?_)
 obtain ⟨p1, p2, p3, p4, p5, p6⟩ := ho.form
 simp -implicitDefEqProofs -dsimp only [go_sem, seval, p1, p2, p3, p4, p5, p6]
 refine ho.app (m := s.length) (news := K8 s) (qy9 s) rfl (by rw [List.length_append]; omega) (by rw [List.length_append]; omega) fun v2 T3 ho => J1 ?_
 obtain ⟨p1, p2, p3, p4, p5, p6⟩ := ho.form
 simp -implicitDefEqProofs -dsimp only [go_sem, seval, p1, p2, p3, p4, p5, p6]
 rw [V5, <- List.length_append, List.append_assoc] at ho
 exact ho.fzn
theorem z5v : ∀ (k m : Nat), m < 128 ^ (k + 1) -> m < 18446744073709551616 -> ∀ T, ACalls prog U8 [.i .u64 m] T (fun v T' => v = bts (enc m) (if m < 128 then some 1 else none) /\ T' = T) := by
 intro k
 induction k with
 | zero =>
  intro m hm hm2 T
  have hs : m < 128 := by omega
  have d : decide ((m : Int) < 128) = true := decide_eq_true (by omega)
  have hw : IntKind.u8.wrap (m : Int) = ((UInt8.ofNat m).toNat : Int) := by rw [qj1 (by omega), qck]; omega
  refine Z3 U3 q75 (by simp) ?_
  unfold q42
  simp -implicitDefEqProofs -dsimp only [go_sem, seval, d, hw]
  rw [if_pos hs, q06 hs]
  exact qev (.refl _) rfl
 | succ k ih =>
  intro m hm hm2 T
  by_cases hs : m < 128
  ·have d : decide ((m : Int) < 128) = true := decide_eq_true (by omega)
   have hw : IntKind.u8.wrap (m : Int) = ((UInt8.ofNat m).toNat : Int) := by rw [qj1 (by omega), qck]; omega
   refine Z3 U3 q75 (by simp) ?_
   unfold q42
   simp -implicitDefEqProofs -dsimp only [go_sem, seval, d, hw]
   rw [if_pos hs, q06 hs]
   exact qev (.refl _) rfl
  ·have d : decide ((m : Int) < 128) = false := decide_eq_false (by omega)
   have e1 : Int.tmod (m : Int) 128 = ((m % 128 : Nat) : Int) := by rw [Int.tmod_eq_emod_of_nonneg (by omega)]; omega
   have e2 : Int.tdiv (m : Int) 128 = ((m / 128 : Nat) : Int) := by rw [Int.tdiv_eq_ediv_of_nonneg (by omega)]; omega
   have e3 : IntKind.u64.wrap (((m % 128 : Nat) : Int) + 128) = ((m % 128 + 128 : Nat) : Int) := by rw [IntWalk.u64_in _ (by omega)]; omega
   have e4 : IntKind.u8.wrap ((m % 128 + 128 : Nat) : Int) = ((UInt8.ofNat (m % 128 + 128)).toNat : Int) := by rw [qj1 (by omega), qck]; omega
   have e5 : IntKind.u64.wrap ((m / 128 : Nat) : Int) = ((m / 128 : Nat) : Int) := q0r (by omega)
   have z1 : ((128 : Int) = 0) = False := by simp
   have hp : m / 128 < 128 ^ (k + 1) := by rw [Nat.div_lt_iff_lt_mul (by decide)]; rw [Nat.pow_succ] at hm; omega
   have hne : 0 < (enc (m / 128)).length := List.length_pos_iff.2 (z1n _)
   have h10 := K5 (m := m / 128) (by omega)
   refine Z3 U3 q75 (by simp) ?_
   unfold q42
   simp -implicitDefEqProofs -dsimp only [go_sem, seval, d, e1, e2, e3, e4, e5, z1, ↓J0 _ _ Y1]
   refine can (ih (m / 128) hp (by omega) T) ?_
   simp -implicitDefEqProofs -dsimp only [go_sem, seval, bts]
   refine qv7 (m := (enc (m / 128)).length) (news := K8 (enc (m / 128))) (by simp [G4, V4]) rfl hne rfl (by omega) (by omega) fun v2 T3 ho => J1 ?_
   obtain ⟨p1, p2, p3, p4, p5, p6⟩ := ho.form
   simp -implicitDefEqProofs -dsimp only [go_sem, seval, p1, p2, p3, p4, p5, p6]
   rw [if_neg hs, qog hs]
   have : ([AV.i .u8 ((UInt8.ofNat (m % 128 + 128)).toNat : Int)] ++ K8 (enc (m / 128))) = K8 (UInt8.ofNat (m % 128 + 128) :: enc (m / 128)) := rfl
   rw [this, Nat.add_comm 1] at ho
   exact ho.fzn
theorem qm3 (m : Nat) (hm : m < 18446744073709551616) : PCalls prog U8 [.i .u64 m] (bts (enc m) (if m < 128 then some 1 else none)) := fun T => z5v 9 m (by omega) hm T
theorem qj3 (m : Nat) (hm2 : m < 18446744073709551616) (T : Tab) : ACalls prog U8 [.i .u64 m] T (fun v T' => Gr T 1 v (enc m).length (K8 (enc m)) T') := by
 by_cases hs : m < 128
 ·refine (z5v 9 m (by omega) hm2 T).mono fun v T' h => ?_
  rw [h.1, h.2, if_pos hs, bts]
  have : (enc m).length = 1 := by rw [q06 hs]; rfl
  exact .inr ⟨by rw [this], by rw [V4]; omega, rfl⟩
 ·have d : decide ((m : Int) < 128) = false := decide_eq_false (by omega)
  have e1 : Int.tmod (m : Int) 128 = ((m % 128 : Nat) : Int) := by rw [Int.tmod_eq_emod_of_nonneg (by omega)]; omega
  have e2 : Int.tdiv (m : Int) 128 = ((m / 128 : Nat) : Int) := by rw [Int.tdiv_eq_ediv_of_nonneg (by omega)]; omega
  have e3 : IntKind.u64.wrap (((m % 128 : Nat) : Int) + 128) = ((m % 128 + 128 : Nat) : Int) := by rw [IntWalk.u64_in _ (by omega)]; omega
  have e4 : IntKind.u8.wrap ((m % 128 + 128 : Nat) : Int) = ((UInt8.ofNat (m % 128 + 128)).toNat : Int) := by rw [qj1 (by omega), qck]; omega
  have e5 : IntKind.u64.wrap ((m / 128 : Nat) : Int) = ((m / 128 : Nat) : Int) := q0r (by omega)
  have z1 : ((128 : Int) = 0) = False := by simp
  have hne : 0 < (enc (m / 128)).length := List.length_pos_iff.2 (z1n _)
  have h10 := K5 (m := m / 128) (by omega)
  refine Z3 U3 q75 (by simp) ?_
  unfold q42
  simp -implicitDefEqProofs -dsimp only [go_sem, seval, d, e1, e2, e3, e4, e5, z1, ↓J0 _ _ Y1]
  refine cpn (qm3 (m / 128) (by omega)) ?_
  simp -implicitDefEqProofs -dsimp only [go_sem, seval, bts]
  refine qv7 (m := (enc (m / 128)).length) (news := K8 (enc (m / 128))) (by simp [G4, V4]) rfl hne rfl (by omega) (by omega) fun v2 T3 ho => J1 ?_
  obtain ⟨p1, p2, p3, p4, p5, p6⟩ := ho.form
  simp -implicitDefEqProofs -dsimp only [go_sem, seval, p1, p2, p3, p4, p5, p6]
  rw [qog hs]
  have : ([AV.i .u8 ((UInt8.ofNat (m % 128 + 128)).toNat : Int)] ++ K8 (enc (m / 128))) = K8 (UInt8.ofNat (m % 128 + 128) :: enc (m / 128)) := rfl
  rw [this, Nat.add_comm 1] at ho
  exact Own.fin ho (fun _ _ h => .inl h)
theorem qj4 (s : List UInt8) (hs : s.length <= 1000000000) : PCalls prog q09 [.s s] (bts (q76 s) none) := by
 refine K7 U3 qlc (by simp) fun T => ?_
 unfold qcw
 have h10 := K5 (m := s.length) (by omega)
 simp -implicitDefEqProofs -dsimp only [go_sem, seval, q0r (n := s.length) (by omega), ↓J0 _ _ Y1]
 refine CallK.of (qj3 s.length (by omega) T) (fun v T1 ho => J1 ?_)
 obtain ⟨p1, p2, p3, p4, p5, p6⟩ := ho.form
 simp -implicitDefEqProofs -dsimp only [go_sem, seval, p1, p2, p3, p4, p5, p6]
 refine ho.app0 (m := s.length) (news := K8 s) (qy9 s) rfl (by omega) (by omega) fun v2 T3 ho => J1 ?_
 obtain ⟨p1, p2, p3, p4, p5, p6⟩ := ho.form
 simp -implicitDefEqProofs -dsimp only [go_sem, seval, p1, p2, p3, p4, p5, p6]
 rw [V5, <- List.length_append] at ho
 exact ho.fzn
end Go.Aw
