import Derived.Test.YtchdmofoaokpjaaGreatDoorAwD
import Derived.Test.YtchdmofoaokpjaaGreatDoorT30Txt
namespace Go.Aw
open Go
open Go.Proofs.Tryz (prog)
set_option linter.all false
set_option maxHeartbeats 4000000
def bts (b : List UInt8) (c : Option Nat) : AV := .fz b.length (K8 b) c
theorem z3r {b : List UInt8} {c : Option Nat} : AV.plain (bts b c) = true := rfl
theorem qyn {b : List UInt8} {c : Option Nat} : AV.isLp (bts b c) = false := rfl
theorem qyo {b : List UInt8} {c : Option Nat} : AV.isOne (bts b c) = true := rfl
theorem qyp {b : List UInt8} {c : Option Nat} : AV.sto (bts b c) = true := rfl
theorem qyq {b : List UInt8} {c : Option Nat} : AV.cells (bts b c) = [bts b c] := rfl
theorem qyr {b : List UInt8} {c : Option Nat} (j : Nat) : AV.offLp j (bts b c) = bts b c := rfl
theorem qys {b : List UInt8} {c : Option Nat} : qiu false (bts b c) = some (.i .i64 b.length) := rfl
attribute [go_sem] z3r qyn qyo qyp qyq qyr
attribute [go_sem ↓] qys
theorem Y2 (l : List UInt8) : (K8 l).length = l.length := by simp [K8]
theorem q0v (l m : List UInt8) : K8 l ++ K8 m = K8 (l ++ m) := by simp [K8]
theorem qbm {T : Tab} {n : Nat} {xs : List AV} {cap : Option Nat} (hx : xs.length = n) (hn : n <= 1000000000) : ACalls prog Q4 [.fz n xs cap] T (fun v T' => Own T 1 v n xs T') := by
 refine U7 U1 q1f (by simp) ?_
 unfold q0f
 have main : ∀ K : AV -> Tab -> Prop, (∀ v T', Own T 1 v n xs T' -> K v T') -> q1k 1 1 T (.fz 0 [] (some 0)) (.fz n xs cap) K := fun K hK =>
  (Own.nil T 1).app (m := n) (news := xs) (by simp [Z4, hx]) rfl (by omega) (by omega) (by simpa using hK)
 simp -implicitDefEqProofs -dsimp only [go_sem, seval, qxx]
 split
 ·refine main _ fun v T' h => ?_
  refine J1 ?_
  obtain ⟨q1, q2, q3, q4, q5, q6⟩ := h.form
  simp -implicitDefEqProofs -dsimp only [go_sem, seval, q1]
  exact h.fin (fun _ _ h => h)
 ·rename_i h0
  have e : n = 0 := by omega
  subst e
  have e : xs = [] := by simpa using hx
  subst e
  intro b
  refine K0 (fun h => ?_) (fun h => ?_) <;> simp -implicitDefEqProofs -dsimp only [go_sem, seval]
  ·exact (Own.nil T 1).fin (fun _ _ h => h)
  ·refine main _ fun v T' h => ?_
   refine J1 ?_
   obtain ⟨q1, q2, q3, q4, q5, q6⟩ := h.form
   simp -implicitDefEqProofs -dsimp only [go_sem, seval, q1]
   exact h.fin (fun _ _ h => h)
theorem zf4 (m : Nat) : Int.fdiv (m : Int) (2 ^ min 7 64) = ((m / 128 : Nat) : Int) := by
 rw [show (2 : Int) ^ min 7 64 = 128 from rfl, Int.fdiv_eq_ediv_of_nonneg _ (by decide)]
 omega
theorem qyt {R : G9} (hR : ExtR R) {T : Tab} : ∀ (j m : Nat), m < 128 ^ (j + 1) -> m < 18446744073709551616 -> ∀ (xs : List UInt8) (v : AV) (T1 : Tab), xs.length + j <= 1000000100 ->
  Own T 1 v xs.length (K8 xs) T1 ->
  (∀ (xs' : List UInt8) (n : Nat) v T1, n < 128 -> xs' ++ [UInt8.ofNat n] = xs ++ enc m -> Own T 1 v xs'.length (K8 xs') T1 -> R (.exit 0) [(1, .i .u64 n), (5, v), (9, .b false)] [] T1) ->
  AW prog q7q R [(1, .i .u64 m), (5, v)] [] T1 := by
 intro j
 induction j with
 | zero =>
  intro m hm hm2 xs v T1 hx ho h2
  obtain ⟨p1, p2, p3, p4, p5, p6⟩ := ho.form
  have d : decide ((128 : Int) <= m) = false := decide_eq_false (by omega)
  refine Q1 (l := q7q) rfl hR ?_
  unfold q8c
  simp -implicitDefEqProofs -dsimp only [go_sem, seval, d, p1, p2, p3, p4, p5, p6]
  exact h2 xs m v T1 (by omega) (by rw [q5h (by omega)]) ho
 | succ j ih =>
  intro m hm hm2 xs v T1 hx ho h2
  obtain ⟨p1, p2, p3, p4, p5, p6⟩ := ho.form
  by_cases hs : m < 128
  ·have d : decide ((128 : Int) <= m) = false := decide_eq_false (by omega)
   refine Q1 (l := q7q) rfl hR ?_
   unfold q8c
   simp -implicitDefEqProofs -dsimp only [go_sem, seval, d, p1, p2, p3, p4, p5, p6]
   exact h2 xs m v T1 hs (by rw [q5h hs]) ho
  ·have d : decide ((128 : Int) <= m) = true := decide_eq_true (by omega)
   have hor : IntKind.u8.wrap ((BitVec.ofInt IntKind.u8.bits (IntKind.u8.wrap (m : Int)) ||| BitVec.ofInt IntKind.u8.bits 128).toNat : Nat) = ((m % 128 + 128 : Nat) : Int) := z50 m
   have e8 : ((m % 128 + 128 : Nat) : Int) = ((UInt8.ofNat (m % 128 + 128)).toNat : Int) := by
    rw [UInt8.toNat_ofNat_of_lt' (by show m % 128 + 128 < 256; omega)]
   refine Q1 (l := q7q) rfl hR ?_
   unfold q8c
   simp -implicitDefEqProofs -dsimp only [go_sem, seval, d, hor, p1, p2, p3, p4, p5, p6]
   refine ho.app (m := 1) (news := K8 [UInt8.ofNat (m % 128 + 128)]) (by rw [e8]; rfl) rfl (by omega) (by omega) fun v2 T2 ho => J1 ?_
   obtain ⟨p1, p2, p3, p4, p5, p6⟩ := ho.form
   simp -implicitDefEqProofs -dsimp only [go_sem, seval, p1, p2, p3, p4, p5, p6]
   rw [zf4]
   have hp : m / 128 < 128 ^ (j + 1) := by rw [Nat.div_lt_iff_lt_mul (by decide)]; rw [Nat.pow_succ] at hm; omega
   refine ih (m / 128) hp (by omega) (xs ++ [UInt8.ofNat (m % 128 + 128)]) v2 T2 (by simp; omega) (by rw [List.length_append, <- q0v]; exact ho) (fun xs' n v T1 hn he ho => ?_)
   exact h2 xs' n v T1 hn (by rw [he, qka hs, List.append_assoc]; rfl) ho
theorem qui {n : Nat} (h : n < 256) : ((UInt8.ofNat n).toNat : Int) = n := by rw [UInt8.toNat_ofNat_of_lt' h]
theorem z57 {T : Tab} (b : List UInt8) (c : Option Nat) (m : Nat) (hb : b.length <= 1000000000) (hm : m < 18446744073709551616) : ACalls prog O1 [bts b c, .i .u64 m] T (fun v T' => Own T 1 v (b ++ enc m).length (K8 (b ++ enc m)) T') := by
 refine U7 U1 qki (by simp) ?_
 unfold qex
 simp -implicitDefEqProofs -dsimp only [go_sem, seval, bts, ↓J0 _ _ Z5]
 refine CallK.of (qbm (Y2 b) hb) (fun v T1 ho => J1 ?_)
 obtain ⟨p1, p2, p3, p4, p5, p6⟩ := ho.form
 simp -implicitDefEqProofs -dsimp only [go_sem, seval, p1, p2, p3, p4, p5, p6]
 refine qyt (T := T) (by repeat' (first | exact O6 _ _ | assumption | apply O5 | apply N4 | apply V8)) 9 m (by omega) hm b v T1 (by omega) ho (fun xs' n v T2 hn he ho => ?_)
 obtain ⟨p1, p2, p3, p4, p5, p6⟩ := ho.form
 have hlen : xs'.length + 1 = (b ++ enc m).length := by rw [<- he]; simp
 have h10 := K5 hm
 have hbd : xs'.length <= 1000000010 := by rw [List.length_append] at hlen; omega
 have hw : IntKind.u8.wrap (n : Int) = ((UInt8.ofNat n).toNat : Int) := by rw [qui (by omega), qkb]; omega
 simp -implicitDefEqProofs -dsimp only [go_sem, seval, hw, p1, p2, p3, p4, p5, p6]
 refine ho.app (m := 1) (news := K8 [UInt8.ofNat n]) rfl rfl (by omega) (by omega) fun v2 T3 ho => J1 ?_
 obtain ⟨p1, p2, p3, p4, p5, p6⟩ := ho.form
 simp -implicitDefEqProofs -dsimp only [go_sem, seval, p1, p2, p3, p4, p5, p6]
 rw [q0v, he, hlen] at ho
 exact ho.fin (fun _ _ h => h)
theorem I4 (b : List UInt8) (c : Option Nat) (m : Nat) (hb : b.length <= 1000000000) (hm : m < 18446744073709551616) : PCalls prog O1 [bts b c, .i .u64 m] (bts (b ++ enc m) none) := by
 refine K6 U1 qki (by simp) fun T => ?_
 unfold qex
 simp -implicitDefEqProofs -dsimp only [go_sem, seval, bts, ↓J0 _ _ Z5]
 refine CallK.of (qbm (Y2 b) hb) (fun v T1 ho => J1 ?_)
 obtain ⟨p1, p2, p3, p4, p5, p6⟩ := ho.form
 simp -implicitDefEqProofs -dsimp only [go_sem, seval, p1, p2, p3, p4, p5, p6]
 refine qyt (T := T) (by repeat' (first | exact O6 _ _ | assumption | apply O5 | apply N4 | apply V8)) 9 m (by omega) hm b v T1 (by omega) ho (fun xs' n v T2 hn he ho => ?_)
 obtain ⟨p1, p2, p3, p4, p5, p6⟩ := ho.form
 have hlen : xs'.length + 1 = (b ++ enc m).length := by rw [<- he]; simp
 have h10 := K5 hm
 have hbd : xs'.length <= 1000000010 := by rw [List.length_append] at hlen; omega
 have hw : IntKind.u8.wrap (n : Int) = ((UInt8.ofNat n).toNat : Int) := by rw [qui (by omega), qkb]; omega
 simp -implicitDefEqProofs -dsimp only [go_sem, seval, hw, p1, p2, p3, p4, p5, p6]
 refine ho.app (m := 1) (news := K8 [UInt8.ofNat n]) rfl rfl (by omega) (by omega) fun v2 T3 ho => J1 ?_
 obtain ⟨p1, p2, p3, p4, p5, p6⟩ := ho.form
 simp -implicitDefEqProofs -dsimp only [go_sem, seval, p1, p2, p3, p4, p5, p6]
 rw [q0v, he, hlen] at ho
 exact ho.fzn
def qd5 (s : List UInt8) : List UInt8 := enc s.length ++ s
theorem q0q {n : Nat} (h : n < 18446744073709551616) : IntKind.u64.wrap (n : Int) = n := IntWalk.u64_in _ (by omega)
theorem qyu {T : Tab} (l : List UInt8) : Z4 T 1 (.s l) = some (K8 l) := rfl
theorem qdl (b : List UInt8) (c : Option Nat) (s : List UInt8) (hb : b.length <= 1000000000) (hs : s.length <= 1000000000) : PCalls prog q2i [bts b c, .s s] (bts (b ++ qd5 s) none) := by
 refine K6 U1 qq2 (by simp) fun T => ?_
 unfold qi9
 have h10 := K5 (m := s.length) (by omega)
 simp -implicitDefEqProofs -dsimp only [go_sem, seval, bts, q0q (n := s.length) (by omega), ↓J0 _ _ O4]
 refine CallK.of (z57 b c s.length hb (by omega)) (fun v T1 ho => J1 ?_)
 obtain ⟨p1, p2, p3, p4, p5, p6⟩ := ho.form
 simp -implicitDefEqProofs -dsimp only [go_sem, seval, p1, p2, p3, p4, p5, p6]
 refine ho.app (m := s.length) (news := K8 s) (qyu s) rfl (by rw [List.length_append]; omega) (by rw [List.length_append]; omega) fun v2 T3 ho => J1 ?_
 obtain ⟨p1, p2, p3, p4, p5, p6⟩ := ho.form
 simp -implicitDefEqProofs -dsimp only [go_sem, seval, p1, p2, p3, p4, p5, p6]
 rw [q0v, <- List.length_append, List.append_assoc] at ho
 exact ho.fzn
end Go.Aw
