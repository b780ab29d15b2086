import Derived.Test.YtpbnmegmhhkloaaDoorT06Txt
import Derived.Test.YtpbnmegmhhkloaaDoorAwD
namespace Go.Aw
open Go
open Go.Proofs.Tryd (prog)
set_option linter.all false
set_option maxHeartbeats 4000000
theorem U0 (l : List UInt8) : (J1 l).length = l.length := by simp [J1]
theorem U1 (l m : List UInt8) : J1 l ++ J1 m = J1 (l ++ m) := by simp [J1]
theorem O1 (l : List UInt8) (k : Nat) : (J1 l).take k = J1 (l.take k) := by simp [J1, List.map_take]
theorem q13 (l : List UInt8) (k : Nat) : (J1 l).drop k = J1 (l.drop k) := by simp [J1, List.map_drop]
theorem I8 {T : Tab} (l : List UInt8) (k : Option Nat) : N1 T 1 (.fz l.length (J1 l) k) = some (J1 l) := by simp [N1, U0]
def bts (l : List UInt8) (k : Option Nat) : AV := .fz l.length (J1 l) k
theorem q6x {T T' : Tab} {v : AV} {l : List UInt8} {n : Nat} (h : Own T 1 v n (J1 l) T') (hn : l.length = n) : qdq v (fun v T' => v = bts l none /\ T' = T) T' := by
 subst hn
 refine q6g (Owns.one h) fun S hS => ?_
 obtain ⟨c, e⟩ := hS _ (List.mem_cons_self ..)
 simp only at e
 have : qf6 T' S v = q64 T' S v := by
  rcases h.2 with ⟨rfl, _⟩ | ⟨id, rfl, _⟩ <;> rfl
 rw [this, e]
 exact .fz
theorem q4x (l : List UInt8) (k : Option Nat) (hn : l.length <= 1000000000) : PCalls prog J3 [bts l k] (bts l none) := by
 refine K7 O5 Y8 (by simp) fun T => ?_
 unfold Q7 bts
 have main : ∀ K : AV -> Tab -> Prop, (∀ v T', Own T 1 v l.length (J1 l) T' -> K v T') -> Z0 1 1 T (.fz 0 [] (some 0)) (.fz l.length (J1 l) k) K := fun K hK =>
  (Own.nil T 1).app (m := l.length) (news := J1 l) (I8 l k) rfl (by omega) (by omega) (by simpa using hK)
 simp -implicitDefEqProofs -dsimp only [go_sem, seval, qis]
 split
 ·refine main _ fun v T' h => ?_
  refine J7 ?_
  obtain ⟨q1, q2, q3, q4, q5, q6⟩ := h.form
  simp -implicitDefEqProofs -dsimp only [go_sem, seval, q1]
  exact q6x h rfl
 ·rename_i h0
  have e : l = [] := List.length_eq_zero_iff.1 (by omega)
  subst e
  intro b
  refine V6 (fun h => ?_) (fun h => ?_) <;> simp -implicitDefEqProofs -dsimp only [go_sem, seval]
  ·exact q6x (l := []) (Own.nil T 1) rfl
  ·refine main _ fun v T' h => ?_
   refine J7 ?_
   obtain ⟨q1, q2, q3, q4, q5, q6⟩ := h.form
   simp -implicitDefEqProofs -dsimp only [go_sem, seval, q1]
   exact q6x h rfl
theorem qo8 (n : Nat) (hn : n <= 1000000000) (T : Tab) : ACalls prog U4 [.fz 0 [] (some 0), .i .i64 n] T (fun v T' => Own T 1 v 0 [] T') := by
 refine K1 O5 q3c (by simp) ?_
 unfold q0r
 have h0 : decide ((n : Int) < 0) = false := decide_eq_false (by omega)
 have h1 : IntKind.i64.wrap (n : Int) = n := K8 (by unfold I64; omega)
 have h2 : IntKind.i64.wrap ((n : Int) - 0) = n := by rw [Int.sub_zero]; exact h1
 have h3 : IntKind.i64.wrap 0 = 0 := rfl
 simp -implicitDefEqProofs -dsimp only [go_sem, seval, h0, h1, h2, h3, Int.sub_zero, show ((0 : Nat) : Int) = 0 from rfl]
 refine V6 (fun h => ?_) (fun h => ?_)
 ·have hp := of_decide_eq_true h
  simp -implicitDefEqProofs -dsimp only [go_sem, seval, h, Int.sub_zero, show ((0 : Nat) : Int) = 0 from rfl, Nat.le_refl, true_or, true_and, Nat.sub_self]
  refine qnr hp (by omega) (by omega) fun id hid => ?_
  refine J7 ?_
  simp -implicitDefEqProofs -dsimp only [go_sem, seval, Tab.put_same, Int.toNat_natCast, Nat.zero_le, true_or, or_true, true_and, show ((0 : Nat) : Int) = 0 from rfl, Int.toNat_zero]
  refine q19 (T.put id (.row 1 [])) (fun j => ?_) ⟨rfl, .inr ⟨id, rfl, hid, rfl⟩⟩
  simp only [Tab.put]
  split
  ·exact .inr (.inr ⟨1, _, 0, rfl, by simp⟩)
  ·exact .inr (.inl rfl)
 ·simp -implicitDefEqProofs -dsimp only [go_sem, seval, h]
  exact q19 T (fun _ => .inr (.inl rfl)) (.nil T 1)
theorem q4f (l m : List UInt8) (k1 k2 : Option Nat) (hl : l.length <= 400000000) (hm : m.length <= 400000000) : PCalls prog K0 [.fz 2 [bts l k1, bts m k2] (some 2)] (bts (l ++ m) none) := by
 refine K7 O5 q2a (by simp) fun T => ?_
 unfold q08
 have w1 : IntKind.i64.wrap (0 + (l.length : Int)) = l.length := by rw [Int.zero_add]; exact K8 (by unfold I64; omega)
 have w2 : IntKind.i64.wrap ((l.length : Int) + m.length) = ((l.length + m.length : Nat) : Int) := by rw [K8 (by unfold I64; omega)]; simp
 have d1 : decide ((l.length : Int) < 0) = false := decide_eq_false (by omega)
 have d2 : decide (((l.length + m.length : Nat) : Int) < 0) = false := decide_eq_false (by omega)
 have w3 : IntKind.i64.wrap 1 = 1 := rfl
 have w4 : IntKind.i64.wrap 2 = 2 := rfl
 simp -implicitDefEqProofs -dsimp only [go_sem, seval, show ((2 : Nat) : Int) = 2 from rfl]
 refine N6 (l := O8) rfl (by repeat' (first | exact N3 _ _ | assumption | apply N2 | apply K3 | apply V2)) ?_
 unfold O3
 simp -implicitDefEqProofs -dsimp only [go_sem, seval, bts, w1, d1, w3, Int.natCast_nonneg, show ((2 : Nat) : Int) = 2 from rfl, decide_true, decide_false]
 refine N6 (l := O8) rfl (by repeat' (first | exact N3 _ _ | assumption | apply N2 | apply K3 | apply V2)) ?_
 unfold O3
 simp -implicitDefEqProofs -dsimp only [go_sem, seval, bts, w2, d2, w4, Int.natCast_nonneg, show ((2 : Nat) : Int) = 2 from rfl, decide_true, decide_false]
 refine N6 (l := O8) rfl (by repeat' (first | exact N3 _ _ | assumption | apply N2 | apply K3 | apply V2)) ?_
 unfold O3
 simp -implicitDefEqProofs -dsimp only [go_sem, seval, bts, show ((2 : Nat) : Int) = 2 from rfl, decide_true, decide_false, ↓J2 _ _ q3d]
 refine CallK.of (qo8 (l.length + m.length) (by omega) T) (fun v T1 h => ?_)
 refine J7 ?_
 obtain ⟨q1, q2, q3, q4, q5, q6⟩ := h.form
 simp -implicitDefEqProofs -dsimp only [go_sem, seval, q1, q2, q3, q4, q5, q6, show ((2 : Nat) : Int) = 2 from rfl]
 refine N6 (l := O9) rfl (by repeat' (first | exact N3 _ _ | assumption | apply N2 | apply K3 | apply V2)) ?_
 unfold O4
 simp -implicitDefEqProofs -dsimp only [go_sem, seval, q1, q2, q3, q4, q5, q6, w3, w4, decide_true, decide_false, show ((2 : Nat) : Int) = 2 from rfl, show (1 : Int).toNat = 1 from rfl]
 refine (Owns.one h).app (b := 1) (m := l.length) (news := J1 l) (I8 l k1) rfl (by simp only; omega) (by simp only; omega) fun v' T2 h2 => ?_
 refine J7 ?_
 obtain ⟨q1, q2, q3, q4, q5, q6⟩ := h2.form (List.mem_cons_self ..)
 simp only at q1 q2 q3 q4 q5 q6
 simp -implicitDefEqProofs -dsimp only [go_sem, seval, q1, q2, q3, q4, q5, q6, w3, w4, decide_true, decide_false, show ((2 : Nat) : Int) = 2 from rfl, show (1 : Int).toNat = 1 from rfl]
 refine N6 (l := O9) rfl (by repeat' (first | exact N3 _ _ | assumption | apply N2 | apply K3 | apply V2)) ?_
 unfold O4
 simp -implicitDefEqProofs -dsimp only [go_sem, seval, q1, q2, q3, q4, q5, q6, w3, w4, decide_true, decide_false, show ((2 : Nat) : Int) = 2 from rfl, show (1 : Int).toNat = 1 from rfl]
 refine h2.app (b := 1) (m := m.length) (news := J1 m) (I8 m k2) rfl (by simp only; omega) (by simp only; omega) fun v' T3 h3 => ?_
 refine J7 ?_
 obtain ⟨q1, q2, q3, q4, q5, q6⟩ := h3.form (List.mem_cons_self ..)
 simp only at q1 q2 q3 q4 q5 q6
 simp -implicitDefEqProofs -dsimp only [go_sem, seval, q1, q2, q3, q4, q5, q6, w3, w4, decide_true, decide_false, show ((2 : Nat) : Int) = 2 from rfl, show (1 : Int).toNat = 1 from rfl]
 refine N6 (l := O9) rfl (by repeat' (first | exact N3 _ _ | assumption | apply N2 | apply K3 | apply V2)) ?_
 unfold O4
 simp -implicitDefEqProofs -dsimp only [go_sem, seval, q1, q2, q3, q4, q5, q6, w3, w4, decide_true, decide_false, show ((2 : Nat) : Int) = 2 from rfl, show (1 : Int).toNat = 1 from rfl]
 obtain ⟨T0, rfl, ho⟩ := h3
 simp only [List.nil_append, U1] at ho
 exact q6x ho (by simp)
end Go.Aw
