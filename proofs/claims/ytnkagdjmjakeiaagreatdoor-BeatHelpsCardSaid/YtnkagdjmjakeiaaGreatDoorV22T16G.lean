import Derived.Test.YtnkagdjmjakeiaaGreatDoorV22T16E
namespace Go.Aw
open Go
open Go.Proofs.Tryz (prog)
set_option linter.all false
set_option maxHeartbeats 4000000
theorem q7g {T : Tab} {n : Nat} {xs : List AV} {cap : Option Nat} (hx : xs.length = n) (hn : n <= 1000000000) : ACalls prog Q8 [.fz n xs cap] T (fun v T' => Own T 1 v n xs T') := by
 refine K6 O2 q6m (by simp) ?_
 unfold q31
 have main : ∀ K : AV -> Tab -> Prop, (∀ v T', Own T 1 v n xs T' -> K v T') -> I8 1 8 T (.fz 0 [] (some 0)) (.fz n xs cap) K := fun K hK =>
  (Own.nil T 1).app (m := n) (news := xs) (by simp [N4, hx]) rfl (by omega) (by omega) (by simpa using hK)
 simp -implicitDefEqProofs -dsimp only [go_sem, seval, qeq]
 split
 ·refine main _ fun v T' h => ?_
  refine J5 ?_
  obtain ⟨q1, q2, q3, q4, q5, q6⟩ := h.form
  simp -implicitDefEqProofs -dsimp only [go_sem, seval, q1]
  exact h.fin (fun _ _ h => h)
 ·rename_i h0
  have e : n = 0 := by omega
  subst e
  have e : xs = [] := by simpa using hx
  subst e
  intro b
  refine J8 (fun h => ?_) (fun h => ?_) <;> simp -implicitDefEqProofs -dsimp only [go_sem, seval]
  ·exact (Own.nil T 1).fin (fun _ _ h => h)
  ·refine main _ fun v T' h => ?_
   refine J5 ?_
   obtain ⟨q1, q2, q3, q4, q5, q6⟩ := h.form
   simp -implicitDefEqProofs -dsimp only [go_sem, seval, q1]
   exact h.fin (fun _ _ h => h)
theorem q6a {T : Tab} {n : Nat} {xs : List AV} {cap : Option Nat} (hx : xs.length = n) (hn : n <= 1000000000) : ACalls prog O9 [.fz n xs cap] T (fun v T' => Own T 1 v n xs T') := by
 refine K6 O2 q5j (by simp) ?_
 unfold q2e
 have main : ∀ K : AV -> Tab -> Prop, (∀ v T', Own T 1 v n xs T' -> K v T') -> I8 1 1 T (.fz 0 [] (some 0)) (.fz n xs cap) K := fun K hK =>
  (Own.nil T 1).app (m := n) (news := xs) (by simp [N4, hx]) rfl (by omega) (by omega) (by simpa using hK)
 simp -implicitDefEqProofs -dsimp only [go_sem, seval, qeq]
 split
 ·refine main _ fun v T' h => ?_
  refine J5 ?_
  obtain ⟨q1, q2, q3, q4, q5, q6⟩ := h.form
  simp -implicitDefEqProofs -dsimp only [go_sem, seval, q1]
  exact h.fin (fun _ _ h => h)
 ·rename_i h0
  have e : n = 0 := by omega
  subst e
  have e : xs = [] := by simpa using hx
  subst e
  intro b
  refine J8 (fun h => ?_) (fun h => ?_) <;> simp -implicitDefEqProofs -dsimp only [go_sem, seval]
  ·exact (Own.nil T 1).fin (fun _ _ h => h)
  ·refine main _ fun v T' h => ?_
   refine J5 ?_
   obtain ⟨q1, q2, q3, q4, q5, q6⟩ := h.form
   simp -implicitDefEqProofs -dsimp only [go_sem, seval, q1]
   exact h.fin (fun _ _ h => h)
theorem qfy {T : Tab} {n : Nat} {xs : List AV} {cap : Option Nat} (hx : xs.length = n) (hn : n <= 1000000000) : ACalls prog O8 [.fz n xs cap] T (fun v T' => Own T 1 v n xs T') := by
 refine K6 O2 q2a (by simp) ?_
 unfold q04
 have main : ∀ K : AV -> Tab -> Prop, (∀ v T', Own T 1 v n xs T' -> K v T') -> I8 1 1 T (.fz 0 [] (some 0)) (.fz n xs cap) K := fun K hK =>
  (Own.nil T 1).app (m := n) (news := xs) (by simp [N4, hx]) rfl (by omega) (by omega) (by simpa using hK)
 simp -implicitDefEqProofs -dsimp only [go_sem, seval, qeq]
 split
 ·refine main _ fun v T' h => ?_
  refine J5 ?_
  obtain ⟨q1, q2, q3, q4, q5, q6⟩ := h.form
  simp -implicitDefEqProofs -dsimp only [go_sem, seval, q1]
  exact h.fin (fun _ _ h => h)
 ·rename_i h0
  have e : n = 0 := by omega
  subst e
  have e : xs = [] := by simpa using hx
  subst e
  intro b
  refine J8 (fun h => ?_) (fun h => ?_) <;> simp -implicitDefEqProofs -dsimp only [go_sem, seval]
  ·exact (Own.nil T 1).fin (fun _ _ h => h)
  ·refine main _ fun v T' h => ?_
   refine J5 ?_
   obtain ⟨q1, q2, q3, q4, q5, q6⟩ := h.form
   simp -implicitDefEqProofs -dsimp only [go_sem, seval, q1]
   exact h.fin (fun _ _ h => h)
end Go.Aw
namespace Go.Aw
open Go
open Go.Proofs.Tryz (prog)
set_option linter.all false
set_option maxHeartbeats 4000000
theorem qn1 (xs : List AV) (i n : Nat) (hn : xs.length = n) (hi : i < n) : (N6 xs (0 + i * 1) (xs.drop (i + 1))).length = n /\ (N6 xs (0 + i * 1) (xs.drop (i + 1))).take (n - 1) = xs.eraseIdx i := by
 unfold N6
 have e1 : (xs.drop (i + 1)).length = n - (i + 1) := by rw [List.length_drop, hn]
 constructor
 ·simp only [List.length_append, List.length_take, List.length_drop, hn]; omega
 ·rw [List.eraseIdx_eq_take_drop_succ, List.take_append_of_le_length (by simp only [List.length_append, List.length_take, List.length_drop, hn]; omega), Nat.zero_add, Nat.mul_one]
  exact List.take_of_length_le (by simp only [List.length_append, List.length_take, List.length_drop, hn]; omega)
theorem qfz {T : Tab} {id n i b : Nat} {xs : List AV} (hT : T id = .row 1 xs) (hx : xs.length = n) (hi : i < n) {y : AV} {K : AV -> Tab -> Prop} (h1 : N4 T 1 y = some (xs.drop (i + 1))) (h2 : Q6 y = n - (i + 1))
  (hk : ∀ c2, c2.length = n -> c2.take (n - 1) = xs.eraseIdx i -> K (.sl id 0 (n - 1) none) (T.put id (.row 1 c2))) : I8 1 b T (.sl id 0 i none) y K := by
 unfold I8
 obtain ⟨d1, d2⟩ := qn1 xs i n hx hi
 rw [h1]
 simp only [hT, h2]
 refine ⟨trivial, ?_⟩
 rw [if_neg (by omega)]
 have e : i + (n - (i + 1)) = n - 1 := by omega
 rw [e]
 exact ⟨by omega, hk _ d1 d2⟩
theorem qn2 {c : List AV} {n : Nat} {z : AV} (h : c.length = n) (hn : 0 < n) : (N6 c (0 + (n - 1)) [z]).take (n - 1) = c.take (n - 1) := by
 unfold N6
 rw [Nat.zero_add, List.append_assoc, List.take_append_of_le_length (by rw [List.length_take]; omega), List.take_take, Nat.min_self]
theorem qg0 {T : Tab} {id o n z : Nat} {zero cells : List AV} {k : AV -> Tab -> Prop} {h : Hold k} {cap : Option Nat} (hT : T id = .row z cells) (h1 : zero.length = z) (h2 : o + n * z <= cells.length)
  (hk : k (.tup []) (T.put id (.row z (N6 cells o (rep zero n))))) : clS z zero (some (.sl id o n cap)) T h := by
 unfold clS
 cases n with
 | zero => simp only [hT]; exact ⟨trivial, h1, h2, hk⟩
 | succ n => simp only [hT]; exact ⟨trivial, h1, h2, hk⟩
theorem qg1 (z : List AV) : rep z 1 = z := by simp [rep]
theorem qjm {T : Tab} {id z k : Nat} {c d : List AV} (h : c.take k = d) : ∀ j, SlotLe ((T.put id (.row z d)) j) ((T.put id (.row z c)) j) := fun j => by
 simp only [Tab.put]
 split
 ·exact .inr (.inr ⟨z, c, k, rfl, by rw [h]⟩)
 ·exact .inr (.inl rfl)
theorem qak {T : Tab} {id n i : Nat} {xs : List AV} (hT : T id = .row 1 xs) (hx : xs.length = n) (hi : i < n) (hn : n <= 1000000000) :
  ACalls prog Z6 [.sl id 0 n none, .i .i64 i, .i .i64 (i + 1)] T (fun v T' => v = .sl id 0 (n - 1) none /\ T' = T.put id (.row 1 (xs.eraseIdx i))) := by
 refine K6 O2 q69 (by simp) ?_
 unfold q2t
 have a1 : (0 : Int) <= (i : Int) + 1 := by omega
 have a2 : ((i : Int) + 1).toNat = i + 1 := by omega
 have a3 : i <= i + 1 := by omega
 have a4 : i + 1 <= n := by omega
 have a5 : i < i + 1 := by omega
 have a6 : ((i : Int) = (i : Int) + 1) = False := by simp; omega
 have a7 : i <= n := by omega
 have a8 : n - 1 <= n := by omega
 have a9 : (n <= n - 1) = False := by simp; omega
 have a10 : n - 1 < n := by omega
 have a11 : n - (n - 1) = 1 := by omega
 have a12 : 0 + (n - 1) + 1 <= n := by omega
 have fin : ∀ c2 : List AV, c2.length = n -> c2.take (n - 1) = xs.eraseIdx i -> qqd none 0 1 c2.length n = true /\ ∀ j, SlotLe ((T.put id (.row 1 (xs.eraseIdx i))) j) (((T.put id (.row 1 c2)).put id (.row 1 (N6 c2 (0 + (n - 1)) [.i .i64 0]))) j) := fun c2 e1 e2 =>
  ⟨by simp [qqd, e1], fun j => by rw [Tab.put_put]; exact qjm (k := n - 1) (by rw [qn2 e1 (Nat.lt_of_le_of_lt (Nat.zero_le i) hi), e2]) j⟩
 simp -implicitDefEqProofs -dsimp only [go_sem, seval, qeq, hT, Int.natCast_nonneg, Int.toNat_natCast, a1, a2, a3, a4, a5, a6, a7, Nat.le_refl, Option.isSome, true_or, or_true, decide_false, decide_true, Nat.zero_le, Nat.zero_lt_succ, Nat.sub_zero]
 by_cases hj : i + 1 < n
 ·simp -implicitDefEqProofs -dsimp only [go_sem, seval, hj, true_or, N4, Q6, hT, hx]
  refine qfz hT hx hi ?_ ?_ fun c2 e1 e2 => ?_
  ·simp only [N4, hT]; rw [if_pos ⟨trivial, by omega⟩]; simp only [Nat.mul_one, Nat.zero_add]; rw [List.take_of_length_le (by rw [List.length_drop, hx]; omega)]
  ·rfl
  obtain ⟨f1, f2⟩ := fin c2 e1 e2
  refine J5 ?_
  simp -implicitDefEqProofs -dsimp only [go_sem, seval, Tab.put_same, Int.natCast_nonneg, Int.toNat_natCast, a8, a9, a10, a11, f1, or_true, true_or, true_and]
  refine qg0 (T.put_same id _) rfl (by simp only [Nat.mul_one]; rw [e1]; omega) ?_
  refine J5 ?_
  have f3 := f2
  simp only [qg1, Tab.put_put] at f3 ⊢
  simp -implicitDefEqProofs -dsimp only [go_sem, seval]
  refine q1z (T.put id (.row 1 (xs.eraseIdx i))) (fun j => ?_) ⟨rfl, rfl⟩
  simpa only [N6, List.length_singleton, Nat.zero_add] using f3 j
 ·have hn1 : i + 1 = n := by omega
  simp -implicitDefEqProofs -dsimp only [go_sem, seval, hj, true_or, or_false, if_false, N4, Q6, hT, hx]
  refine qfz hT hx hi ?_ ?_ fun c2 e1 e2 => ?_
  ·simp only [N4]; rw [if_pos (by simp)]; rw [List.drop_eq_nil_of_le (by omega)]
  ·simp only [Q6]; omega
  obtain ⟨f1, f2⟩ := fin c2 e1 e2
  refine J5 ?_
  simp -implicitDefEqProofs -dsimp only [go_sem, seval, Tab.put_same, Int.natCast_nonneg, Int.toNat_natCast, a8, a9, a10, a11, f1, or_true, true_or, true_and]
  refine qg0 (T.put_same id _) rfl (by simp only [Nat.mul_one]; rw [e1]; omega) ?_
  refine J5 ?_
  have f3 := f2
  simp only [qg1, Tab.put_put] at f3 ⊢
  simp -implicitDefEqProofs -dsimp only [go_sem, seval]
  refine q1z (T.put id (.row 1 (xs.eraseIdx i))) (fun j => ?_) ⟨rfl, rfl⟩
  simpa only [N6, List.length_singleton, Nat.zero_add] using f3 j
theorem q8g {T : Tab} {id n i : Nat} {xs : List AV} (hT : T id = .row 1 xs) (hx : xs.length = n) (hi : i < n) (hn : n <= 1000000000) :
  ACalls prog V7 [.sl id 0 n none, .i .i64 i, .i .i64 (i + 1)] T (fun v T' => v = .sl id 0 (n - 1) none /\ T' = T.put id (.row 1 (xs.eraseIdx i))) := by
 refine K6 O2 q50 (by simp) ?_
 unfold q1p
 have a1 : (0 : Int) <= (i : Int) + 1 := by omega
 have a2 : ((i : Int) + 1).toNat = i + 1 := by omega
 have a3 : i <= i + 1 := by omega
 have a4 : i + 1 <= n := by omega
 have a5 : i < i + 1 := by omega
 have a6 : ((i : Int) = (i : Int) + 1) = False := by simp; omega
 have a7 : i <= n := by omega
 have a8 : n - 1 <= n := by omega
 have a9 : (n <= n - 1) = False := by simp; omega
 have a10 : n - 1 < n := by omega
 have a11 : n - (n - 1) = 1 := by omega
 have a12 : 0 + (n - 1) + 1 <= n := by omega
 have fin : ∀ c2 : List AV, c2.length = n -> c2.take (n - 1) = xs.eraseIdx i -> qqd none 0 1 c2.length n = true /\ ∀ j, SlotLe ((T.put id (.row 1 (xs.eraseIdx i))) j) (((T.put id (.row 1 c2)).put id (.row 1 (N6 c2 (0 + (n - 1)) [.b false]))) j) := fun c2 e1 e2 =>
  ⟨by simp [qqd, e1], fun j => by rw [Tab.put_put]; exact qjm (k := n - 1) (by rw [qn2 e1 (Nat.lt_of_le_of_lt (Nat.zero_le i) hi), e2]) j⟩
 simp -implicitDefEqProofs -dsimp only [go_sem, seval, qeq, hT, Int.natCast_nonneg, Int.toNat_natCast, a1, a2, a3, a4, a5, a6, a7, Nat.le_refl, Option.isSome, true_or, or_true, decide_false, decide_true, Nat.zero_le, Nat.zero_lt_succ, Nat.sub_zero]
 by_cases hj : i + 1 < n
 ·simp -implicitDefEqProofs -dsimp only [go_sem, seval, hj, true_or, N4, Q6, hT, hx]
  refine qfz hT hx hi ?_ ?_ fun c2 e1 e2 => ?_
  ·simp only [N4, hT]; rw [if_pos ⟨trivial, by omega⟩]; simp only [Nat.mul_one, Nat.zero_add]; rw [List.take_of_length_le (by rw [List.length_drop, hx]; omega)]
  ·rfl
  obtain ⟨f1, f2⟩ := fin c2 e1 e2
  refine J5 ?_
  simp -implicitDefEqProofs -dsimp only [go_sem, seval, Tab.put_same, Int.natCast_nonneg, Int.toNat_natCast, a8, a9, a10, a11, f1, or_true, true_or, true_and]
  refine qg0 (T.put_same id _) rfl (by simp only [Nat.mul_one]; rw [e1]; omega) ?_
  refine J5 ?_
  have f3 := f2
  simp only [qg1, Tab.put_put] at f3 ⊢
  simp -implicitDefEqProofs -dsimp only [go_sem, seval]
  refine q1z (T.put id (.row 1 (xs.eraseIdx i))) (fun j => ?_) ⟨rfl, rfl⟩
  simpa only [N6, List.length_singleton, Nat.zero_add] using f3 j
 ·have hn1 : i + 1 = n := by omega
  simp -implicitDefEqProofs -dsimp only [go_sem, seval, hj, true_or, or_false, if_false, N4, Q6, hT, hx]
  refine qfz hT hx hi ?_ ?_ fun c2 e1 e2 => ?_
  ·simp only [N4]; rw [if_pos (by simp)]; rw [List.drop_eq_nil_of_le (by omega)]
  ·simp only [Q6]; omega
  obtain ⟨f1, f2⟩ := fin c2 e1 e2
  refine J5 ?_
  simp -implicitDefEqProofs -dsimp only [go_sem, seval, Tab.put_same, Int.natCast_nonneg, Int.toNat_natCast, a8, a9, a10, a11, f1, or_true, true_or, true_and]
  refine qg0 (T.put_same id _) rfl (by simp only [Nat.mul_one]; rw [e1]; omega) ?_
  refine J5 ?_
  have f3 := f2
  simp only [qg1, Tab.put_put] at f3 ⊢
  simp -implicitDefEqProofs -dsimp only [go_sem, seval]
  refine q1z (T.put id (.row 1 (xs.eraseIdx i))) (fun j => ?_) ⟨rfl, rfl⟩
  simpa only [N6, List.length_singleton, Nat.zero_add] using f3 j
end Go.Aw
