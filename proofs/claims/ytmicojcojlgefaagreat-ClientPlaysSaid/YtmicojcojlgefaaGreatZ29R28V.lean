import Derived.Test.YtmicojcojlgefaaGreatZ29R28U
namespace Go.Aw
open Go
open Go.Proofs.Tryz (prog)
set_option linter.all false
set_option maxHeartbeats 4000000
theorem z3d (n : Nat) (hn : n <= 1000000000) (T : Tab) : ACalls prog q1a [.fz 0 [] (some 0), .i .i64 n] T (fun v T' => Own T 1 v 0 [] T') := by
 refine U9 Q7 qdf (by simp) ?_
 unfold q7m
 have h0 : decide ((n : Int) < 0) = false := decide_eq_false (by omega)
 have h1 : IntKind.i64.wrap (n : Int) = n := q02 (by unfold I64; omega)
 have h2 : IntKind.i64.wrap ((n : Int) - 0) = n := by rw [Int.sub_zero]; exact h1
 have h3 : IntKind.i64.wrap 0 = 0 := rfl
 simp -implicitDefEqProofs -dsimp only [go_sem, seval, h0, h1, h2, h3, Int.sub_zero, show ((0 : Nat) : Int) = 0 from rfl]
 refine J2 (fun h => ?_) (fun h => ?_)
 ·have hp := of_decide_eq_true h
  simp -implicitDefEqProofs -dsimp only [go_sem, seval, h, Int.sub_zero, show ((0 : Nat) : Int) = 0 from rfl, Nat.le_refl, true_or, true_and, Nat.sub_self]
  refine z5k hp (by omega) (by omega) fun id hid => ?_
  refine J1 ?_
  simp -implicitDefEqProofs -dsimp only [go_sem, seval, Tab.put_same, Int.toNat_natCast, Nat.zero_le, true_or, or_true, true_and, show ((0 : Nat) : Int) = 0 from rfl, Int.toNat_zero]
  refine V1 (T.put id (.row 1 [])) (fun j => ?_) ⟨rfl, .inr ⟨id, rfl, hid, rfl⟩⟩
  simp only [Tab.put]
  split
  ·exact .inr (.inr ⟨1, _, 0, rfl, by simp⟩)
  ·exact .inr (.inl rfl)
 ·simp -implicitDefEqProofs -dsimp only [go_sem, seval, h]
  exact V1 T (fun _ => .inr (.inl rfl)) (.nil T 1)
theorem qya (l m : List AV) (k1 k2 : Option Nat) (hl : l.length <= 400000000) (hm : m.length <= 400000000) : PCalls prog q0v [.fz 2 [.fz l.length l k1, .fz m.length m k2] (some 2)] (.fz (l.length + m.length) (l ++ m) none) := by
 refine K5 Q7 qb7 (by simp) fun T => ?_
 unfold q5p
 have w1 : IntKind.i64.wrap (0 + (l.length : Int)) = l.length := by rw [Int.zero_add]; exact q02 (by unfold I64; omega)
 have w2 : IntKind.i64.wrap ((l.length : Int) + m.length) = ((l.length + m.length : Nat) : Int) := by rw [q02 (by unfold I64; omega)]; simp
 have d1 : decide ((l.length : Int) < 0) = false := decide_eq_false (by omega)
 have d2 : decide (((l.length + m.length : Nat) : Int) < 0) = false := decide_eq_false (by omega)
 have w3 : IntKind.i64.wrap 1 = 1 := rfl
 have w4 : IntKind.i64.wrap 2 = 2 := rfl
 simp -implicitDefEqProofs -dsimp only [go_sem, seval, show ((2 : Nat) : Int) = 2 from rfl]
 refine O2 (l := q0l) rfl (by repeat' (first | exact N5 _ _ | assumption | apply N4 | apply K7 | apply U1)) ?_
 unfold q0e
 simp -implicitDefEqProofs -dsimp only [go_sem, seval, w1, d1, w3, Int.natCast_nonneg, show ((2 : Nat) : Int) = 2 from rfl, decide_true, decide_false]
 refine O2 (l := q0l) rfl (by repeat' (first | exact N5 _ _ | assumption | apply N4 | apply K7 | apply U1)) ?_
 unfold q0e
 simp -implicitDefEqProofs -dsimp only [go_sem, seval, w2, d2, w4, Int.natCast_nonneg, show ((2 : Nat) : Int) = 2 from rfl, decide_true, decide_false]
 refine O2 (l := q0l) rfl (by repeat' (first | exact N5 _ _ | assumption | apply N4 | apply K7 | apply U1)) ?_
 unfold q0e
 simp -implicitDefEqProofs -dsimp only [go_sem, seval, show ((2 : Nat) : Int) = 2 from rfl, decide_true, decide_false, ↓J0 _ _ qdg]
 refine CallK.of (z3d (l.length + m.length) (by omega) T) (fun v T1 h => ?_)
 refine J1 ?_
 obtain ⟨q1, q2, q3, q4, q5, q6⟩ := h.form
 simp -implicitDefEqProofs -dsimp only [go_sem, seval, q1, q2, q3, q4, q5, q6, show ((2 : Nat) : Int) = 2 from rfl]
 refine O2 (l := q0m) rfl (by repeat' (first | exact N5 _ _ | assumption | apply N4 | apply K7 | apply U1)) ?_
 unfold q0f
 simp -implicitDefEqProofs -dsimp only [go_sem, seval, q1, q2, q3, q4, q5, q6, w3, w4, decide_true, decide_false, show ((2 : Nat) : Int) = 2 from rfl, show (1 : Int).toNat = 1 from rfl]
 refine (Owns.one h).app (b := 16) (m := l.length) (news := l) (by simp [Z0]) rfl (by simp only; omega) (by simp only; omega) fun v' T2 h2 => ?_
 refine J1 ?_
 obtain ⟨q1, q2, q3, q4, q5, q6⟩ := h2.form (List.mem_cons_self ..)
 simp only at q1 q2 q3 q4 q5 q6
 simp -implicitDefEqProofs -dsimp only [go_sem, seval, q1, q2, q3, q4, q5, q6, w3, w4, decide_true, decide_false, show ((2 : Nat) : Int) = 2 from rfl, show (1 : Int).toNat = 1 from rfl]
 refine O2 (l := q0m) rfl (by repeat' (first | exact N5 _ _ | assumption | apply N4 | apply K7 | apply U1)) ?_
 unfold q0f
 simp -implicitDefEqProofs -dsimp only [go_sem, seval, q1, q2, q3, q4, q5, q6, w3, w4, decide_true, decide_false, show ((2 : Nat) : Int) = 2 from rfl, show (1 : Int).toNat = 1 from rfl]
 refine h2.app (b := 16) (m := m.length) (news := m) (by simp [Z0]) rfl (by simp only; omega) (by simp only; omega) fun v' T3 h3 => ?_
 refine J1 ?_
 obtain ⟨q1, q2, q3, q4, q5, q6⟩ := h3.form (List.mem_cons_self ..)
 simp only at q1 q2 q3 q4 q5 q6
 simp -implicitDefEqProofs -dsimp only [go_sem, seval, q1, q2, q3, q4, q5, q6, w3, w4, decide_true, decide_false, show ((2 : Nat) : Int) = 2 from rfl, show (1 : Int).toNat = 1 from rfl]
 refine O2 (l := q0m) rfl (by repeat' (first | exact N5 _ _ | assumption | apply N4 | apply K7 | apply U1)) ?_
 unfold q0f
 simp -implicitDefEqProofs -dsimp only [go_sem, seval, q1, q2, q3, q4, q5, q6, w3, w4, decide_true, decide_false, show ((2 : Nat) : Int) = 2 from rfl, show (1 : Int).toNat = 1 from rfl]
 obtain ⟨T0, rfl, ho⟩ := h3
 simp only [List.nil_append, Nat.zero_add] at ho
 exact ho.fzn
def Tx.keys (t : Tx) : List Bs := t.rs.map (·.k) ++ t.ws.map (·.k)
theorem z64 (t : Tx) (k1 k2 : Option Nat) (hf : t.Fine) (hr : t.rs.length <= 400000000) (hw : t.ws.length <= 400000000) : PCalls prog q9a [.agg (t.cells k1 k2)] (.fz t.keys.length (qez t.keys) none) := by
 refine K5 Q7 qot (by simp) fun T => ?_
 have c1 := qqe t k1 k2 hf.r
 have c2 := qoe t k1 k2 hf.w
 have c3 := qya (qez (t.rs.map (·.k))) (qez (t.ws.map (·.k))) none none (by simp [qez]; omega) (by simp [qez]; omega)
 simp only [qw0, List.length_map, qlm] at c3
 simp only [Tx.cells] at c1 c2
 unfold qgk
 simp -implicitDefEqProofs -dsimp only [go_sem, seval, Tx.cells, ↓J0 _ _ J4]
 refine cpn c1 ?_
 simp -implicitDefEqProofs -dsimp only [go_sem, seval, ↓J0 _ _ J3]
 refine cpn c2 ?_
 simp -implicitDefEqProofs -dsimp only [go_sem, seval, ↓J0 _ _ qb8]
 refine cpn c3 ?_
 simp -implicitDefEqProofs -dsimp only [go_sem, seval]
 have e : t.keys.length = t.rs.length + t.ws.length := by simp [Tx.keys]
 rw [e]
 exact K1 rfl
theorem Tx.keys_len {t : Tx} (hf : t.Fine) : ∀ x ∈ t.keys, Len x.length := by
 intro x hx
 rcases List.mem_append.1 hx with h | h
 ·obtain ⟨r, hr, rfl⟩ := List.mem_map.1 h; exact hf.rk r hr
 ·obtain ⟨r, hr, rfl⟩ := List.mem_map.1 h; exact hf.wk r hr
theorem qyb (t : Tx) (k1 k2 : Option Nat) (n : Int) (hf : t.Fine) (hr : t.rs.length <= 400000000) (hw : t.ws.length <= 400000000) : PCalls prog q6o [.agg (t.cells k1 k2), .i .i64 n] (.fz (q4f t.keys n).length (q9k (q4f t.keys n)) none) := by
 refine K5 Q7 qmr (by simp) fun T => ?_
 have c1 := z64 t k1 k2 hf hr hw
 have c2 := qy8 t.keys none n (by simp [Tx.keys]; omega) (Tx.keys_len hf)
 simp only [Tx.cells] at c1
 unfold qeg
 simp -implicitDefEqProofs -dsimp only [go_sem, seval, Tx.cells, ↓J0 _ _ qou]
 refine cpn c1 ?_
 simp -implicitDefEqProofs -dsimp only [go_sem, seval, ↓J0 _ _ qsv]
 refine cpn c2 ?_
 simp -implicitDefEqProofs -dsimp only [go_sem, seval]
 exact K1 rfl
end Go.Aw
