import Derived.Test.YteiamcnjlpbihaaL17S12A
import Derived.Test.YteiamcnjlpbihaaL17S12R
import Derived.Test.YteiamcnjlpbihaaT17Txt
import Derived.Test.YteiamcnjlpbihaaAwD
namespace Go.Aw
open Go
open Go.Proofs.Try (prog)
set_option linter.all false
set_option maxHeartbeats 4000000

theorem slCells_bytes {T : Tab} (l : List UInt8) (k : Option Nat) : slCells T 1 (.fz l.length (byteCells l) k) = some (byteCells l) := by simp [slCells, byteCells_length]
theorem finL_bts {T T' : Tab} {v : AV} {l : List UInt8} {n : Nat} (h : Own T 1 v n (byteCells l) T') (hn : l.length = n) : finL v (fun v T' => v = bts l none ∧ T' = T) T' := by
  subst hn
  refine finL_owns (Owns.one h) fun S hS => ?_
  obtain ⟨c, e⟩ := hS _ (List.mem_cons_self ..)
  simp only at e
  have : frzt T' S v = frz1 T' S v := by
    rcases h.2 with ⟨rfl, _⟩ | ⟨id, rfl, _⟩ <;> rfl
  rw [this, e]
  exact .fz

theorem pc_Clone (l : List UInt8) (k : Option Nat) (hn : l.length ≤ 1000000000) : PCalls prog f_slices_Clone_byte_byte [bts l k] (bts l none) := by
  refine pcalls_of mixed t_slices_Clone_byte_byte (by simp) fun T => ?_
  unfold s_slices_Clone_byte_byte bts
  have main : ∀ K : AV → Tab → Prop, (∀ v T', Own T 1 v l.length (byteCells l) T' → K v T') → appStep 1 1 T (.fz 0 [] (some 0)) (.fz l.length (byteCells l) k) K := fun K hK =>
    (Own.nil T 1).app (m := l.length) (news := byteCells l) (slCells_bytes l k) rfl (by omega) (by omega) (by simpa using hK)
  simp -implicitDefEqProofs -dsimp only [go_sem, seval, snl_fz]
  split
  · refine main _ fun v T' h => ?_
    refine aft_nil ?_
    obtain ⟨q1, q2, q3, q4, q5, q6⟩ := h.form
    simp -implicitDefEqProofs -dsimp only [go_sem, seval, q1]
    exact finL_bts h rfl
  · rename_i h0
    have e : l = [] := List.length_eq_zero_iff.1 (by omega)
    subst e
    intro b
    refine br_split (fun h => ?_) (fun h => ?_) <;> simp -implicitDefEqProofs -dsimp only [go_sem, seval]
    · exact finL_bts (l := []) (Own.nil T 1) rfl
    · refine main _ fun v T' h => ?_
      refine aft_nil ?_
      obtain ⟨q1, q2, q3, q4, q5, q6⟩ := h.form
      simp -implicitDefEqProofs -dsimp only [go_sem, seval, q1]
      exact finL_bts h rfl

/-- Room for more, of nothing. -/
theorem ac_Grow (n : Nat) (hn : n ≤ 1000000000) (T : Tab) : ACalls prog f_slices_Grow_byte_byte [.fz 0 [] (some 0), .i .i64 n] T (fun v T' => Own T 1 v 0 [] T') := by
  refine acalls_of mixed t_slices_Grow_byte_byte (by simp) ?_
  unfold s_slices_Grow_byte_byte
  have h0 : decide ((n : Int) < 0) = false := decide_eq_false (by omega)
  have h1 : IntKind.i64.wrap (n : Int) = n := wrap_i64 (by unfold I64; omega)
  have h2 : IntKind.i64.wrap ((n : Int) - 0) = n := by rw [Int.sub_zero]; exact h1
  have h3 : IntKind.i64.wrap 0 = 0 := rfl
  simp -implicitDefEqProofs -dsimp only [go_sem, seval, h0, h1, h2, h3, Int.sub_zero, show ((0 : Nat) : Int) = 0 from rfl]
  refine br_split (fun h => ?_) (fun h => ?_)
  · have hp := of_decide_eq_true h
    simp -implicitDefEqProofs -dsimp only [go_sem, seval, h, Int.sub_zero, show ((0 : Nat) : Int) = 0 from rfl, Nat.le_refl, true_or, true_and, Nat.sub_self]
    refine apzS_of hp (by omega) (by omega) fun id hid => ?_
    refine aft_nil ?_
    simp -implicitDefEqProofs -dsimp only [go_sem, seval, Tab.put_same, Int.toNat_natCast, Nat.zero_le, true_or, or_true, true_and, show ((0 : Nat) : Int) = 0 from rfl, Int.toNat_zero]
    refine finL_of (T.put id (.row 1 [])) (fun j => ?_) ⟨rfl, .inr ⟨id, rfl, hid, rfl⟩⟩
    simp only [Tab.put]
    split
    · exact .inr (.inr ⟨1, _, 0, rfl, by simp⟩)
    · exact .inr (.inl rfl)
  · simp -implicitDefEqProofs -dsimp only [go_sem, seval, h]
    exact finL_of T (fun _ => .inr (.inl rfl)) (.nil T 1)

theorem pc_Concat (l m : List UInt8) (k1 k2 : Option Nat) (hl : l.length ≤ 400000000) (hm : m.length ≤ 400000000) : PCalls prog f_slices_Concat_byte_byte [.fz 2 [bts l k1, bts m k2] (some 2)] (bts (l ++ m) none) := by
  refine pcalls_of mixed t_slices_Concat_byte_byte (by simp) fun T => ?_
  unfold s_slices_Concat_byte_byte
  have w1 : IntKind.i64.wrap (0 + (l.length : Int)) = l.length := by rw [Int.zero_add]; exact wrap_i64 (by unfold I64; omega)
  have w2 : IntKind.i64.wrap ((l.length : Int) + m.length) = ((l.length + m.length : Nat) : Int) := by rw [wrap_i64 (by unfold I64; omega)]; simp
  have d1 : decide ((l.length : Int) < 0) = false := decide_eq_false (by omega)
  have d2 : decide (((l.length + m.length : Nat) : Int) < 0) = false := decide_eq_false (by omega)
  have w3 : IntKind.i64.wrap 1 = 1 := rfl
  have w4 : IntKind.i64.wrap 2 = 2 := rfl
  simp -implicitDefEqProofs -dsimp only [go_sem, seval, show ((2 : Nat) : Int) = 2 from rfl]
  refine AW_loopD (l := slices_Concat_byte_byte_l0) rfl (by repeat' (first | exact finX_ext _ _ | assumption | apply blkR_ext | apply thenR_ext | apply AW_ext)) ?_
  unfold slices_Concat_byte_byte_l0b
  simp -implicitDefEqProofs -dsimp only [go_sem, seval, bts, w1, d1, w3, Int.natCast_nonneg, show ((2 : Nat) : Int) = 2 from rfl, decide_true, decide_false]
  refine AW_loopD (l := slices_Concat_byte_byte_l0) rfl (by repeat' (first | exact finX_ext _ _ | assumption | apply blkR_ext | apply thenR_ext | apply AW_ext)) ?_
  unfold slices_Concat_byte_byte_l0b
  simp -implicitDefEqProofs -dsimp only [go_sem, seval, bts, w2, d2, w4, Int.natCast_nonneg, show ((2 : Nat) : Int) = 2 from rfl, decide_true, decide_false]
  refine AW_loopD (l := slices_Concat_byte_byte_l0) rfl (by repeat' (first | exact finX_ext _ _ | assumption | apply blkR_ext | apply thenR_ext | apply AW_ext)) ?_
  unfold slices_Concat_byte_byte_l0b
  simp -implicitDefEqProofs -dsimp only [go_sem, seval, bts, show ((2 : Nat) : Int) = 2 from rfl, decide_true, decide_false, ↓g_call _ _ c_slices_Grow_byte_byte]
  refine CallK.of (ac_Grow (l.length + m.length) (by omega) T) (fun v T1 h => ?_)
  refine aft_nil ?_
  obtain ⟨q1, q2, q3, q4, q5, q6⟩ := h.form
  simp -implicitDefEqProofs -dsimp only [go_sem, seval, q1, q2, q3, q4, q5, q6, show ((2 : Nat) : Int) = 2 from rfl]
  refine AW_loopD (l := slices_Concat_byte_byte_l1) rfl (by repeat' (first | exact finX_ext _ _ | assumption | apply blkR_ext | apply thenR_ext | apply AW_ext)) ?_
  unfold slices_Concat_byte_byte_l1b
  simp -implicitDefEqProofs -dsimp only [go_sem, seval, q1, q2, q3, q4, q5, q6, w3, w4, decide_true, decide_false, show ((2 : Nat) : Int) = 2 from rfl, show (1 : Int).toNat = 1 from rfl]
  refine (Owns.one h).app (b := 1) (m := l.length) (news := byteCells l) (slCells_bytes l k1) rfl (by simp only; omega) (by simp only; omega) fun v' T2 h2 => ?_
  refine aft_nil ?_
  obtain ⟨q1, q2, q3, q4, q5, q6⟩ := h2.form (List.mem_cons_self ..)
  simp only at q1 q2 q3 q4 q5 q6
  simp -implicitDefEqProofs -dsimp only [go_sem, seval, q1, q2, q3, q4, q5, q6, w3, w4, decide_true, decide_false, show ((2 : Nat) : Int) = 2 from rfl, show (1 : Int).toNat = 1 from rfl]
  refine AW_loopD (l := slices_Concat_byte_byte_l1) rfl (by repeat' (first | exact finX_ext _ _ | assumption | apply blkR_ext | apply thenR_ext | apply AW_ext)) ?_
  unfold slices_Concat_byte_byte_l1b
  simp -implicitDefEqProofs -dsimp only [go_sem, seval, q1, q2, q3, q4, q5, q6, w3, w4, decide_true, decide_false, show ((2 : Nat) : Int) = 2 from rfl, show (1 : Int).toNat = 1 from rfl]
  refine h2.app (b := 1) (m := m.length) (news := byteCells m) (slCells_bytes m k2) rfl (by simp only; omega) (by simp only; omega) fun v' T3 h3 => ?_
  refine aft_nil ?_
  obtain ⟨q1, q2, q3, q4, q5, q6⟩ := h3.form (List.mem_cons_self ..)
  simp only at q1 q2 q3 q4 q5 q6
  simp -implicitDefEqProofs -dsimp only [go_sem, seval, q1, q2, q3, q4, q5, q6, w3, w4, decide_true, decide_false, show ((2 : Nat) : Int) = 2 from rfl, show (1 : Int).toNat = 1 from rfl]
  refine AW_loopD (l := slices_Concat_byte_byte_l1) rfl (by repeat' (first | exact finX_ext _ _ | assumption | apply blkR_ext | apply thenR_ext | apply AW_ext)) ?_
  unfold slices_Concat_byte_byte_l1b
  simp -implicitDefEqProofs -dsimp only [go_sem, seval, q1, q2, q3, q4, q5, q6, w3, w4, decide_true, decide_false, show ((2 : Nat) : Int) = 2 from rfl, show (1 : Int).toNat = 1 from rfl]
  obtain ⟨T0, rfl, ho⟩ := h3
  simp only [List.nil_append, byteCells_append] at ho
  exact finL_bts ho (by simp)
end Go.Aw
