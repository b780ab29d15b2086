import Derived.Test.YtmicojcojlgefaaK29R28U
namespace Go.Aw
open Go
open Go.Proofs.Try (prog)
set_option linter.all false
set_option maxHeartbeats 4000000

/-- Room for more, of nothing. -/
theorem ac_GrowS (n : Nat) (hn : n ≤ 1000000000) (T : Tab) : ACalls prog f_slices_Grow_string_string [.fz 0 [] (some 0), .i .i64 n] T (fun v T' => Own T 1 v 0 [] T') := by
  refine acalls_of mixed t_slices_Grow_string_string (by simp) ?_
  unfold s_slices_Grow_string_string
  have h0 : decide ((n : Int) < 0) = false := decide_eq_false (by omega)
  have h1 : IntKind.i64.wrap (n : Int) = n := wrap_i64 (by unfold I64; omega)
  have h2 : IntKind.i64.wrap ((n : Int) - 0) = n := by rw [Int.sub_zero]; exact h1
  have h3 : IntKind.i64.wrap 0 = 0 := rfl
  simp -implicitDefEqProofs -dsimp only [go_sem, seval, h0, h1, h2, h3, Int.sub_zero, show ((0 : Nat) : Int) = 0 from rfl]
  refine br_split (fun h => ?_) (fun h => ?_)
  · have hp := of_decide_eq_true h
    simp -implicitDefEqProofs -dsimp only [go_sem, seval, h, Int.sub_zero, show ((0 : Nat) : Int) = 0 from rfl, Nat.le_refl, true_or, true_and, Nat.sub_self]
    refine apzS_of hp (by omega) (by omega) fun id hid => ?_
    refine aft_nil ?_
    simp -implicitDefEqProofs -dsimp only [go_sem, seval, Tab.put_same, Int.toNat_natCast, Nat.zero_le, true_or, or_true, true_and, show ((0 : Nat) : Int) = 0 from rfl, Int.toNat_zero]
    refine finL_of (T.put id (.row 1 [])) (fun j => ?_) ⟨rfl, .inr ⟨id, rfl, hid, rfl⟩⟩
    simp only [Tab.put]
    split
    · exact .inr (.inr ⟨1, _, 0, rfl, by simp⟩)
    · exact .inr (.inl rfl)
  · simp -implicitDefEqProofs -dsimp only [go_sem, seval, h]
    exact finL_of T (fun _ => .inr (.inl rfl)) (.nil T 1)

theorem pc_ConcatS (l m : List AV) (k1 k2 : Option Nat) (hl : l.length ≤ 400000000) (hm : m.length ≤ 400000000) : PCalls prog f_slices_Concat_string_string [.fz 2 [.fz l.length l k1, .fz m.length m k2] (some 2)] (.fz (l.length + m.length) (l ++ m) none) := by
  refine pcalls_of mixed t_slices_Concat_string_string (by simp) fun T => ?_
  unfold s_slices_Concat_string_string
  have w1 : IntKind.i64.wrap (0 + (l.length : Int)) = l.length := by rw [Int.zero_add]; exact wrap_i64 (by unfold I64; omega)
  have w2 : IntKind.i64.wrap ((l.length : Int) + m.length) = ((l.length + m.length : Nat) : Int) := by rw [wrap_i64 (by unfold I64; omega)]; simp
  have d1 : decide ((l.length : Int) < 0) = false := decide_eq_false (by omega)
  have d2 : decide (((l.length + m.length : Nat) : Int) < 0) = false := decide_eq_false (by omega)
  have w3 : IntKind.i64.wrap 1 = 1 := rfl
  have w4 : IntKind.i64.wrap 2 = 2 := rfl
  simp -implicitDefEqProofs -dsimp only [go_sem, seval, show ((2 : Nat) : Int) = 2 from rfl]
  refine AW_loopD (l := slices_Concat_string_string_l0) rfl (by repeat' (first | exact finX_ext _ _ | assumption | apply blkR_ext | apply thenR_ext | apply AW_ext)) ?_
  unfold slices_Concat_string_string_l0b
  simp -implicitDefEqProofs -dsimp only [go_sem, seval, w1, d1, w3, Int.natCast_nonneg, show ((2 : Nat) : Int) = 2 from rfl, decide_true, decide_false]
  refine AW_loopD (l := slices_Concat_string_string_l0) rfl (by repeat' (first | exact finX_ext _ _ | assumption | apply blkR_ext | apply thenR_ext | apply AW_ext)) ?_
  unfold slices_Concat_string_string_l0b
  simp -implicitDefEqProofs -dsimp only [go_sem, seval, w2, d2, w4, Int.natCast_nonneg, show ((2 : Nat) : Int) = 2 from rfl, decide_true, decide_false]
  refine AW_loopD (l := slices_Concat_string_string_l0) rfl (by repeat' (first | exact finX_ext _ _ | assumption | apply blkR_ext | apply thenR_ext | apply AW_ext)) ?_
  unfold slices_Concat_string_string_l0b
  simp -implicitDefEqProofs -dsimp only [go_sem, seval, show ((2 : Nat) : Int) = 2 from rfl, decide_true, decide_false, ↓g_call _ _ c_slices_Grow_string_string]
  refine CallK.of (ac_GrowS (l.length + m.length) (by omega) T) (fun v T1 h => ?_)
  refine aft_nil ?_
  obtain ⟨q1, q2, q3, q4, q5, q6⟩ := h.form
  simp -implicitDefEqProofs -dsimp only [go_sem, seval, q1, q2, q3, q4, q5, q6, show ((2 : Nat) : Int) = 2 from rfl]
  refine AW_loopD (l := slices_Concat_string_string_l1) rfl (by repeat' (first | exact finX_ext _ _ | assumption | apply blkR_ext | apply thenR_ext | apply AW_ext)) ?_
  unfold slices_Concat_string_string_l1b
  simp -implicitDefEqProofs -dsimp only [go_sem, seval, q1, q2, q3, q4, q5, q6, w3, w4, decide_true, decide_false, show ((2 : Nat) : Int) = 2 from rfl, show (1 : Int).toNat = 1 from rfl]
  refine (Owns.one h).app (b := 16) (m := l.length) (news := l) (by simp [slCells]) rfl (by simp only; omega) (by simp only; omega) fun v' T2 h2 => ?_
  refine aft_nil ?_
  obtain ⟨q1, q2, q3, q4, q5, q6⟩ := h2.form (List.mem_cons_self ..)
  simp only at q1 q2 q3 q4 q5 q6
  simp -implicitDefEqProofs -dsimp only [go_sem, seval, q1, q2, q3, q4, q5, q6, w3, w4, decide_true, decide_false, show ((2 : Nat) : Int) = 2 from rfl, show (1 : Int).toNat = 1 from rfl]
  refine AW_loopD (l := slices_Concat_string_string_l1) rfl (by repeat' (first | exact finX_ext _ _ | assumption | apply blkR_ext | apply thenR_ext | apply AW_ext)) ?_
  unfold slices_Concat_string_string_l1b
  simp -implicitDefEqProofs -dsimp only [go_sem, seval, q1, q2, q3, q4, q5, q6, w3, w4, decide_true, decide_false, show ((2 : Nat) : Int) = 2 from rfl, show (1 : Int).toNat = 1 from rfl]
  refine h2.app (b := 16) (m := m.length) (news := m) (by simp [slCells]) rfl (by simp only; omega) (by simp only; omega) fun v' T3 h3 => ?_
  refine aft_nil ?_
  obtain ⟨q1, q2, q3, q4, q5, q6⟩ := h3.form (List.mem_cons_self ..)
  simp only at q1 q2 q3 q4 q5 q6
  simp -implicitDefEqProofs -dsimp only [go_sem, seval, q1, q2, q3, q4, q5, q6, w3, w4, decide_true, decide_false, show ((2 : Nat) : Int) = 2 from rfl, show (1 : Int).toNat = 1 from rfl]
  refine AW_loopD (l := slices_Concat_string_string_l1) rfl (by repeat' (first | exact finX_ext _ _ | assumption | apply blkR_ext | apply thenR_ext | apply AW_ext)) ?_
  unfold slices_Concat_string_string_l1b
  simp -implicitDefEqProofs -dsimp only [go_sem, seval, q1, q2, q3, q4, q5, q6, w3, w4, decide_true, decide_false, show ((2 : Nat) : Int) = 2 from rfl, show (1 : Int).toNat = 1 from rfl]
  obtain ⟨T0, rfl, ho⟩ := h3
  simp only [List.nil_append, Nat.zero_add] at ho
  exact ho.fzn


def Tx.keys (t : Tx) : List Bs := t.rs.map (·.k) ++ t.ws.map (·.k)
theorem pc_Keys (t : Tx) (k1 k2 : Option Nat) (hf : t.Fine) (hr : t.rs.length ≤ 400000000) (hw : t.ws.length ≤ 400000000) : PCalls prog f_entry_Txn_Keys [.agg (t.cells k1 k2)] (.fz t.keys.length (strs t.keys) none) := by
  refine pcalls_of mixed t_entry_Txn_Keys (by simp) fun T => ?_
  have c1 := pc_readKeys t k1 k2 hf.r
  have c2 := pc_writeKeys t k1 k2 hf.w
  have c3 := pc_ConcatS (strs (t.rs.map (·.k))) (strs (t.ws.map (·.k))) none none (by simp [strs]; omega) (by simp [strs]; omega)
  simp only [strs_length, List.length_map, strs_append] at c3
  simp only [Tx.cells] at c1 c2
  unfold s_entry_Txn_Keys
  simp -implicitDefEqProofs -dsimp only [go_sem, seval, Tx.cells, ↓g_call _ _ c_entry_Txn_readKeys]
  refine CallK.pure c1 (aft_nil ?_)
  simp -implicitDefEqProofs -dsimp only [go_sem, seval, ↓g_call _ _ c_entry_Txn_writeKeys]
  refine CallK.pure c2 (aft_nil ?_)
  simp -implicitDefEqProofs -dsimp only [go_sem, seval, ↓g_call _ _ c_slices_Concat_string_string]
  refine CallK.pure c3 (aft_nil ?_)
  simp -implicitDefEqProofs -dsimp only [go_sem, seval]
  have e : t.keys.length = t.rs.length + t.ws.length := by simp [Tx.keys]
  rw [e]
  exact finL_pure rfl

theorem Tx.keys_len {t : Tx} (hf : t.Fine) : ∀ x ∈ t.keys, Len x.length := by
  intro x hx
  rcases List.mem_append.1 hx with h | h
  · obtain ⟨r, hr, rfl⟩ := List.mem_map.1 h; exact hf.rk r hr
  · obtain ⟨r, hr, rfl⟩ := List.mem_map.1 h; exact hf.wk r hr

theorem pc_tShards (t : Tx) (k1 k2 : Option Nat) (n : Int) (hf : t.Fine) (hr : t.rs.length ≤ 400000000) (hw : t.ws.length ≤ 400000000) : PCalls prog f_entry_Txn_Shards [.agg (t.cells k1 k2), .i .i64 n] (.fz (shardsOf t.keys n).length (ints (shardsOf t.keys n)) none) := by
  refine pcalls_of mixed t_entry_Txn_Shards (by simp) fun T => ?_
  have c1 := pc_Keys t k1 k2 hf hr hw
  have c2 := pc_kShards t.keys none n (by simp [Tx.keys]; omega) (Tx.keys_len hf)
  simp only [Tx.cells] at c1
  unfold s_entry_Txn_Shards
  simp -implicitDefEqProofs -dsimp only [go_sem, seval, Tx.cells, ↓g_call _ _ c_entry_Txn_Keys]
  refine CallK.pure c1 (aft_nil ?_)
  simp -implicitDefEqProofs -dsimp only [go_sem, seval, ↓g_call _ _ c_keys_Shards]
  refine CallK.pure c2 (aft_nil ?_)
  simp -implicitDefEqProofs -dsimp only [go_sem, seval]
  exact finL_pure rfl
end Go.Aw

