import Derived.Test.YtmicojcojlgefaaK29M17C
namespace Go.Aw
open Go
open Go.Proofs.Try (prog)
set_option linter.all false
set_option maxHeartbeats 4000000
set_option maxRecDepth 8000

def cfE (a b : Cf) : Bool := decide (a.ep = b.ep) && decide (a.sh = b.sh) && decide (a.ln = b.ln) && eqL intE a.ch b.ch && eqL boolE a.fu b.fu
def txE (a b : Tx) : Bool := (decide (a.cl = b.cl) && decide (a.sq = b.sq)) && decide (a.pl = b.pl) && eqL rdE a.rs b.rs && eqL wtE a.ws b.ws
def enE (a b : En) : Bool := decide (a.ep = b.ep) && decide (a.kd = b.kd) && (decide (a.cl = b.cl) && decide (a.sq = b.sq)) && decide (a.co = b.co) && txE a.t b.t
theorem flat_int (l : List Int) : l.flatMap intC = ints l := by induction l with
  | nil => rfl
  | cons a l ih => simp only [List.flatMap_cons, ih]; rfl
theorem flat_bool (l : List Bool) : l.flatMap boolC = bools l := by induction l with
  | nil => rfl
  | cons a l ih => simp only [List.flatMap_cons, ih]; rfl
theorem pc_eq_ints (xs ys : List Int) (c1 c2 : Option Nat) (hl : Len xs.length) : PCalls prog f_slices_Equal_int_int [.fz xs.length (ints xs) c1, .fz ys.length (ints ys) c2] (.b (eqL intE xs ys)) := by
  have := pc_eq_int xs ys c1 c2 hl
  rw [flat_int, flat_int] at this
  exact this
theorem pc_eq_bools (xs ys : List Bool) (c1 c2 : Option Nat) (hl : Len xs.length) : PCalls prog f_slices_Equal_bool_bool [.fz xs.length (bools xs) c1, .fz ys.length (bools ys) c2] (.b (eqL boolE xs ys)) := by
  have := pc_eq_bool xs ys c1 c2 hl
  rw [flat_bool, flat_bool] at this
  exact this
theorem pc_confSame (a b : Cf) (k1 k2 k3 k4 : Option Nat) (h1 : Len a.ch.length) (h2 : Len a.fu.length) : PCalls prog f_conf_Same [.agg (a.cells k1 k2), .agg (b.cells k3 k4)] (.b (cfE a b)) := by
  refine pcalls_of mixed t_conf_Same (by simp) fun T => ?_
  unfold s_conf_Same
  simp -implicitDefEqProofs -dsimp only [go_sem, seval, Cf.cells]
  (first | ((first | (apply br_split <;> intro h_1) | (refine CallK.pure (pc_eq_ints _ _ _ _ h1) (aft_nil ?_); have h_1 := trivial) | (refine CallK.pure (pc_eq_bools _ _ _ _ h2) (aft_nil ?_); have h_1 := trivial)) <;> simp -implicitDefEqProofs -dsimp only [go_sem, seval, ↓g_call _ _ c_slices_Equal_int_int, ↓g_call _ _ c_slices_Equal_bool_bool, h_1]) | (have h_1 := trivial)) <;>
    (first | ((first | (apply br_split <;> intro h_2) | (refine CallK.pure (pc_eq_ints _ _ _ _ h1) (aft_nil ?_); have h_2 := trivial) | (refine CallK.pure (pc_eq_bools _ _ _ _ h2) (aft_nil ?_); have h_2 := trivial)) <;> simp -implicitDefEqProofs -dsimp only [go_sem, seval, ↓g_call _ _ c_slices_Equal_int_int, ↓g_call _ _ c_slices_Equal_bool_bool, h_1, h_2]) | (have h_2 := trivial)) <;>
    (first | ((first | (apply br_split <;> intro h_3) | (refine CallK.pure (pc_eq_ints _ _ _ _ h1) (aft_nil ?_); have h_3 := trivial) | (refine CallK.pure (pc_eq_bools _ _ _ _ h2) (aft_nil ?_); have h_3 := trivial)) <;> simp -implicitDefEqProofs -dsimp only [go_sem, seval, ↓g_call _ _ c_slices_Equal_int_int, ↓g_call _ _ c_slices_Equal_bool_bool, h_1, h_2, h_3]) | (have h_3 := trivial)) <;>
    (first | ((first | (apply br_split <;> intro h_4) | (refine CallK.pure (pc_eq_ints _ _ _ _ h1) (aft_nil ?_); have h_4 := trivial) | (refine CallK.pure (pc_eq_bools _ _ _ _ h2) (aft_nil ?_); have h_4 := trivial)) <;> simp -implicitDefEqProofs -dsimp only [go_sem, seval, ↓g_call _ _ c_slices_Equal_int_int, ↓g_call _ _ c_slices_Equal_bool_bool, h_1, h_2, h_3, h_4]) | (have h_4 := trivial)) <;>
    (first | ((first | (apply br_split <;> intro h_5) | (refine CallK.pure (pc_eq_ints _ _ _ _ h1) (aft_nil ?_); have h_5 := trivial) | (refine CallK.pure (pc_eq_bools _ _ _ _ h2) (aft_nil ?_); have h_5 := trivial)) <;> simp -implicitDefEqProofs -dsimp only [go_sem, seval, ↓g_call _ _ c_slices_Equal_int_int, ↓g_call _ _ c_slices_Equal_bool_bool, h_1, h_2, h_3, h_4, h_5]) | (have h_5 := trivial)) <;>
    (first | ((first | (apply br_split <;> intro h_6) | (refine CallK.pure (pc_eq_ints _ _ _ _ h1) (aft_nil ?_); have h_6 := trivial) | (refine CallK.pure (pc_eq_bools _ _ _ _ h2) (aft_nil ?_); have h_6 := trivial)) <;> simp -implicitDefEqProofs -dsimp only [go_sem, seval, ↓g_call _ _ c_slices_Equal_int_int, ↓g_call _ _ c_slices_Equal_bool_bool, h_1, h_2, h_3, h_4, h_5, h_6]) | (have h_6 := trivial)) <;>
    (first | ((first | (apply br_split <;> intro h_7) | (refine CallK.pure (pc_eq_ints _ _ _ _ h1) (aft_nil ?_); have h_7 := trivial) | (refine CallK.pure (pc_eq_bools _ _ _ _ h2) (aft_nil ?_); have h_7 := trivial)) <;> simp -implicitDefEqProofs -dsimp only [go_sem, seval, ↓g_call _ _ c_slices_Equal_int_int, ↓g_call _ _ c_slices_Equal_bool_bool, h_1, h_2, h_3, h_4, h_5, h_6, h_7]) | (have h_7 := trivial)) <;>
    (first | ((first | (apply br_split <;> intro h_8) | (refine CallK.pure (pc_eq_ints _ _ _ _ h1) (aft_nil ?_); have h_8 := trivial) | (refine CallK.pure (pc_eq_bools _ _ _ _ h2) (aft_nil ?_); have h_8 := trivial)) <;> simp -implicitDefEqProofs -dsimp only [go_sem, seval, ↓g_call _ _ c_slices_Equal_int_int, ↓g_call _ _ c_slices_Equal_bool_bool, h_1, h_2, h_3, h_4, h_5, h_6, h_7, h_8]) | (have h_8 := trivial))
  all_goals (refine finL_pure ?_; simp_all [cfE])
theorem pc_entrySame (a b : En) (k1 k2 k3 k4 : Option Nat) (h1 : Len a.t.rs.length) (h2 : Len a.t.ws.length) : PCalls prog f_entry_Same [.agg (a.cells k1 k2), .agg (b.cells k3 k4)] (.b (enE a b)) := by
  refine pcalls_of mixed t_entry_Same (by simp) fun T => ?_
  unfold s_entry_Same
  simp -implicitDefEqProofs -dsimp only [go_sem, seval, En.cells, aggEq, scalarEq, Bool.and_true]
  (first | ((first | (apply br_split <;> intro h_1) | (refine CallK.pure (pc_eq_entry_Read _ _ _ _ h1) (aft_nil ?_); have h_1 := trivial) | (refine CallK.pure (pc_eq_entry_Write _ _ _ _ h2) (aft_nil ?_); have h_1 := trivial)) <;> simp -implicitDefEqProofs -dsimp only [go_sem, seval, aggEq, scalarEq, Bool.and_true, ↓g_call _ _ c_slices_Equal_entry_Read_entry_Read, ↓g_call _ _ c_slices_Equal_entry_Write_entry_Write, h_1]) | (have h_1 := trivial)) <;>
    (first | ((first | (apply br_split <;> intro h_2) | (refine CallK.pure (pc_eq_entry_Read _ _ _ _ h1) (aft_nil ?_); have h_2 := trivial) | (refine CallK.pure (pc_eq_entry_Write _ _ _ _ h2) (aft_nil ?_); have h_2 := trivial)) <;> simp -implicitDefEqProofs -dsimp only [go_sem, seval, aggEq, scalarEq, Bool.and_true, ↓g_call _ _ c_slices_Equal_entry_Read_entry_Read, ↓g_call _ _ c_slices_Equal_entry_Write_entry_Write, h_1, h_2]) | (have h_2 := trivial)) <;>
    (first | ((first | (apply br_split <;> intro h_3) | (refine CallK.pure (pc_eq_entry_Read _ _ _ _ h1) (aft_nil ?_); have h_3 := trivial) | (refine CallK.pure (pc_eq_entry_Write _ _ _ _ h2) (aft_nil ?_); have h_3 := trivial)) <;> simp -implicitDefEqProofs -dsimp only [go_sem, seval, aggEq, scalarEq, Bool.and_true, ↓g_call _ _ c_slices_Equal_entry_Read_entry_Read, ↓g_call _ _ c_slices_Equal_entry_Write_entry_Write, h_1, h_2, h_3]) | (have h_3 := trivial)) <;>
    (first | ((first | (apply br_split <;> intro h_4) | (refine CallK.pure (pc_eq_entry_Read _ _ _ _ h1) (aft_nil ?_); have h_4 := trivial) | (refine CallK.pure (pc_eq_entry_Write _ _ _ _ h2) (aft_nil ?_); have h_4 := trivial)) <;> simp -implicitDefEqProofs -dsimp only [go_sem, seval, aggEq, scalarEq, Bool.and_true, ↓g_call _ _ c_slices_Equal_entry_Read_entry_Read, ↓g_call _ _ c_slices_Equal_entry_Write_entry_Write, h_1, h_2, h_3, h_4]) | (have h_4 := trivial)) <;>
    (first | ((first | (apply br_split <;> intro h_5) | (refine CallK.pure (pc_eq_entry_Read _ _ _ _ h1) (aft_nil ?_); have h_5 := trivial) | (refine CallK.pure (pc_eq_entry_Write _ _ _ _ h2) (aft_nil ?_); have h_5 := trivial)) <;> simp -implicitDefEqProofs -dsimp only [go_sem, seval, aggEq, scalarEq, Bool.and_true, ↓g_call _ _ c_slices_Equal_entry_Read_entry_Read, ↓g_call _ _ c_slices_Equal_entry_Write_entry_Write, h_1, h_2, h_3, h_4, h_5]) | (have h_5 := trivial)) <;>
    (first | ((first | (apply br_split <;> intro h_6) | (refine CallK.pure (pc_eq_entry_Read _ _ _ _ h1) (aft_nil ?_); have h_6 := trivial) | (refine CallK.pure (pc_eq_entry_Write _ _ _ _ h2) (aft_nil ?_); have h_6 := trivial)) <;> simp -implicitDefEqProofs -dsimp only [go_sem, seval, aggEq, scalarEq, Bool.and_true, ↓g_call _ _ c_slices_Equal_entry_Read_entry_Read, ↓g_call _ _ c_slices_Equal_entry_Write_entry_Write, h_1, h_2, h_3, h_4, h_5, h_6]) | (have h_6 := trivial)) <;>
    (first | ((first | (apply br_split <;> intro h_7) | (refine CallK.pure (pc_eq_entry_Read _ _ _ _ h1) (aft_nil ?_); have h_7 := trivial) | (refine CallK.pure (pc_eq_entry_Write _ _ _ _ h2) (aft_nil ?_); have h_7 := trivial)) <;> simp -implicitDefEqProofs -dsimp only [go_sem, seval, aggEq, scalarEq, Bool.and_true, ↓g_call _ _ c_slices_Equal_entry_Read_entry_Read, ↓g_call _ _ c_slices_Equal_entry_Write_entry_Write, h_1, h_2, h_3, h_4, h_5, h_6, h_7]) | (have h_7 := trivial)) <;>
    (first | ((first | (apply br_split <;> intro h_8) | (refine CallK.pure (pc_eq_entry_Read _ _ _ _ h1) (aft_nil ?_); have h_8 := trivial) | (refine CallK.pure (pc_eq_entry_Write _ _ _ _ h2) (aft_nil ?_); have h_8 := trivial)) <;> simp -implicitDefEqProofs -dsimp only [go_sem, seval, aggEq, scalarEq, Bool.and_true, ↓g_call _ _ c_slices_Equal_entry_Read_entry_Read, ↓g_call _ _ c_slices_Equal_entry_Write_entry_Write, h_1, h_2, h_3, h_4, h_5, h_6, h_7, h_8]) | (have h_8 := trivial)) <;>
    (first | ((first | (apply br_split <;> intro h_9) | (refine CallK.pure (pc_eq_entry_Read _ _ _ _ h1) (aft_nil ?_); have h_9 := trivial) | (refine CallK.pure (pc_eq_entry_Write _ _ _ _ h2) (aft_nil ?_); have h_9 := trivial)) <;> simp -implicitDefEqProofs -dsimp only [go_sem, seval, aggEq, scalarEq, Bool.and_true, ↓g_call _ _ c_slices_Equal_entry_Read_entry_Read, ↓g_call _ _ c_slices_Equal_entry_Write_entry_Write, h_1, h_2, h_3, h_4, h_5, h_6, h_7, h_8, h_9]) | (have h_9 := trivial)) <;>
    (first | ((first | (apply br_split <;> intro h_10) | (refine CallK.pure (pc_eq_entry_Read _ _ _ _ h1) (aft_nil ?_); have h_10 := trivial) | (refine CallK.pure (pc_eq_entry_Write _ _ _ _ h2) (aft_nil ?_); have h_10 := trivial)) <;> simp -implicitDefEqProofs -dsimp only [go_sem, seval, aggEq, scalarEq, Bool.and_true, ↓g_call _ _ c_slices_Equal_entry_Read_entry_Read, ↓g_call _ _ c_slices_Equal_entry_Write_entry_Write, h_1, h_2, h_3, h_4, h_5, h_6, h_7, h_8, h_9, h_10]) | (have h_10 := trivial)) <;>
    (first | ((first | (apply br_split <;> intro h_11) | (refine CallK.pure (pc_eq_entry_Read _ _ _ _ h1) (aft_nil ?_); have h_11 := trivial) | (refine CallK.pure (pc_eq_entry_Write _ _ _ _ h2) (aft_nil ?_); have h_11 := trivial)) <;> simp -implicitDefEqProofs -dsimp only [go_sem, seval, aggEq, scalarEq, Bool.and_true, ↓g_call _ _ c_slices_Equal_entry_Read_entry_Read, ↓g_call _ _ c_slices_Equal_entry_Write_entry_Write, h_1, h_2, h_3, h_4, h_5, h_6, h_7, h_8, h_9, h_10, h_11]) | (have h_11 := trivial))
  all_goals (refine finL_pure ?_; simp only [enE, txE, *, Bool.true_and, Bool.and_true, Bool.false_and, Bool.and_false])
theorem pc_cfE (x y : Cf) (h1 : Len x.ch.length ∧ Len x.fu.length) (h2 : Len y.ch.length ∧ Len y.fu.length) : PCalls prog f_conf_Same [.agg (cfC x), .agg (cfC y)] (.b (cfE x y)) := pc_confSame x y _ _ _ _ h1.1 h1.2
theorem pc_enE (x y : En) (h1 : x.t.Fine) (h2 : y.t.Fine) : PCalls prog f_entry_Same [.agg (enC x), .agg (enC y)] (.b (enE x y)) := pc_entrySame x y _ _ _ _ (by have := h1.r; unfold Len; omega) (by have := h1.w; unfold Len; omega)
def CfL (c : Cf) : Prop := Len c.ch.length ∧ Len c.fu.length
def EnF (e : En) : Prop := e.t.Fine

theorem lp_eqf_conf_Conf {R : RPost} (hR : ExtR R) {T : Tab} {xs ys : List Cf} {c1 c2 : Option Nat} (hl : Len xs.length) (hlen : xs.length = ys.length) (hx : ∀ x ∈ xs, CfL x) (hy : ∀ y ∈ ys, CfL y) : ∀ (us vs : List Cf) (k : Nat), xs.drop k = us → ys.drop k = vs → k ≤ xs.length →
    (eqL cfE us vs = false → R .ret [(6, .b false)] [] T) →
    (eqL cfE us vs = true → R (.exit 0) [(1, .fz ys.length (ys.flatMap cfC) c2), (2, .fn (.func f_conf_Same) [] []), (15, .fz xs.length (xs.flatMap cfC) c1), (16, .i .i64 xs.length), (17, .i .i64 xs.length), (18, .b false)] [] T) →
    AW prog slices_EqualFunc_conf_Conf_conf_Conf_conf_Conf_conf_Conf_l0 R [(1, .fz ys.length (ys.flatMap cfC) c2), (2, .fn (.func f_conf_Same) [] []), (15, .fz xs.length (xs.flatMap cfC) c1), (16, .i .i64 xs.length), (17, .i .i64 k)] [] T := by
  intro us
  induction us with
  | nil =>
    intro vs k hk hv hle h1 h2
    have hk' := drop_nil hk hle
    have hvs : vs = [] := by rw [← hv]; exact List.drop_eq_nil_iff.2 (by omega)
    subst hvs
    refine AW_loop hR ?_
    unfold slices_EqualFunc_conf_Conf_conf_Conf_conf_Conf_conf_Conf_l0b
    simp -implicitDefEqProofs -dsimp only [go_sem, seval, hk', Int.lt_irrefl]
    rw [hk'] at h2
    exact h2 rfl
  | cons x us ih =>
    intro vs k hk hv hle h1 h2
    obtain ⟨hlt, hx1, hk'⟩ := drop_lt hk
    obtain ⟨y, vs, rfl⟩ : ∃ y w, vs = y :: w := by
      cases vs with
      | nil => have := List.drop_eq_nil_iff.1 hv; omega
      | cons y w => exact ⟨y, w, rfl⟩
    obtain ⟨hlt2, hy1, hv'⟩ := drop_lt hv
    have cl : ∀ c : Cf, (cfC c).length = 5 := fun _ => rfl
    have ea := flat_at cl hx1
    have eb := flat_at cl hy1
    have e5 : k * 5 + 5 ≤ (xs.flatMap cfC).length := by rw [flat_length cl]; omega
    have e6 : k * 5 + 5 ≤ (ys.flatMap cfC).length := by rw [flat_length cl]; omega
    unfold Len at hl
    have hs : IntKind.i64.wrap ((k : Int) + 1) = ((k + 1 : Nat) : Int) := wrap_succ (by omega)
    have pc := pc_cfE x y (hx x (List.mem_of_getElem? hx1)) (hy y (List.mem_of_getElem? hy1))
    simp only [cfC, Cf.cells] at pc
    simp only [eqL] at h1 h2
    refine AW_loopD (l := slices_EqualFunc_conf_Conf_conf_Conf_conf_Conf_conf_Conf_l0) rfl hR ?_
    unfold slices_EqualFunc_conf_Conf_conf_Conf_conf_Conf_conf_Conf_l0b
    simp -implicitDefEqProofs -dsimp only [go_sem, seval, Int.ofNat_lt, hlt, hlt2, Int.natCast_nonneg, Int.toNat_natCast, ea, eb, e5, e6, cfC, Cf.cells, List.cons_append, List.nil_append, calV_some _ _ _ _ _ _ c_conf_Same]
    refine CallK.pure pc (aft_nil ?_)
    rcases he : cfE x y with _ | _
    · simp -implicitDefEqProofs -dsimp only [go_sem, seval]
      exact h1 (by rw [he]; rfl)
    · rw [he, Bool.true_and] at h1 h2
      simp -implicitDefEqProofs -dsimp only [go_sem, seval, hs]
      exact ih vs (k + 1) hk' hv' hlt h1 h2
theorem pc_eqf_conf_Conf (xs ys : List Cf) (c1 c2 : Option Nat) (hl : Len xs.length) (hx : ∀ x ∈ xs, CfL x) (hy : ∀ y ∈ ys, CfL y) : PCalls prog f_slices_EqualFunc_conf_Conf_conf_Conf_conf_Conf_conf_Conf [.fz xs.length (xs.flatMap cfC) c1, .fz ys.length (ys.flatMap cfC) c2, .fn (.func f_conf_Same) [] []] (.b (eqL cfE xs ys)) := by
  refine pcalls_of mixed t_slices_EqualFunc_conf_Conf_conf_Conf_conf_Conf_conf_Conf (by simp) fun T => ?_
  unfold s_slices_EqualFunc_conf_Conf_conf_Conf_conf_Conf_conf_Conf
  simp -implicitDefEqProofs -dsimp only [go_sem, seval]
  refine br_split (fun h => ?_) (fun h => ?_)
  · have hne : xs.length ≠ ys.length := by simp at h; omega
    simp -implicitDefEqProofs -dsimp only [go_sem, seval]
    refine finL_pure ?_
    rw [eqL_ne _ hne]
  · have heq : xs.length = ys.length := by simp at h; omega
    simp -implicitDefEqProofs -dsimp only [go_sem, seval]
    refine lp_eqf_conf_Conf (by repeat' (first | exact finX_ext _ _ | assumption | apply blkR_ext | apply thenR_ext | apply AW_ext)) hl heq hx hy xs ys 0 rfl rfl (Nat.zero_le _) (fun h => ?_) (fun h => ?_) <;> simp -implicitDefEqProofs -dsimp only [go_sem, seval] <;> refine finL_pure ?_ <;> rw [h]

theorem lp_eqf_entry_Entry {R : RPost} (hR : ExtR R) {T : Tab} {xs ys : List En} {c1 c2 : Option Nat} (hl : Len xs.length) (hlen : xs.length = ys.length) (hx : ∀ x ∈ xs, EnF x) (hy : ∀ y ∈ ys, EnF y) : ∀ (us vs : List En) (k : Nat), xs.drop k = us → ys.drop k = vs → k ≤ xs.length →
    (eqL enE us vs = false → R .ret [(6, .b false)] [] T) →
    (eqL enE us vs = true → R (.exit 0) [(1, .fz ys.length (ys.flatMap enC) c2), (2, .fn (.func f_entry_Same) [] []), (15, .fz xs.length (xs.flatMap enC) c1), (16, .i .i64 xs.length), (17, .i .i64 xs.length), (18, .b false)] [] T) →
    AW prog slices_EqualFunc_entry_Entry_entry_Entry_entry_Entry_entry_Entry_l0 R [(1, .fz ys.length (ys.flatMap enC) c2), (2, .fn (.func f_entry_Same) [] []), (15, .fz xs.length (xs.flatMap enC) c1), (16, .i .i64 xs.length), (17, .i .i64 k)] [] T := by
  intro us
  induction us with
  | nil =>
    intro vs k hk hv hle h1 h2
    have hk' := drop_nil hk hle
    have hvs : vs = [] := by rw [← hv]; exact List.drop_eq_nil_iff.2 (by omega)
    subst hvs
    refine AW_loop hR ?_
    unfold slices_EqualFunc_entry_Entry_entry_Entry_entry_Entry_entry_Entry_l0b
    simp -implicitDefEqProofs -dsimp only [go_sem, seval, hk', Int.lt_irrefl]
    rw [hk'] at h2
    exact h2 rfl
  | cons x us ih =>
    intro vs k hk hv hle h1 h2
    obtain ⟨hlt, hx1, hk'⟩ := drop_lt hk
    obtain ⟨y, vs, rfl⟩ : ∃ y w, vs = y :: w := by
      cases vs with
      | nil => have := List.drop_eq_nil_iff.1 hv; omega
      | cons y w => exact ⟨y, w, rfl⟩
    obtain ⟨hlt2, hy1, hv'⟩ := drop_lt hv
    have cl : ∀ c : En, (enC c).length = 10 := fun _ => rfl
    have ea := flat_at cl hx1
    have eb := flat_at cl hy1
    have e5 : k * 10 + 10 ≤ (xs.flatMap enC).length := by rw [flat_length cl]; omega
    have e6 : k * 10 + 10 ≤ (ys.flatMap enC).length := by rw [flat_length cl]; omega
    unfold Len at hl
    have hs : IntKind.i64.wrap ((k : Int) + 1) = ((k + 1 : Nat) : Int) := wrap_succ (by omega)
    have pc := pc_enE x y (hx x (List.mem_of_getElem? hx1)) (hy y (List.mem_of_getElem? hy1))
    simp only [enC, En.cells] at pc
    simp only [eqL] at h1 h2
    refine AW_loopD (l := slices_EqualFunc_entry_Entry_entry_Entry_entry_Entry_entry_Entry_l0) rfl hR ?_
    unfold slices_EqualFunc_entry_Entry_entry_Entry_entry_Entry_entry_Entry_l0b
    simp -implicitDefEqProofs -dsimp only [go_sem, seval, Int.ofNat_lt, hlt, hlt2, Int.natCast_nonneg, Int.toNat_natCast, ea, eb, e5, e6, enC, En.cells, List.cons_append, List.nil_append, calV_some _ _ _ _ _ _ c_entry_Same]
    refine CallK.pure pc (aft_nil ?_)
    rcases he : enE x y with _ | _
    · simp -implicitDefEqProofs -dsimp only [go_sem, seval]
      exact h1 (by rw [he]; rfl)
    · rw [he, Bool.true_and] at h1 h2
      simp -implicitDefEqProofs -dsimp only [go_sem, seval, hs]
      exact ih vs (k + 1) hk' hv' hlt h1 h2
theorem pc_eqf_entry_Entry (xs ys : List En) (c1 c2 : Option Nat) (hl : Len xs.length) (hx : ∀ x ∈ xs, EnF x) (hy : ∀ y ∈ ys, EnF y) : PCalls prog f_slices_EqualFunc_entry_Entry_entry_Entry_entry_Entry_entry_Entry [.fz xs.length (xs.flatMap enC) c1, .fz ys.length (ys.flatMap enC) c2, .fn (.func f_entry_Same) [] []] (.b (eqL enE xs ys)) := by
  refine pcalls_of mixed t_slices_EqualFunc_entry_Entry_entry_Entry_entry_Entry_entry_Entry (by simp) fun T => ?_
  unfold s_slices_EqualFunc_entry_Entry_entry_Entry_entry_Entry_entry_Entry
  simp -implicitDefEqProofs -dsimp only [go_sem, seval]
  refine br_split (fun h => ?_) (fun h => ?_)
  · have hne : xs.length ≠ ys.length := by simp at h; omega
    simp -implicitDefEqProofs -dsimp only [go_sem, seval]
    refine finL_pure ?_
    rw [eqL_ne _ hne]
  · have heq : xs.length = ys.length := by simp at h; omega
    simp -implicitDefEqProofs -dsimp only [go_sem, seval]
    refine lp_eqf_entry_Entry (by repeat' (first | exact finX_ext _ _ | assumption | apply blkR_ext | apply thenR_ext | apply AW_ext)) hl heq hx hy xs ys 0 rfl rfl (Nat.zero_le _) (fun h => ?_) (fun h => ?_) <;> simp -implicitDefEqProofs -dsimp only [go_sem, seval] <;> refine finL_pure ?_ <;> rw [h]
end Go.Aw

