import Derived.Test.YtmicojcojlgefaaK29M17E
namespace Go.Aw
open Go
open Go.Proofs.Try (prog)
set_option linter.all false
set_option maxHeartbeats 8000000
set_option maxRecDepth 8000

def vtNo (v : Vt) : Bool := !vtOk v
def cfNo (c : Cf) : Bool := !c.right
def enNo (e : En) : Bool := !enOk e
theorem pc_vtNo (v : Vt) (_ : True) : PCalls prog f_letter_Letter_lists_1 [.agg (vtC v)] (.b (vtNo v)) := by
  refine pcalls_of mixed t_letter_Letter_lists_1 (by simp) fun T => ?_
  unfold s_letter_Letter_lists_1
  have h := pc_rightVote v
  simp only [vtC] at h
  simp -implicitDefEqProofs -dsimp only [go_sem, seval, vtC, ↓g_call _ _ c_letter_rightVote]
  refine CallK.pure h (aft_nil ?_)
  simp -implicitDefEqProofs -dsimp only [go_sem, seval]
  exact finL_pure rfl
theorem pc_cfNo (c : Cf) (h : CfL c) : PCalls prog f_letter_Letter_lists_2 [.agg (cfC c)] (.b (cfNo c)) := by
  refine pcalls_of mixed t_letter_Letter_lists_2 (by simp) fun T => ?_
  unfold s_letter_Letter_lists_2
  have h := pc_conf_Right c none none h.1
  simp only [Cf.cells] at h
  simp -implicitDefEqProofs -dsimp only [go_sem, seval, cfC, Cf.cells, ↓g_call _ _ c_conf_Right]
  refine CallK.pure h (aft_nil ?_)
  simp -implicitDefEqProofs -dsimp only [go_sem, seval]
  exact finL_pure rfl
theorem pc_enNo (e : En) (h : EnF e) : PCalls prog f_letter_Letter_lists_3 [.agg (enC e)] (.b (enNo e)) := by
  refine pcalls_of mixed t_letter_Letter_lists_3 (by simp) fun T => ?_
  unfold s_letter_Letter_lists_3
  have h := pc_enRight e none none h
  simp only [En.cells] at h
  simp -implicitDefEqProofs -dsimp only [go_sem, seval, enC, En.cells, ↓g_call _ _ c_entry_Right]
  refine CallK.pure h (aft_nil ?_)
  simp -implicitDefEqProofs -dsimp only [go_sem, seval]
  exact finL_pure rfl
def VtT (v : Vt) : Prop := True

theorem lp_if_letter_Vote {R : RPost} (hR : ExtR R) {T : Tab} {xs : List Vt} {cap : Option Nat} (hl : Len xs.length) (hx : ∀ x ∈ xs, VtT x) : ∀ (us : List Vt) (k : Nat), xs.drop k = us → k ≤ xs.length →
    (us.any vtNo = true → ∀ j : Nat, R .ret [(4, .i .i64 j)] [] T) →
    (us.any vtNo = false → R (.exit 0) [(0, .fz xs.length (xs.flatMap vtC) cap), (1, .fn (.func f_letter_Letter_lists_1) [] []), (7, .i .i64 xs.length), (8, .i .i64 xs.length), (9, .b false)] [] T) →
    AW prog slices_IndexFunc_letter_Vote_letter_Vote_l0 R [(0, .fz xs.length (xs.flatMap vtC) cap), (1, .fn (.func f_letter_Letter_lists_1) [] []), (7, .i .i64 xs.length), (8, .i .i64 k)] [] T := by
  intro us
  induction us with
  | nil =>
    intro k hk hle h1 h2
    have hk' := drop_nil hk hle
    refine AW_loop hR ?_
    unfold slices_IndexFunc_letter_Vote_letter_Vote_l0b
    simp -implicitDefEqProofs -dsimp only [go_sem, seval, hk', Int.lt_irrefl]
    rw [hk'] at h2
    exact h2 rfl
  | cons x us ih =>
    intro k hk hle h1 h2
    obtain ⟨hlt, hx1, hk'⟩ := drop_lt hk
    have cl : ∀ c : Vt, (vtC c).length = 4 := fun _ => rfl
    have ea := flat_at cl hx1
    have e5 : k * 4 + 4 ≤ (xs.flatMap vtC).length := by rw [flat_length cl]; omega
    unfold Len at hl
    have hs : IntKind.i64.wrap ((k : Int) + 1) = ((k + 1 : Nat) : Int) := wrap_succ (by omega)
    have pc := pc_vtNo x (hx x (List.mem_of_getElem? hx1))
    simp only [vtC] at pc
    simp only [List.any_cons] at h1 h2
    refine AW_loopD (l := slices_IndexFunc_letter_Vote_letter_Vote_l0) rfl hR ?_
    unfold slices_IndexFunc_letter_Vote_letter_Vote_l0b
    simp -implicitDefEqProofs -dsimp only [go_sem, seval, Int.ofNat_lt, hlt, Int.natCast_nonneg, Int.toNat_natCast, ea, e5, vtC, List.cons_append, List.nil_append, calV_some _ _ _ _ _ _ c_letter_Letter_lists_1]
    refine CallK.pure pc (aft_nil ?_)
    rcases he : vtNo x with _ | _
    · rw [he, Bool.false_or] at h1 h2
      simp -implicitDefEqProofs -dsimp only [go_sem, seval, hs]
      exact ih (k + 1) hk' hlt h1 h2
    · simp -implicitDefEqProofs -dsimp only [go_sem, seval]
      exact h1 (by rw [he]; rfl) k
theorem pc_cf_letter_Vote (xs : List Vt) (cap : Option Nat) (hl : Len xs.length) (hx : ∀ x ∈ xs, VtT x) : PCalls prog f_slices_ContainsFunc_letter_Vote_letter_Vote [.fz xs.length (xs.flatMap vtC) cap, .fn (.func f_letter_Letter_lists_1) [] []] (.b (xs.any vtNo)) := by
  have cI : ∀ T, ACalls prog f_slices_IndexFunc_letter_Vote_letter_Vote [.fz xs.length (xs.flatMap vtC) cap, .fn (.func f_letter_Letter_lists_1) [] []] T (fun r T' => ∃ j : Int, r = .i .i64 j ∧ decide (0 ≤ j) = xs.any vtNo ∧ T' = T) := fun T => by
    refine acalls_of mixed t_slices_IndexFunc_letter_Vote_letter_Vote (by simp) ?_
    unfold s_slices_IndexFunc_letter_Vote_letter_Vote
    simp -implicitDefEqProofs -dsimp only [go_sem, seval]
    refine lp_if_letter_Vote (T := T) (by repeat' (first | exact finX_ext _ _ | assumption | apply blkR_ext | apply thenR_ext | apply AW_ext)) hl hx xs 0 rfl (Nat.zero_le _) (fun h j => ?_) (fun h => ?_)
    · simp -implicitDefEqProofs -dsimp only [go_sem, seval]
      exact finL_of _ (fun _ => .inr (.inl rfl)) ⟨(j : Int), rfl, by rw [h]; exact decide_eq_true (by omega), rfl⟩
    · simp -implicitDefEqProofs -dsimp only [go_sem, seval]
      exact finL_of _ (fun _ => .inr (.inl rfl)) ⟨-1, rfl, by rw [h]; rfl, rfl⟩
  refine pcalls_of mixed t_slices_ContainsFunc_letter_Vote_letter_Vote (by simp) fun T => ?_
  unfold s_slices_ContainsFunc_letter_Vote_letter_Vote
  simp -implicitDefEqProofs -dsimp only [go_sem, seval, ↓g_call _ _ c_slices_IndexFunc_letter_Vote_letter_Vote]
  refine CallK.of (cI T) (fun r T1 ⟨j, e1, e2, e3⟩ => aft_nil ?_)
  subst e1; subst e3
  simp -implicitDefEqProofs -dsimp only [go_sem, seval, e2]
  exact finL_pure rfl

theorem lp_if_conf_Conf {R : RPost} (hR : ExtR R) {T : Tab} {xs : List Cf} {cap : Option Nat} (hl : Len xs.length) (hx : ∀ x ∈ xs, CfL x) : ∀ (us : List Cf) (k : Nat), xs.drop k = us → k ≤ xs.length →
    (us.any cfNo = true → ∀ j : Nat, R .ret [(4, .i .i64 j)] [] T) →
    (us.any cfNo = false → R (.exit 0) [(0, .fz xs.length (xs.flatMap cfC) cap), (1, .fn (.func f_letter_Letter_lists_2) [] []), (7, .i .i64 xs.length), (8, .i .i64 xs.length), (9, .b false)] [] T) →
    AW prog slices_IndexFunc_conf_Conf_conf_Conf_l0 R [(0, .fz xs.length (xs.flatMap cfC) cap), (1, .fn (.func f_letter_Letter_lists_2) [] []), (7, .i .i64 xs.length), (8, .i .i64 k)] [] T := by
  intro us
  induction us with
  | nil =>
    intro k hk hle h1 h2
    have hk' := drop_nil hk hle
    refine AW_loop hR ?_
    unfold slices_IndexFunc_conf_Conf_conf_Conf_l0b
    simp -implicitDefEqProofs -dsimp only [go_sem, seval, hk', Int.lt_irrefl]
    rw [hk'] at h2
    exact h2 rfl
  | cons x us ih =>
    intro k hk hle h1 h2
    obtain ⟨hlt, hx1, hk'⟩ := drop_lt hk
    have cl : ∀ c : Cf, (cfC c).length = 5 := fun _ => rfl
    have ea := flat_at cl hx1
    have e5 : k * 5 + 5 ≤ (xs.flatMap cfC).length := by rw [flat_length cl]; omega
    unfold Len at hl
    have hs : IntKind.i64.wrap ((k : Int) + 1) = ((k + 1 : Nat) : Int) := wrap_succ (by omega)
    have pc := pc_cfNo x (hx x (List.mem_of_getElem? hx1))
    simp only [cfC, Cf.cells] at pc
    simp only [List.any_cons] at h1 h2
    refine AW_loopD (l := slices_IndexFunc_conf_Conf_conf_Conf_l0) rfl hR ?_
    unfold slices_IndexFunc_conf_Conf_conf_Conf_l0b
    simp -implicitDefEqProofs -dsimp only [go_sem, seval, Int.ofNat_lt, hlt, Int.natCast_nonneg, Int.toNat_natCast, ea, e5, cfC, Cf.cells, List.cons_append, List.nil_append, calV_some _ _ _ _ _ _ c_letter_Letter_lists_2]
    refine CallK.pure pc (aft_nil ?_)
    rcases he : cfNo x with _ | _
    · rw [he, Bool.false_or] at h1 h2
      simp -implicitDefEqProofs -dsimp only [go_sem, seval, hs]
      exact ih (k + 1) hk' hlt h1 h2
    · simp -implicitDefEqProofs -dsimp only [go_sem, seval]
      exact h1 (by rw [he]; rfl) k
theorem pc_cf_conf_Conf (xs : List Cf) (cap : Option Nat) (hl : Len xs.length) (hx : ∀ x ∈ xs, CfL x) : PCalls prog f_slices_ContainsFunc_conf_Conf_conf_Conf [.fz xs.length (xs.flatMap cfC) cap, .fn (.func f_letter_Letter_lists_2) [] []] (.b (xs.any cfNo)) := by
  have cI : ∀ T, ACalls prog f_slices_IndexFunc_conf_Conf_conf_Conf [.fz xs.length (xs.flatMap cfC) cap, .fn (.func f_letter_Letter_lists_2) [] []] T (fun r T' => ∃ j : Int, r = .i .i64 j ∧ decide (0 ≤ j) = xs.any cfNo ∧ T' = T) := fun T => by
    refine acalls_of mixed t_slices_IndexFunc_conf_Conf_conf_Conf (by simp) ?_
    unfold s_slices_IndexFunc_conf_Conf_conf_Conf
    simp -implicitDefEqProofs -dsimp only [go_sem, seval]
    refine lp_if_conf_Conf (T := T) (by repeat' (first | exact finX_ext _ _ | assumption | apply blkR_ext | apply thenR_ext | apply AW_ext)) hl hx xs 0 rfl (Nat.zero_le _) (fun h j => ?_) (fun h => ?_)
    · simp -implicitDefEqProofs -dsimp only [go_sem, seval]
      exact finL_of _ (fun _ => .inr (.inl rfl)) ⟨(j : Int), rfl, by rw [h]; exact decide_eq_true (by omega), rfl⟩
    · simp -implicitDefEqProofs -dsimp only [go_sem, seval]
      exact finL_of _ (fun _ => .inr (.inl rfl)) ⟨-1, rfl, by rw [h]; rfl, rfl⟩
  refine pcalls_of mixed t_slices_ContainsFunc_conf_Conf_conf_Conf (by simp) fun T => ?_
  unfold s_slices_ContainsFunc_conf_Conf_conf_Conf
  simp -implicitDefEqProofs -dsimp only [go_sem, seval, ↓g_call _ _ c_slices_IndexFunc_conf_Conf_conf_Conf]
  refine CallK.of (cI T) (fun r T1 ⟨j, e1, e2, e3⟩ => aft_nil ?_)
  subst e1; subst e3
  simp -implicitDefEqProofs -dsimp only [go_sem, seval, e2]
  exact finL_pure rfl

theorem lp_if_entry_Entry {R : RPost} (hR : ExtR R) {T : Tab} {xs : List En} {cap : Option Nat} (hl : Len xs.length) (hx : ∀ x ∈ xs, EnF x) : ∀ (us : List En) (k : Nat), xs.drop k = us → k ≤ xs.length →
    (us.any enNo = true → ∀ j : Nat, R .ret [(4, .i .i64 j)] [] T) →
    (us.any enNo = false → R (.exit 0) [(0, .fz xs.length (xs.flatMap enC) cap), (1, .fn (.func f_letter_Letter_lists_3) [] []), (7, .i .i64 xs.length), (8, .i .i64 xs.length), (9, .b false)] [] T) →
    AW prog slices_IndexFunc_entry_Entry_entry_Entry_l0 R [(0, .fz xs.length (xs.flatMap enC) cap), (1, .fn (.func f_letter_Letter_lists_3) [] []), (7, .i .i64 xs.length), (8, .i .i64 k)] [] T := by
  intro us
  induction us with
  | nil =>
    intro k hk hle h1 h2
    have hk' := drop_nil hk hle
    refine AW_loop hR ?_
    unfold slices_IndexFunc_entry_Entry_entry_Entry_l0b
    simp -implicitDefEqProofs -dsimp only [go_sem, seval, hk', Int.lt_irrefl]
    rw [hk'] at h2
    exact h2 rfl
  | cons x us ih =>
    intro k hk hle h1 h2
    obtain ⟨hlt, hx1, hk'⟩ := drop_lt hk
    have cl : ∀ c : En, (enC c).length = 10 := fun _ => rfl
    have ea := flat_at cl hx1
    have e5 : k * 10 + 10 ≤ (xs.flatMap enC).length := by rw [flat_length cl]; omega
    unfold Len at hl
    have hs : IntKind.i64.wrap ((k : Int) + 1) = ((k + 1 : Nat) : Int) := wrap_succ (by omega)
    have pc := pc_enNo x (hx x (List.mem_of_getElem? hx1))
    simp only [enC, En.cells] at pc
    simp only [List.any_cons] at h1 h2
    refine AW_loopD (l := slices_IndexFunc_entry_Entry_entry_Entry_l0) rfl hR ?_
    unfold slices_IndexFunc_entry_Entry_entry_Entry_l0b
    simp -implicitDefEqProofs -dsimp only [go_sem, seval, Int.ofNat_lt, hlt, Int.natCast_nonneg, Int.toNat_natCast, ea, e5, enC, En.cells, List.cons_append, List.nil_append, calV_some _ _ _ _ _ _ c_letter_Letter_lists_3]
    refine CallK.pure pc (aft_nil ?_)
    rcases he : enNo x with _ | _
    · rw [he, Bool.false_or] at h1 h2
      simp -implicitDefEqProofs -dsimp only [go_sem, seval, hs]
      exact ih (k + 1) hk' hlt h1 h2
    · simp -implicitDefEqProofs -dsimp only [go_sem, seval]
      exact h1 (by rw [he]; rfl) k
theorem pc_cf_entry_Entry (xs : List En) (cap : Option Nat) (hl : Len xs.length) (hx : ∀ x ∈ xs, EnF x) : PCalls prog f_slices_ContainsFunc_entry_Entry_entry_Entry [.fz xs.length (xs.flatMap enC) cap, .fn (.func f_letter_Letter_lists_3) [] []] (.b (xs.any enNo)) := by
  have cI : ∀ T, ACalls prog f_slices_IndexFunc_entry_Entry_entry_Entry [.fz xs.length (xs.flatMap enC) cap, .fn (.func f_letter_Letter_lists_3) [] []] T (fun r T' => ∃ j : Int, r = .i .i64 j ∧ decide (0 ≤ j) = xs.any enNo ∧ T' = T) := fun T => by
    refine acalls_of mixed t_slices_IndexFunc_entry_Entry_entry_Entry (by simp) ?_
    unfold s_slices_IndexFunc_entry_Entry_entry_Entry
    simp -implicitDefEqProofs -dsimp only [go_sem, seval]
    refine lp_if_entry_Entry (T := T) (by repeat' (first | exact finX_ext _ _ | assumption | apply blkR_ext | apply thenR_ext | apply AW_ext)) hl hx xs 0 rfl (Nat.zero_le _) (fun h j => ?_) (fun h => ?_)
    · simp -implicitDefEqProofs -dsimp only [go_sem, seval]
      exact finL_of _ (fun _ => .inr (.inl rfl)) ⟨(j : Int), rfl, by rw [h]; exact decide_eq_true (by omega), rfl⟩
    · simp -implicitDefEqProofs -dsimp only [go_sem, seval]
      exact finL_of _ (fun _ => .inr (.inl rfl)) ⟨-1, rfl, by rw [h]; rfl, rfl⟩
  refine pcalls_of mixed t_slices_ContainsFunc_entry_Entry_entry_Entry (by simp) fun T => ?_
  unfold s_slices_ContainsFunc_entry_Entry_entry_Entry
  simp -implicitDefEqProofs -dsimp only [go_sem, seval, ↓g_call _ _ c_slices_IndexFunc_entry_Entry_entry_Entry]
  refine CallK.of (cI T) (fun r T1 ⟨j, e1, e2, e3⟩ => aft_nil ?_)
  subst e1; subst e3
  simp -implicitDefEqProofs -dsimp only [go_sem, seval, e2]
  exact finL_pure rfl
def vtsOk (l : List Vt) : Bool := decide ((l.length : Int) ≤ 400) && !(l.any vtNo)
def cfsOk (l : List Cf) : Bool := decide ((l.length : Int) ≤ 4) && !(l.any cfNo)
def ensOk (l : List En) : Bool := decide ((l.length : Int) ≤ 8) && !(l.any enNo)
def liF (l : Lt Cf) (s : Int) : Bool := if decide (s = 118) = true then vtsOk l.vs else if decide (s = 99) = true then cfsOk l.cs else if decide (s = 108) = true then ensOk l.es else true
theorem pc_lists (l : Lt Cf) (s : Int) (h : l.Small) : PCalls prog f_letter_Letter_lists [.agg l.cc, .i .u8 s] (.b (liF l s)) := by
  refine pcalls_of mixed t_letter_Letter_lists (by simp) fun T => ?_
  unfold s_letter_Letter_lists
  simp -implicitDefEqProofs -dsimp only [go_sem, seval, Lt.cells]
  (first | ((first | (apply br_split <;> intro h_1) | (refine CallK.pure (pc_cf_letter_Vote _ _ h.vs (fun _ _ => trivial)) (aft_nil ?_); have h_1 := trivial) | (refine CallK.pure (pc_cf_conf_Conf _ _ h.cs h.c) (aft_nil ?_); have h_1 := trivial) | (refine CallK.pure (pc_cf_entry_Entry _ _ h.es h.e) (aft_nil ?_); have h_1 := trivial)) <;> simp -implicitDefEqProofs -dsimp only [go_sem, seval, ↓g_call _ _ c_slices_ContainsFunc_letter_Vote_letter_Vote, ↓g_call _ _ c_slices_ContainsFunc_conf_Conf_conf_Conf, ↓g_call _ _ c_slices_ContainsFunc_entry_Entry_entry_Entry, h_1]) | (have h_1 := trivial)) <;>
    (first | ((first | (apply br_split <;> intro h_2) | (refine CallK.pure (pc_cf_letter_Vote _ _ h.vs (fun _ _ => trivial)) (aft_nil ?_); have h_2 := trivial) | (refine CallK.pure (pc_cf_conf_Conf _ _ h.cs h.c) (aft_nil ?_); have h_2 := trivial) | (refine CallK.pure (pc_cf_entry_Entry _ _ h.es h.e) (aft_nil ?_); have h_2 := trivial)) <;> simp -implicitDefEqProofs -dsimp only [go_sem, seval, ↓g_call _ _ c_slices_ContainsFunc_letter_Vote_letter_Vote, ↓g_call _ _ c_slices_ContainsFunc_conf_Conf_conf_Conf, ↓g_call _ _ c_slices_ContainsFunc_entry_Entry_entry_Entry, h_1, h_2]) | (have h_2 := trivial)) <;>
    (first | ((first | (apply br_split <;> intro h_3) | (refine CallK.pure (pc_cf_letter_Vote _ _ h.vs (fun _ _ => trivial)) (aft_nil ?_); have h_3 := trivial) | (refine CallK.pure (pc_cf_conf_Conf _ _ h.cs h.c) (aft_nil ?_); have h_3 := trivial) | (refine CallK.pure (pc_cf_entry_Entry _ _ h.es h.e) (aft_nil ?_); have h_3 := trivial)) <;> simp -implicitDefEqProofs -dsimp only [go_sem, seval, ↓g_call _ _ c_slices_ContainsFunc_letter_Vote_letter_Vote, ↓g_call _ _ c_slices_ContainsFunc_conf_Conf_conf_Conf, ↓g_call _ _ c_slices_ContainsFunc_entry_Entry_entry_Entry, h_1, h_2, h_3]) | (have h_3 := trivial)) <;>
    (first | ((first | (apply br_split <;> intro h_4) | (refine CallK.pure (pc_cf_letter_Vote _ _ h.vs (fun _ _ => trivial)) (aft_nil ?_); have h_4 := trivial) | (refine CallK.pure (pc_cf_conf_Conf _ _ h.cs h.c) (aft_nil ?_); have h_4 := trivial) | (refine CallK.pure (pc_cf_entry_Entry _ _ h.es h.e) (aft_nil ?_); have h_4 := trivial)) <;> simp -implicitDefEqProofs -dsimp only [go_sem, seval, ↓g_call _ _ c_slices_ContainsFunc_letter_Vote_letter_Vote, ↓g_call _ _ c_slices_ContainsFunc_conf_Conf_conf_Conf, ↓g_call _ _ c_slices_ContainsFunc_entry_Entry_entry_Entry, h_1, h_2, h_3, h_4]) | (have h_4 := trivial)) <;>
    (first | ((first | (apply br_split <;> intro h_5) | (refine CallK.pure (pc_cf_letter_Vote _ _ h.vs (fun _ _ => trivial)) (aft_nil ?_); have h_5 := trivial) | (refine CallK.pure (pc_cf_conf_Conf _ _ h.cs h.c) (aft_nil ?_); have h_5 := trivial) | (refine CallK.pure (pc_cf_entry_Entry _ _ h.es h.e) (aft_nil ?_); have h_5 := trivial)) <;> simp -implicitDefEqProofs -dsimp only [go_sem, seval, ↓g_call _ _ c_slices_ContainsFunc_letter_Vote_letter_Vote, ↓g_call _ _ c_slices_ContainsFunc_conf_Conf_conf_Conf, ↓g_call _ _ c_slices_ContainsFunc_entry_Entry_entry_Entry, h_1, h_2, h_3, h_4, h_5]) | (have h_5 := trivial)) <;>
    (first | ((first | (apply br_split <;> intro h_6) | (refine CallK.pure (pc_cf_letter_Vote _ _ h.vs (fun _ _ => trivial)) (aft_nil ?_); have h_6 := trivial) | (refine CallK.pure (pc_cf_conf_Conf _ _ h.cs h.c) (aft_nil ?_); have h_6 := trivial) | (refine CallK.pure (pc_cf_entry_Entry _ _ h.es h.e) (aft_nil ?_); have h_6 := trivial)) <;> simp -implicitDefEqProofs -dsimp only [go_sem, seval, ↓g_call _ _ c_slices_ContainsFunc_letter_Vote_letter_Vote, ↓g_call _ _ c_slices_ContainsFunc_conf_Conf_conf_Conf, ↓g_call _ _ c_slices_ContainsFunc_entry_Entry_entry_Entry, h_1, h_2, h_3, h_4, h_5, h_6]) | (have h_6 := trivial)) <;>
    (first | ((first | (apply br_split <;> intro h_7) | (refine CallK.pure (pc_cf_letter_Vote _ _ h.vs (fun _ _ => trivial)) (aft_nil ?_); have h_7 := trivial) | (refine CallK.pure (pc_cf_conf_Conf _ _ h.cs h.c) (aft_nil ?_); have h_7 := trivial) | (refine CallK.pure (pc_cf_entry_Entry _ _ h.es h.e) (aft_nil ?_); have h_7 := trivial)) <;> simp -implicitDefEqProofs -dsimp only [go_sem, seval, ↓g_call _ _ c_slices_ContainsFunc_letter_Vote_letter_Vote, ↓g_call _ _ c_slices_ContainsFunc_conf_Conf_conf_Conf, ↓g_call _ _ c_slices_ContainsFunc_entry_Entry_entry_Entry, h_1, h_2, h_3, h_4, h_5, h_6, h_7]) | (have h_7 := trivial)) <;>
    (first | ((first | (apply br_split <;> intro h_8) | (refine CallK.pure (pc_cf_letter_Vote _ _ h.vs (fun _ _ => trivial)) (aft_nil ?_); have h_8 := trivial) | (refine CallK.pure (pc_cf_conf_Conf _ _ h.cs h.c) (aft_nil ?_); have h_8 := trivial) | (refine CallK.pure (pc_cf_entry_Entry _ _ h.es h.e) (aft_nil ?_); have h_8 := trivial)) <;> simp -implicitDefEqProofs -dsimp only [go_sem, seval, ↓g_call _ _ c_slices_ContainsFunc_letter_Vote_letter_Vote, ↓g_call _ _ c_slices_ContainsFunc_conf_Conf_conf_Conf, ↓g_call _ _ c_slices_ContainsFunc_entry_Entry_entry_Entry, h_1, h_2, h_3, h_4, h_5, h_6, h_7, h_8]) | (have h_8 := trivial))
  all_goals (refine finL_pure ?_; simp only [liF, vtsOk, cfsOk, ensOk, *, if_true, Bool.false_eq_true, if_false, Bool.true_and, Bool.and_true, Bool.false_and, Bool.and_false])
def maF (l : Lt Cf) (s : Int) : Bool :=
  if decide (s = 115) = true then decide (0 ≤ l.sh) && decide (l.sh < 4) else if decide (s = 110) = true then shOk l.n else if decide (s = 109) = true then shOk l.m else if decide (s = 111) = true then decide (0 ≤ l.nd) && decide (l.nd < 8) else
  if decide (s = 98) = true then baOk l.bn else if decide (s = 120) = true then txOk l.t else if decide (s = 105) = true then idOk l.cl l.sq else if decide (s = 116) = true then decide ((l.v.length : Int) ≤ 64) else
  if decide (s = 114) = true then decide (0 ≤ l.co) && decide (l.co ≤ 99) else liF l s
theorem pc_may (l : Lt Cf) (s : Int) (h : l.Small) (ht : l.t.Fine) : PCalls prog f_letter_Letter_may [.agg l.cc, .i .u8 s] (.b (maF l s)) := by
  refine pcalls_of mixed t_letter_Letter_may (by simp) fun T => ?_
  have hl := pc_lists l s h
  have hx := pc_RightTxn l.t none none ht
  simp only [Tx.cells, Lt.cells] at hl hx
  unfold s_letter_Letter_may
  simp -implicitDefEqProofs -dsimp only [go_sem, seval, Lt.cells]
  (first | ((first | (apply br_split <;> intro h_1) | (refine CallK.pure (pc_short _) (aft_nil ?_); have h_1 := trivial) | (refine CallK.pure (pc_rightBallot _ _) (aft_nil ?_); have h_1 := trivial) | (refine CallK.pure (hx) (aft_nil ?_); have h_1 := trivial) | (refine CallK.pure (pc_RightID _ _) (aft_nil ?_); have h_1 := trivial) | (refine CallK.pure (hl) (aft_nil ?_); have h_1 := trivial)) <;> simp -implicitDefEqProofs -dsimp only [go_sem, seval, ↓g_call _ _ c_letter_short, ↓g_call _ _ c_letter_rightBallot, ↓g_call _ _ c_entry_RightTxn, ↓g_call _ _ c_entry_RightID, ↓g_call _ _ c_letter_Letter_lists, h_1]) | (have h_1 := trivial)) <;>
    (first | ((first | (apply br_split <;> intro h_2) | (refine CallK.pure (pc_short _) (aft_nil ?_); have h_2 := trivial) | (refine CallK.pure (pc_rightBallot _ _) (aft_nil ?_); have h_2 := trivial) | (refine CallK.pure (hx) (aft_nil ?_); have h_2 := trivial) | (refine CallK.pure (pc_RightID _ _) (aft_nil ?_); have h_2 := trivial) | (refine CallK.pure (hl) (aft_nil ?_); have h_2 := trivial)) <;> simp -implicitDefEqProofs -dsimp only [go_sem, seval, ↓g_call _ _ c_letter_short, ↓g_call _ _ c_letter_rightBallot, ↓g_call _ _ c_entry_RightTxn, ↓g_call _ _ c_entry_RightID, ↓g_call _ _ c_letter_Letter_lists, h_1, h_2]) | (have h_2 := trivial)) <;>
    (first | ((first | (apply br_split <;> intro h_3) | (refine CallK.pure (pc_short _) (aft_nil ?_); have h_3 := trivial) | (refine CallK.pure (pc_rightBallot _ _) (aft_nil ?_); have h_3 := trivial) | (refine CallK.pure (hx) (aft_nil ?_); have h_3 := trivial) | (refine CallK.pure (pc_RightID _ _) (aft_nil ?_); have h_3 := trivial) | (refine CallK.pure (hl) (aft_nil ?_); have h_3 := trivial)) <;> simp -implicitDefEqProofs -dsimp only [go_sem, seval, ↓g_call _ _ c_letter_short, ↓g_call _ _ c_letter_rightBallot, ↓g_call _ _ c_entry_RightTxn, ↓g_call _ _ c_entry_RightID, ↓g_call _ _ c_letter_Letter_lists, h_1, h_2, h_3]) | (have h_3 := trivial)) <;>
    (first | ((first | (apply br_split <;> intro h_4) | (refine CallK.pure (pc_short _) (aft_nil ?_); have h_4 := trivial) | (refine CallK.pure (pc_rightBallot _ _) (aft_nil ?_); have h_4 := trivial) | (refine CallK.pure (hx) (aft_nil ?_); have h_4 := trivial) | (refine CallK.pure (pc_RightID _ _) (aft_nil ?_); have h_4 := trivial) | (refine CallK.pure (hl) (aft_nil ?_); have h_4 := trivial)) <;> simp -implicitDefEqProofs -dsimp only [go_sem, seval, ↓g_call _ _ c_letter_short, ↓g_call _ _ c_letter_rightBallot, ↓g_call _ _ c_entry_RightTxn, ↓g_call _ _ c_entry_RightID, ↓g_call _ _ c_letter_Letter_lists, h_1, h_2, h_3, h_4]) | (have h_4 := trivial)) <;>
    (first | ((first | (apply br_split <;> intro h_5) | (refine CallK.pure (pc_short _) (aft_nil ?_); have h_5 := trivial) | (refine CallK.pure (pc_rightBallot _ _) (aft_nil ?_); have h_5 := trivial) | (refine CallK.pure (hx) (aft_nil ?_); have h_5 := trivial) | (refine CallK.pure (pc_RightID _ _) (aft_nil ?_); have h_5 := trivial) | (refine CallK.pure (hl) (aft_nil ?_); have h_5 := trivial)) <;> simp -implicitDefEqProofs -dsimp only [go_sem, seval, ↓g_call _ _ c_letter_short, ↓g_call _ _ c_letter_rightBallot, ↓g_call _ _ c_entry_RightTxn, ↓g_call _ _ c_entry_RightID, ↓g_call _ _ c_letter_Letter_lists, h_1, h_2, h_3, h_4, h_5]) | (have h_5 := trivial)) <;>
    (first | ((first | (apply br_split <;> intro h_6) | (refine CallK.pure (pc_short _) (aft_nil ?_); have h_6 := trivial) | (refine CallK.pure (pc_rightBallot _ _) (aft_nil ?_); have h_6 := trivial) | (refine CallK.pure (hx) (aft_nil ?_); have h_6 := trivial) | (refine CallK.pure (pc_RightID _ _) (aft_nil ?_); have h_6 := trivial) | (refine CallK.pure (hl) (aft_nil ?_); have h_6 := trivial)) <;> simp -implicitDefEqProofs -dsimp only [go_sem, seval, ↓g_call _ _ c_letter_short, ↓g_call _ _ c_letter_rightBallot, ↓g_call _ _ c_entry_RightTxn, ↓g_call _ _ c_entry_RightID, ↓g_call _ _ c_letter_Letter_lists, h_1, h_2, h_3, h_4, h_5, h_6]) | (have h_6 := trivial)) <;>
    (first | ((first | (apply br_split <;> intro h_7) | (refine CallK.pure (pc_short _) (aft_nil ?_); have h_7 := trivial) | (refine CallK.pure (pc_rightBallot _ _) (aft_nil ?_); have h_7 := trivial) | (refine CallK.pure (hx) (aft_nil ?_); have h_7 := trivial) | (refine CallK.pure (pc_RightID _ _) (aft_nil ?_); have h_7 := trivial) | (refine CallK.pure (hl) (aft_nil ?_); have h_7 := trivial)) <;> simp -implicitDefEqProofs -dsimp only [go_sem, seval, ↓g_call _ _ c_letter_short, ↓g_call _ _ c_letter_rightBallot, ↓g_call _ _ c_entry_RightTxn, ↓g_call _ _ c_entry_RightID, ↓g_call _ _ c_letter_Letter_lists, h_1, h_2, h_3, h_4, h_5, h_6, h_7]) | (have h_7 := trivial)) <;>
    (first | ((first | (apply br_split <;> intro h_8) | (refine CallK.pure (pc_short _) (aft_nil ?_); have h_8 := trivial) | (refine CallK.pure (pc_rightBallot _ _) (aft_nil ?_); have h_8 := trivial) | (refine CallK.pure (hx) (aft_nil ?_); have h_8 := trivial) | (refine CallK.pure (pc_RightID _ _) (aft_nil ?_); have h_8 := trivial) | (refine CallK.pure (hl) (aft_nil ?_); have h_8 := trivial)) <;> simp -implicitDefEqProofs -dsimp only [go_sem, seval, ↓g_call _ _ c_letter_short, ↓g_call _ _ c_letter_rightBallot, ↓g_call _ _ c_entry_RightTxn, ↓g_call _ _ c_entry_RightID, ↓g_call _ _ c_letter_Letter_lists, h_1, h_2, h_3, h_4, h_5, h_6, h_7, h_8]) | (have h_8 := trivial)) <;>
    (first | ((first | (apply br_split <;> intro h_9) | (refine CallK.pure (pc_short _) (aft_nil ?_); have h_9 := trivial) | (refine CallK.pure (pc_rightBallot _ _) (aft_nil ?_); have h_9 := trivial) | (refine CallK.pure (hx) (aft_nil ?_); have h_9 := trivial) | (refine CallK.pure (pc_RightID _ _) (aft_nil ?_); have h_9 := trivial) | (refine CallK.pure (hl) (aft_nil ?_); have h_9 := trivial)) <;> simp -implicitDefEqProofs -dsimp only [go_sem, seval, ↓g_call _ _ c_letter_short, ↓g_call _ _ c_letter_rightBallot, ↓g_call _ _ c_entry_RightTxn, ↓g_call _ _ c_entry_RightID, ↓g_call _ _ c_letter_Letter_lists, h_1, h_2, h_3, h_4, h_5, h_6, h_7, h_8, h_9]) | (have h_9 := trivial)) <;>
    (first | ((first | (apply br_split <;> intro h_10) | (refine CallK.pure (pc_short _) (aft_nil ?_); have h_10 := trivial) | (refine CallK.pure (pc_rightBallot _ _) (aft_nil ?_); have h_10 := trivial) | (refine CallK.pure (hx) (aft_nil ?_); have h_10 := trivial) | (refine CallK.pure (pc_RightID _ _) (aft_nil ?_); have h_10 := trivial) | (refine CallK.pure (hl) (aft_nil ?_); have h_10 := trivial)) <;> simp -implicitDefEqProofs -dsimp only [go_sem, seval, ↓g_call _ _ c_letter_short, ↓g_call _ _ c_letter_rightBallot, ↓g_call _ _ c_entry_RightTxn, ↓g_call _ _ c_entry_RightID, ↓g_call _ _ c_letter_Letter_lists, h_1, h_2, h_3, h_4, h_5, h_6, h_7, h_8, h_9, h_10]) | (have h_10 := trivial)) <;>
    (first | ((first | (apply br_split <;> intro h_11) | (refine CallK.pure (pc_short _) (aft_nil ?_); have h_11 := trivial) | (refine CallK.pure (pc_rightBallot _ _) (aft_nil ?_); have h_11 := trivial) | (refine CallK.pure (hx) (aft_nil ?_); have h_11 := trivial) | (refine CallK.pure (pc_RightID _ _) (aft_nil ?_); have h_11 := trivial) | (refine CallK.pure (hl) (aft_nil ?_); have h_11 := trivial)) <;> simp -implicitDefEqProofs -dsimp only [go_sem, seval, ↓g_call _ _ c_letter_short, ↓g_call _ _ c_letter_rightBallot, ↓g_call _ _ c_entry_RightTxn, ↓g_call _ _ c_entry_RightID, ↓g_call _ _ c_letter_Letter_lists, h_1, h_2, h_3, h_4, h_5, h_6, h_7, h_8, h_9, h_10, h_11]) | (have h_11 := trivial)) <;>
    (first | ((first | (apply br_split <;> intro h_12) | (refine CallK.pure (pc_short _) (aft_nil ?_); have h_12 := trivial) | (refine CallK.pure (pc_rightBallot _ _) (aft_nil ?_); have h_12 := trivial) | (refine CallK.pure (hx) (aft_nil ?_); have h_12 := trivial) | (refine CallK.pure (pc_RightID _ _) (aft_nil ?_); have h_12 := trivial) | (refine CallK.pure (hl) (aft_nil ?_); have h_12 := trivial)) <;> simp -implicitDefEqProofs -dsimp only [go_sem, seval, ↓g_call _ _ c_letter_short, ↓g_call _ _ c_letter_rightBallot, ↓g_call _ _ c_entry_RightTxn, ↓g_call _ _ c_entry_RightID, ↓g_call _ _ c_letter_Letter_lists, h_1, h_2, h_3, h_4, h_5, h_6, h_7, h_8, h_9, h_10, h_11, h_12]) | (have h_12 := trivial))
  all_goals (refine finL_pure ?_; simp only [maF, *, if_true, Bool.false_eq_true, if_false, Bool.true_and, Bool.and_true, Bool.false_and, Bool.and_false])
end Go.Aw

