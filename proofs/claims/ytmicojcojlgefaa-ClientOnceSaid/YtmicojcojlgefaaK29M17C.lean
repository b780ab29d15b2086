import Derived.Test.YtmicojcojlgefaaK29M17B
namespace Go.Aw
open Go
open Go.Proofs.Try (prog)
set_option linter.all false
set_option maxHeartbeats 4000000

/-! Slices that are the same. -/
def eqL {α : Type} (e : α → α → Bool) : List α → List α → Bool
  | [], [] => true
  | x :: xs, y :: ys => e x y && eqL e xs ys
  | _, _ => false
theorem eqL_ne {α : Type} (e : α → α → Bool) : ∀ {xs ys : List α}, xs.length ≠ ys.length → eqL e xs ys = false
  | [], [], h => (h rfl).elim
  | [], _ :: _, _ => rfl
  | _ :: _, [], _ => rfl
  | x :: xs, y :: ys, h => by
    simp only [eqL]
    rw [eqL_ne e (fun k => h (by simp [k])), Bool.and_false]
def vtE (x y : Vt) : Bool := decide (x.sl = y.sl) && decide (x.rd = y.rd) && decide (x.nd = y.nd) && decide (x.v = y.v)
def rdE (x y : Rd) : Bool := decide (x.k = y.k) && decide (x.n = y.n)
def wtE (x y : Wt) : Bool := decide (x.k = y.k) && decide (x.v = y.v) && decide (x.g = y.g)
def intE (x y : Int) : Bool := decide (x = y)
def boolE (x y : Bool) : Bool := decide (x = y)
def intC (x : Int) : List AV := [.i .i64 x]
def boolC (x : Bool) : List AV := [.b x]

theorem lp_eq_letter_Vote {R : RPost} (hR : ExtR R) {T : Tab} {xs ys : List Vt} {c1 c2 : Option Nat} (hl : Len xs.length) (hlen : xs.length = ys.length) : ∀ (us vs : List Vt) (k : Nat), xs.drop k = us → ys.drop k = vs → k ≤ xs.length →
    (eqL vtE us vs = false → R .ret [(4, .b false)] [] T) →
    (eqL vtE us vs = true → R (.exit 0) [(0, .fz xs.length (xs.flatMap vtC) c1), (1, .fz ys.length (ys.flatMap vtC) c2), (12, .i .i64 xs.length), (13, .i .i64 xs.length), (14, .b false)] [] T) →
    AW prog slices_Equal_letter_Vote_letter_Vote_l0 R [(0, .fz xs.length (xs.flatMap vtC) c1), (1, .fz ys.length (ys.flatMap vtC) c2), (12, .i .i64 xs.length), (13, .i .i64 k)] [] T := by
  intro us
  induction us with
  | nil =>
    intro vs k hk hv hle h1 h2
    have hk' := drop_nil hk hle
    have hvs : vs = [] := by rw [← hv]; exact List.drop_eq_nil_iff.2 (by omega)
    subst hvs
    refine AW_loop hR ?_
    unfold slices_Equal_letter_Vote_letter_Vote_l0b
    simp -implicitDefEqProofs -dsimp only [go_sem, seval, hk', Int.lt_irrefl]
    rw [hk'] at h2
    exact h2 rfl
  | cons x us ih =>
    intro vs k hk hv hle h1 h2
    obtain ⟨hlt, hx, hk'⟩ := drop_lt hk
    obtain ⟨y, vs, rfl⟩ : ∃ y w, vs = y :: w := by
      cases vs with
      | nil => have := List.drop_eq_nil_iff.1 hv; omega
      | cons y w => exact ⟨y, w, rfl⟩
    obtain ⟨hlt2, hy, hv'⟩ := drop_lt hv
    have cl : ∀ c : Vt, (vtC c).length = 4 := fun _ => rfl
    have ea := flat_at cl hx
    have eb := flat_at cl hy
    have e5 : k * 4 + 4 ≤ (xs.flatMap vtC).length := by rw [flat_length cl]; omega
    have e6 : k * 4 + 4 ≤ (ys.flatMap vtC).length := by rw [flat_length cl]; omega
    unfold Len at hl
    have hs : IntKind.i64.wrap ((k : Int) + 1) = ((k + 1 : Nat) : Int) := wrap_succ (by omega)
    simp only [eqL] at h1 h2
    refine AW_loopD (l := slices_Equal_letter_Vote_letter_Vote_l0) rfl hR ?_
    unfold slices_Equal_letter_Vote_letter_Vote_l0b
    simp -implicitDefEqProofs -dsimp only [go_sem, seval, Int.ofNat_lt, hlt, hlt2, Int.natCast_nonneg, Int.toNat_natCast, ea, eb, e5, e6, vtC, List.cons_append, List.nil_append, aggEq, scalarEq]
    refine br_split (fun h => ?_) (fun h => ?_)
    · have he : vtE x y = false := by simp [vtE] at h ⊢; grind
      simp -implicitDefEqProofs -dsimp only [go_sem, seval]
      exact h1 (by rw [he]; rfl)
    · have he : vtE x y = true := by simp [vtE] at h ⊢; grind
      rw [he, Bool.true_and] at h1 h2
      simp -implicitDefEqProofs -dsimp only [go_sem, seval, hs]
      exact ih vs (k + 1) hk' hv' hlt h1 h2
theorem pc_eq_letter_Vote (xs ys : List Vt) (c1 c2 : Option Nat) (hl : Len xs.length) : PCalls prog f_slices_Equal_letter_Vote_letter_Vote [.fz xs.length (xs.flatMap vtC) c1, .fz ys.length (ys.flatMap vtC) c2] (.b (eqL vtE xs ys)) := by
  refine pcalls_of mixed t_slices_Equal_letter_Vote_letter_Vote (by simp) fun T => ?_
  unfold s_slices_Equal_letter_Vote_letter_Vote
  simp -implicitDefEqProofs -dsimp only [go_sem, seval]
  refine br_split (fun h => ?_) (fun h => ?_)
  · have hne : xs.length ≠ ys.length := by simp at h; omega
    simp -implicitDefEqProofs -dsimp only [go_sem, seval]
    refine finL_pure ?_
    rw [eqL_ne _ hne]
  · have heq : xs.length = ys.length := by simp at h; omega
    simp -implicitDefEqProofs -dsimp only [go_sem, seval]
    refine lp_eq_letter_Vote (by repeat' (first | exact finX_ext _ _ | assumption | apply blkR_ext | apply thenR_ext | apply AW_ext)) hl heq xs ys 0 rfl rfl (Nat.zero_le _) (fun h => ?_) (fun h => ?_) <;> simp -implicitDefEqProofs -dsimp only [go_sem, seval] <;> refine finL_pure ?_ <;> rw [h]

theorem lp_eq_entry_Read {R : RPost} (hR : ExtR R) {T : Tab} {xs ys : List Rd} {c1 c2 : Option Nat} (hl : Len xs.length) (hlen : xs.length = ys.length) : ∀ (us vs : List Rd) (k : Nat), xs.drop k = us → ys.drop k = vs → k ≤ xs.length →
    (eqL rdE us vs = false → R .ret [(4, .b false)] [] T) →
    (eqL rdE us vs = true → R (.exit 0) [(0, .fz xs.length (xs.flatMap rdC) c1), (1, .fz ys.length (ys.flatMap rdC) c2), (12, .i .i64 xs.length), (13, .i .i64 xs.length), (14, .b false)] [] T) →
    AW prog slices_Equal_entry_Read_entry_Read_l0 R [(0, .fz xs.length (xs.flatMap rdC) c1), (1, .fz ys.length (ys.flatMap rdC) c2), (12, .i .i64 xs.length), (13, .i .i64 k)] [] T := by
  intro us
  induction us with
  | nil =>
    intro vs k hk hv hle h1 h2
    have hk' := drop_nil hk hle
    have hvs : vs = [] := by rw [← hv]; exact List.drop_eq_nil_iff.2 (by omega)
    subst hvs
    refine AW_loop hR ?_
    unfold slices_Equal_entry_Read_entry_Read_l0b
    simp -implicitDefEqProofs -dsimp only [go_sem, seval, hk', Int.lt_irrefl]
    rw [hk'] at h2
    exact h2 rfl
  | cons x us ih =>
    intro vs k hk hv hle h1 h2
    obtain ⟨hlt, hx, hk'⟩ := drop_lt hk
    obtain ⟨y, vs, rfl⟩ : ∃ y w, vs = y :: w := by
      cases vs with
      | nil => have := List.drop_eq_nil_iff.1 hv; omega
      | cons y w => exact ⟨y, w, rfl⟩
    obtain ⟨hlt2, hy, hv'⟩ := drop_lt hv
    have cl : ∀ c : Rd, (rdC c).length = 2 := fun _ => rfl
    have ea := flat_at cl hx
    have eb := flat_at cl hy
    have e5 : k * 2 + 2 ≤ (xs.flatMap rdC).length := by rw [flat_length cl]; omega
    have e6 : k * 2 + 2 ≤ (ys.flatMap rdC).length := by rw [flat_length cl]; omega
    unfold Len at hl
    have hs : IntKind.i64.wrap ((k : Int) + 1) = ((k + 1 : Nat) : Int) := wrap_succ (by omega)
    simp only [eqL] at h1 h2
    refine AW_loopD (l := slices_Equal_entry_Read_entry_Read_l0) rfl hR ?_
    unfold slices_Equal_entry_Read_entry_Read_l0b
    simp -implicitDefEqProofs -dsimp only [go_sem, seval, Int.ofNat_lt, hlt, hlt2, Int.natCast_nonneg, Int.toNat_natCast, ea, eb, e5, e6, rdC, List.cons_append, List.nil_append, aggEq, scalarEq]
    refine br_split (fun h => ?_) (fun h => ?_)
    · have he : rdE x y = false := by simp [rdE] at h ⊢; grind
      simp -implicitDefEqProofs -dsimp only [go_sem, seval]
      exact h1 (by rw [he]; rfl)
    · have he : rdE x y = true := by simp [rdE] at h ⊢; grind
      rw [he, Bool.true_and] at h1 h2
      simp -implicitDefEqProofs -dsimp only [go_sem, seval, hs]
      exact ih vs (k + 1) hk' hv' hlt h1 h2
theorem pc_eq_entry_Read (xs ys : List Rd) (c1 c2 : Option Nat) (hl : Len xs.length) : PCalls prog f_slices_Equal_entry_Read_entry_Read [.fz xs.length (xs.flatMap rdC) c1, .fz ys.length (ys.flatMap rdC) c2] (.b (eqL rdE xs ys)) := by
  refine pcalls_of mixed t_slices_Equal_entry_Read_entry_Read (by simp) fun T => ?_
  unfold s_slices_Equal_entry_Read_entry_Read
  simp -implicitDefEqProofs -dsimp only [go_sem, seval]
  refine br_split (fun h => ?_) (fun h => ?_)
  · have hne : xs.length ≠ ys.length := by simp at h; omega
    simp -implicitDefEqProofs -dsimp only [go_sem, seval]
    refine finL_pure ?_
    rw [eqL_ne _ hne]
  · have heq : xs.length = ys.length := by simp at h; omega
    simp -implicitDefEqProofs -dsimp only [go_sem, seval]
    refine lp_eq_entry_Read (by repeat' (first | exact finX_ext _ _ | assumption | apply blkR_ext | apply thenR_ext | apply AW_ext)) hl heq xs ys 0 rfl rfl (Nat.zero_le _) (fun h => ?_) (fun h => ?_) <;> simp -implicitDefEqProofs -dsimp only [go_sem, seval] <;> refine finL_pure ?_ <;> rw [h]

theorem lp_eq_entry_Write {R : RPost} (hR : ExtR R) {T : Tab} {xs ys : List Wt} {c1 c2 : Option Nat} (hl : Len xs.length) (hlen : xs.length = ys.length) : ∀ (us vs : List Wt) (k : Nat), xs.drop k = us → ys.drop k = vs → k ≤ xs.length →
    (eqL wtE us vs = false → R .ret [(4, .b false)] [] T) →
    (eqL wtE us vs = true → R (.exit 0) [(0, .fz xs.length (xs.flatMap wtC) c1), (1, .fz ys.length (ys.flatMap wtC) c2), (12, .i .i64 xs.length), (13, .i .i64 xs.length), (14, .b false)] [] T) →
    AW prog slices_Equal_entry_Write_entry_Write_l0 R [(0, .fz xs.length (xs.flatMap wtC) c1), (1, .fz ys.length (ys.flatMap wtC) c2), (12, .i .i64 xs.length), (13, .i .i64 k)] [] T := by
  intro us
  induction us with
  | nil =>
    intro vs k hk hv hle h1 h2
    have hk' := drop_nil hk hle
    have hvs : vs = [] := by rw [← hv]; exact List.drop_eq_nil_iff.2 (by omega)
    subst hvs
    refine AW_loop hR ?_
    unfold slices_Equal_entry_Write_entry_Write_l0b
    simp -implicitDefEqProofs -dsimp only [go_sem, seval, hk', Int.lt_irrefl]
    rw [hk'] at h2
    exact h2 rfl
  | cons x us ih =>
    intro vs k hk hv hle h1 h2
    obtain ⟨hlt, hx, hk'⟩ := drop_lt hk
    obtain ⟨y, vs, rfl⟩ : ∃ y w, vs = y :: w := by
      cases vs with
      | nil => have := List.drop_eq_nil_iff.1 hv; omega
      | cons y w => exact ⟨y, w, rfl⟩
    obtain ⟨hlt2, hy, hv'⟩ := drop_lt hv
    have cl : ∀ c : Wt, (wtC c).length = 3 := fun _ => rfl
    have ea := flat_at cl hx
    have eb := flat_at cl hy
    have e5 : k * 3 + 3 ≤ (xs.flatMap wtC).length := by rw [flat_length cl]; omega
    have e6 : k * 3 + 3 ≤ (ys.flatMap wtC).length := by rw [flat_length cl]; omega
    unfold Len at hl
    have hs : IntKind.i64.wrap ((k : Int) + 1) = ((k + 1 : Nat) : Int) := wrap_succ (by omega)
    simp only [eqL] at h1 h2
    refine AW_loopD (l := slices_Equal_entry_Write_entry_Write_l0) rfl hR ?_
    unfold slices_Equal_entry_Write_entry_Write_l0b
    simp -implicitDefEqProofs -dsimp only [go_sem, seval, Int.ofNat_lt, hlt, hlt2, Int.natCast_nonneg, Int.toNat_natCast, ea, eb, e5, e6, wtC, List.cons_append, List.nil_append, aggEq, scalarEq]
    refine br_split (fun h => ?_) (fun h => ?_)
    · have he : wtE x y = false := by simp [wtE] at h ⊢; grind
      simp -implicitDefEqProofs -dsimp only [go_sem, seval]
      exact h1 (by rw [he]; rfl)
    · have he : wtE x y = true := by simp [wtE] at h ⊢; grind
      rw [he, Bool.true_and] at h1 h2
      simp -implicitDefEqProofs -dsimp only [go_sem, seval, hs]
      exact ih vs (k + 1) hk' hv' hlt h1 h2
theorem pc_eq_entry_Write (xs ys : List Wt) (c1 c2 : Option Nat) (hl : Len xs.length) : PCalls prog f_slices_Equal_entry_Write_entry_Write [.fz xs.length (xs.flatMap wtC) c1, .fz ys.length (ys.flatMap wtC) c2] (.b (eqL wtE xs ys)) := by
  refine pcalls_of mixed t_slices_Equal_entry_Write_entry_Write (by simp) fun T => ?_
  unfold s_slices_Equal_entry_Write_entry_Write
  simp -implicitDefEqProofs -dsimp only [go_sem, seval]
  refine br_split (fun h => ?_) (fun h => ?_)
  · have hne : xs.length ≠ ys.length := by simp at h; omega
    simp -implicitDefEqProofs -dsimp only [go_sem, seval]
    refine finL_pure ?_
    rw [eqL_ne _ hne]
  · have heq : xs.length = ys.length := by simp at h; omega
    simp -implicitDefEqProofs -dsimp only [go_sem, seval]
    refine lp_eq_entry_Write (by repeat' (first | exact finX_ext _ _ | assumption | apply blkR_ext | apply thenR_ext | apply AW_ext)) hl heq xs ys 0 rfl rfl (Nat.zero_le _) (fun h => ?_) (fun h => ?_) <;> simp -implicitDefEqProofs -dsimp only [go_sem, seval] <;> refine finL_pure ?_ <;> rw [h]

theorem lp_eq_int {R : RPost} (hR : ExtR R) {T : Tab} {xs ys : List Int} {c1 c2 : Option Nat} (hl : Len xs.length) (hlen : xs.length = ys.length) : ∀ (us vs : List Int) (k : Nat), xs.drop k = us → ys.drop k = vs → k ≤ xs.length →
    (eqL intE us vs = false → R .ret [(4, .b false)] [] T) →
    (eqL intE us vs = true → R (.exit 0) [(0, .fz xs.length (xs.flatMap intC) c1), (1, .fz ys.length (ys.flatMap intC) c2), (12, .i .i64 xs.length), (13, .i .i64 xs.length), (14, .b false)] [] T) →
    AW prog slices_Equal_int_int_l0 R [(0, .fz xs.length (xs.flatMap intC) c1), (1, .fz ys.length (ys.flatMap intC) c2), (12, .i .i64 xs.length), (13, .i .i64 k)] [] T := by
  intro us
  induction us with
  | nil =>
    intro vs k hk hv hle h1 h2
    have hk' := drop_nil hk hle
    have hvs : vs = [] := by rw [← hv]; exact List.drop_eq_nil_iff.2 (by omega)
    subst hvs
    refine AW_loop hR ?_
    unfold slices_Equal_int_int_l0b
    simp -implicitDefEqProofs -dsimp only [go_sem, seval, hk', Int.lt_irrefl]
    rw [hk'] at h2
    exact h2 rfl
  | cons x us ih =>
    intro vs k hk hv hle h1 h2
    obtain ⟨hlt, hx, hk'⟩ := drop_lt hk
    obtain ⟨y, vs, rfl⟩ : ∃ y w, vs = y :: w := by
      cases vs with
      | nil => have := List.drop_eq_nil_iff.1 hv; omega
      | cons y w => exact ⟨y, w, rfl⟩
    obtain ⟨hlt2, hy, hv'⟩ := drop_lt hv
    have cl : ∀ c : Int, (intC c).length = 1 := fun _ => rfl
    have ea := flat_at cl hx
    have eb := flat_at cl hy
    rw [Nat.mul_one] at ea eb
    have e5 : k * 1 + 1 ≤ (xs.flatMap intC).length := by rw [flat_length cl]; omega
    have e6 : k * 1 + 1 ≤ (ys.flatMap intC).length := by rw [flat_length cl]; omega
    unfold Len at hl
    have hs : IntKind.i64.wrap ((k : Int) + 1) = ((k + 1 : Nat) : Int) := wrap_succ (by omega)
    simp only [eqL] at h1 h2
    refine AW_loopD (l := slices_Equal_int_int_l0) rfl hR ?_
    unfold slices_Equal_int_int_l0b
    simp -implicitDefEqProofs -dsimp only [go_sem, seval, Int.ofNat_lt, hlt, hlt2, Int.natCast_nonneg, Int.toNat_natCast, ea, eb, e5, e6, intC, List.cons_append, List.nil_append, aggEq, scalarEq]
    refine br_split (fun h => ?_) (fun h => ?_)
    · have he : intE x y = false := by simp [intE] at h ⊢; grind
      simp -implicitDefEqProofs -dsimp only [go_sem, seval]
      exact h1 (by rw [he]; rfl)
    · have he : intE x y = true := by simp [intE] at h ⊢; grind
      rw [he, Bool.true_and] at h1 h2
      simp -implicitDefEqProofs -dsimp only [go_sem, seval, hs]
      exact ih vs (k + 1) hk' hv' hlt h1 h2
theorem pc_eq_int (xs ys : List Int) (c1 c2 : Option Nat) (hl : Len xs.length) : PCalls prog f_slices_Equal_int_int [.fz xs.length (xs.flatMap intC) c1, .fz ys.length (ys.flatMap intC) c2] (.b (eqL intE xs ys)) := by
  refine pcalls_of mixed t_slices_Equal_int_int (by simp) fun T => ?_
  unfold s_slices_Equal_int_int
  simp -implicitDefEqProofs -dsimp only [go_sem, seval]
  refine br_split (fun h => ?_) (fun h => ?_)
  · have hne : xs.length ≠ ys.length := by simp at h; omega
    simp -implicitDefEqProofs -dsimp only [go_sem, seval]
    refine finL_pure ?_
    rw [eqL_ne _ hne]
  · have heq : xs.length = ys.length := by simp at h; omega
    simp -implicitDefEqProofs -dsimp only [go_sem, seval]
    refine lp_eq_int (by repeat' (first | exact finX_ext _ _ | assumption | apply blkR_ext | apply thenR_ext | apply AW_ext)) hl heq xs ys 0 rfl rfl (Nat.zero_le _) (fun h => ?_) (fun h => ?_) <;> simp -implicitDefEqProofs -dsimp only [go_sem, seval] <;> refine finL_pure ?_ <;> rw [h]

theorem lp_eq_bool {R : RPost} (hR : ExtR R) {T : Tab} {xs ys : List Bool} {c1 c2 : Option Nat} (hl : Len xs.length) (hlen : xs.length = ys.length) : ∀ (us vs : List Bool) (k : Nat), xs.drop k = us → ys.drop k = vs → k ≤ xs.length →
    (eqL boolE us vs = false → R .ret [(4, .b false)] [] T) →
    (eqL boolE us vs = true → R (.exit 0) [(0, .fz xs.length (xs.flatMap boolC) c1), (1, .fz ys.length (ys.flatMap boolC) c2), (12, .i .i64 xs.length), (13, .i .i64 xs.length), (14, .b false)] [] T) →
    AW prog slices_Equal_bool_bool_l0 R [(0, .fz xs.length (xs.flatMap boolC) c1), (1, .fz ys.length (ys.flatMap boolC) c2), (12, .i .i64 xs.length), (13, .i .i64 k)] [] T := by
  intro us
  induction us with
  | nil =>
    intro vs k hk hv hle h1 h2
    have hk' := drop_nil hk hle
    have hvs : vs = [] := by rw [← hv]; exact List.drop_eq_nil_iff.2 (by omega)
    subst hvs
    refine AW_loop hR ?_
    unfold slices_Equal_bool_bool_l0b
    simp -implicitDefEqProofs -dsimp only [go_sem, seval, hk', Int.lt_irrefl]
    rw [hk'] at h2
    exact h2 rfl
  | cons x us ih =>
    intro vs k hk hv hle h1 h2
    obtain ⟨hlt, hx, hk'⟩ := drop_lt hk
    obtain ⟨y, vs, rfl⟩ : ∃ y w, vs = y :: w := by
      cases vs with
      | nil => have := List.drop_eq_nil_iff.1 hv; omega
      | cons y w => exact ⟨y, w, rfl⟩
    obtain ⟨hlt2, hy, hv'⟩ := drop_lt hv
    have cl : ∀ c : Bool, (boolC c).length = 1 := fun _ => rfl
    have ea := flat_at cl hx
    have eb := flat_at cl hy
    rw [Nat.mul_one] at ea eb
    have e5 : k * 1 + 1 ≤ (xs.flatMap boolC).length := by rw [flat_length cl]; omega
    have e6 : k * 1 + 1 ≤ (ys.flatMap boolC).length := by rw [flat_length cl]; omega
    unfold Len at hl
    have hs : IntKind.i64.wrap ((k : Int) + 1) = ((k + 1 : Nat) : Int) := wrap_succ (by omega)
    simp only [eqL] at h1 h2
    refine AW_loopD (l := slices_Equal_bool_bool_l0) rfl hR ?_
    unfold slices_Equal_bool_bool_l0b
    simp -implicitDefEqProofs -dsimp only [go_sem, seval, Int.ofNat_lt, hlt, hlt2, Int.natCast_nonneg, Int.toNat_natCast, ea, eb, e5, e6, boolC, List.cons_append, List.nil_append, aggEq, scalarEq]
    refine br_split (fun h => ?_) (fun h => ?_)
    · have he : boolE x y = false := by simp [boolE] at h ⊢; grind
      simp -implicitDefEqProofs -dsimp only [go_sem, seval]
      exact h1 (by rw [he]; rfl)
    · have he : boolE x y = true := by simp [boolE] at h ⊢; grind
      rw [he, Bool.true_and] at h1 h2
      simp -implicitDefEqProofs -dsimp only [go_sem, seval, hs]
      exact ih vs (k + 1) hk' hv' hlt h1 h2
theorem pc_eq_bool (xs ys : List Bool) (c1 c2 : Option Nat) (hl : Len xs.length) : PCalls prog f_slices_Equal_bool_bool [.fz xs.length (xs.flatMap boolC) c1, .fz ys.length (ys.flatMap boolC) c2] (.b (eqL boolE xs ys)) := by
  refine pcalls_of mixed t_slices_Equal_bool_bool (by simp) fun T => ?_
  unfold s_slices_Equal_bool_bool
  simp -implicitDefEqProofs -dsimp only [go_sem, seval]
  refine br_split (fun h => ?_) (fun h => ?_)
  · have hne : xs.length ≠ ys.length := by simp at h; omega
    simp -implicitDefEqProofs -dsimp only [go_sem, seval]
    refine finL_pure ?_
    rw [eqL_ne _ hne]
  · have heq : xs.length = ys.length := by simp at h; omega
    simp -implicitDefEqProofs -dsimp only [go_sem, seval]
    refine lp_eq_bool (by repeat' (first | exact finX_ext _ _ | assumption | apply blkR_ext | apply thenR_ext | apply AW_ext)) hl heq xs ys 0 rfl rfl (Nat.zero_le _) (fun h => ?_) (fun h => ?_) <;> simp -implicitDefEqProofs -dsimp only [go_sem, seval] <;> refine finL_pure ?_ <;> rw [h]
end Go.Aw

