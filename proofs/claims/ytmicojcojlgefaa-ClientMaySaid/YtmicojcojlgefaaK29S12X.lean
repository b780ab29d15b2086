import Derived.Test.YtmicojcojlgefaaK29S12T
import Derived.Test.YtmicojcojlgefaaK29S12S
namespace Go.Aw
open Go
open Go.Proofs.Try (prog)
set_option linter.all false
set_option maxHeartbeats 4000000

theorem lp_Same0 {R : RPost} (hR : ExtR R) {T : Tab} {xs : List Rd} {c1 c2 : Option Nat} {a1 a2 a3 a4 b1 b2 b3 b4 : AV} (hl : xs.length < 1000000000) : ∀ (ys : List Rd) (k : Nat), xs.drop k = ys → k ≤ xs.length →
    (R (.exit 0) [(2, .lp 2 0), (3, .lp 3 0), (39, .i .i64 xs.length), (40, .i .i64 xs.length), (41, .b false)] [(2, [a1, a2, a3, .fz xs.length (xs.flatMap rdC) c1, a4]), (3, [b1, b2, b3, .fz xs.length (xs.flatMap rdC) c2, b4])] T) →
    AW prog sautoirref12_SameTxn_l0 R [(2, .lp 2 0), (3, .lp 3 0), (39, .i .i64 xs.length), (40, .i .i64 k)] [(2, [a1, a2, a3, .fz xs.length (xs.flatMap rdC) c1, a4]), (3, [b1, b2, b3, .fz xs.length (xs.flatMap rdC) c2, b4])] T := by
  intro ys
  induction ys with
  | nil =>
    intro k hk hle h2
    have hk' := drop_nil hk hle
    refine AW_loop hR ?_
    unfold sautoirref12_SameTxn_l0b
    simp -implicitDefEqProofs -dsimp only [go_sem, seval, hk', Int.lt_irrefl]
    rw [hk'] at h2
    exact h2
  | cons y ys ih =>
    intro k hk hle h2
    obtain ⟨hlt, hy, hk'⟩ := drop_lt hk
    have hc := flat_at rdC_len hy
    have hc5 : k * 2 + 2 ≤ (xs.flatMap rdC).length := by rw [flat_length rdC_len]; omega
    refine AW_loopD (l := sautoirref12_SameTxn_l0) rfl hR ?_
    unfold sautoirref12_SameTxn_l0b
    simp -implicitDefEqProofs -dsimp only [go_sem, seval, Int.ofNat_lt, hlt, Int.natCast_nonneg, Int.toNat_natCast, hc, hc5, rdC, List.cons_append, List.nil_append, aggEq, scalarEq, decide_true, Bool.and_true]
    rw [wrap_succ (by omega)]
    exact ih (k + 1) hk' hlt h2
theorem lp_Same1 {R : RPost} (hR : ExtR R) {T : Tab} {xs : List Wt} {c1 c2 : Option Nat} {a1 a2 a3 a4 b1 b2 b3 b4 : AV} (hl : xs.length < 1000000000) : ∀ (ys : List Wt) (k : Nat), xs.drop k = ys → k ≤ xs.length →
    (R (.exit 2) [(2, .lp 2 0), (3, .lp 3 0), (57, .i .i64 xs.length), (58, .i .i64 xs.length), (59, .b false)] [(2, [a1, a2, a3, a4, .fz xs.length (xs.flatMap wtC) c1]), (3, [b1, b2, b3, b4, .fz xs.length (xs.flatMap wtC) c2])] T) →
    AW prog sautoirref12_SameTxn_l1 R [(2, .lp 2 0), (3, .lp 3 0), (57, .i .i64 xs.length), (58, .i .i64 k)] [(2, [a1, a2, a3, a4, .fz xs.length (xs.flatMap wtC) c1]), (3, [b1, b2, b3, b4, .fz xs.length (xs.flatMap wtC) c2])] T := by
  intro ys
  induction ys with
  | nil =>
    intro k hk hle h2
    have hk' := drop_nil hk hle
    refine AW_loop hR ?_
    unfold sautoirref12_SameTxn_l1b
    simp -implicitDefEqProofs -dsimp only [go_sem, seval, hk', Int.lt_irrefl]
    rw [hk'] at h2
    exact h2
  | cons y ys ih =>
    intro k hk hle h2
    obtain ⟨hlt, hy, hk'⟩ := drop_lt hk
    have hc := flat_at wtC_len hy
    have hc5 : k * 3 + 3 ≤ (xs.flatMap wtC).length := by rw [flat_length wtC_len]; omega
    have hbb : ∀ b : Bool, (b == b) = true := fun b => by cases b <;> rfl
    refine AW_loopD (l := sautoirref12_SameTxn_l1) rfl hR ?_
    unfold sautoirref12_SameTxn_l1b
    simp -implicitDefEqProofs -dsimp only [go_sem, seval, Int.ofNat_lt, hlt, Int.natCast_nonneg, Int.toNat_natCast, hc, hc5, wtC, List.cons_append, List.nil_append, aggEq, scalarEq, decide_true, Bool.and_true, hbb]
    rw [wrap_succ (by omega)]
    exact ih (k + 1) hk' hlt h2

theorem pc_SameTxn_refl (t : Tx) (k1 k2 k3 k4 : Option Nat) (hf : t.Fine) : PCalls prog f_sautoirref12_SameTxn [.agg (t.cells k1 k2), .agg (t.cells k3 k4)] (.b true) := by
  refine pcalls_of mixed t_sautoirref12_SameTxn (by simp) fun T => ?_
  have hbb : ∀ b : Bool, (b == b) = true := fun b => by cases b <;> rfl
  unfold s_sautoirref12_SameTxn
  simp -implicitDefEqProofs -dsimp only [go_sem, seval, Tx.cells, aggEq, scalarEq, decide_true, decide_false, Bool.and_true, hbb, ↓g_gdc, rcOk]
  refine lp_Same0 (T := T) (by repeat' (first | exact finX_ext _ _ | assumption | apply blkR_ext | apply thenR_ext | apply AW_ext)) hf.r t.rs 0 rfl (by omega) ?_
  simp -implicitDefEqProofs -dsimp only [go_sem, seval]
  refine lp_Same1 (T := T) (by repeat' (first | exact finX_ext _ _ | assumption | apply blkR_ext | apply thenR_ext | apply AW_ext)) hf.w t.ws 0 rfl (by omega) ?_
  simp -implicitDefEqProofs -dsimp only [go_sem, seval]
  exact finL_pure rfl
end Go.Aw

