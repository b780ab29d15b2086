import Derived.Test.YteiamcnjlpbihaaM17H
namespace Go.Aw
open Go
open Go.Proofs.Try (prog)
set_option linter.all false
set_option maxHeartbeats 8000000
set_option maxRecDepth 8000

/-! The document's: which fields a kind has. -/
def scanF (f : Bs) : Bs → Bs → Bool
  | [], _ => false
  | b :: s, w => if decide ((b.toNat : Int) = 32) = true then (if decide (w = f) = true then true else scanF f s []) else scanF f s (w ++ [b])
def rowK (k : Int) : Bs :=
  if k = 1 then [115, 104, 97, 114, 100, 32, 101, 112, 111, 99, 104, 32, 110, 32, 102, 108, 97, 103] else if k = 2 then [110, 32, 99, 111, 110, 102, 115] else if k = 3 then [107, 110, 111, 119] else
  if k = 4 then [110, 32, 98, 97, 108, 108, 111, 116] else if k = 5 then [110, 32, 98, 97, 108, 108, 111, 116, 32, 118, 111, 116, 101, 115] else if k = 6 then [110, 32, 98, 97, 108, 108, 111, 116, 32, 118, 97, 108] else
  if k = 7 then [110, 32, 98, 97, 108, 108, 111, 116] else if k = 8 then [98, 97, 108, 108, 111, 116] else if k = 9 then [110, 32, 118, 97, 108] else if k = 10 then [110] else if k = 11 then [110, 32, 98, 97, 108, 108, 111, 116] else
  if k = 12 then [115, 104, 97, 114, 100, 32, 101, 112, 111, 99, 104, 32, 110, 32, 109, 32, 110, 117, 109, 32, 101, 110, 116, 114, 105, 101, 115] else if k = 13 then [115, 104, 97, 114, 100, 32, 101, 112, 111, 99, 104, 32, 110, 32, 102, 108, 97, 103] else
  if k = 14 then [115, 104, 97, 114, 100, 32, 101, 112, 111, 99, 104, 32, 110] else if k = 15 then [115, 104, 97, 114, 100, 32, 101, 112, 111, 99, 104, 32, 110, 32, 110, 111, 100, 101, 32, 105, 100, 32, 118, 97, 108] else
  if k = 16 then [115, 104, 97, 114, 100, 32, 110, 32, 105, 100, 32, 118, 97, 108] else if k = 17 then [115, 104, 97, 114, 100, 32, 116, 120, 110] else if k = 18 then [115, 104, 97, 114, 100, 32, 105, 100, 32, 99, 111, 100, 101] else
  if k = 19 then [105, 100, 32, 118, 97, 108] else if k = 20 then [116, 120, 110] else if k = 21 then [110, 32, 105, 100, 32, 118, 97, 108, 32, 110, 117, 109, 32, 99, 111, 100, 101] else []
def hasF (k : Int) (f : Bs) : Bool := kdOk k && scanF f (rowK k ++ [32]) []
theorem lp_has {R : RPost} (hR : ExtR R) {T : Tab} {f s : Bs} (hl : s.length ≤ 1000) : ∀ (us : Bs) (k : Nat), s.drop k = us → k ≤ s.length → ∀ (w : Bs), w.length ≤ k →
    (scanF f us w = true → R .ret [(4, .b true)] [] T) →
    (scanF f us w = false → ∀ w', R (.exit 0) [(1, .s f), (6, .s s), (7, .s w'), (8, .i .i64 s.length), (24, .b false)] [] T) →
    AW prog sautoirref17_has_l0 R [(1, .s f), (6, .s s), (7, .s w), (8, .i .i64 k)] [] T := by
  intro us
  induction us with
  | nil =>
    intro k hk hle w hw h1 h2
    have hk' := drop_nil hk hle
    refine AW_loop hR ?_
    unfold sautoirref17_has_l0b
    simp -implicitDefEqProofs -dsimp only [go_sem, seval, hk', Int.lt_irrefl]
    rw [hk'] at h2
    exact h2 rfl w
  | cons y us ih =>
    intro k hk hle w hw h1 h2
    obtain ⟨hlt, hy, hk'⟩ := drop_lt hk
    have hs : IntKind.i64.wrap ((k : Int) + 1) = ((k + 1 : Nat) : Int) := wrap_succ (by omega)
    have hb : w.length + 1 ≤ 9223372036854775807 := by omega
    have hk1 : k ≤ k + 1 ∧ k + 1 ≤ s.length := by omega
    have h01 : (0 : Int) ≤ ((k + 1 : Nat) : Int) := Int.natCast_nonneg _
    refine AW_loopD (l := sautoirref17_has_l0) rfl hR ?_
    unfold sautoirref17_has_l0b
    simp only [scanF] at h1 h2
    simp -implicitDefEqProofs -dsimp only [go_sem, seval, Int.ofNat_lt, hlt, Int.natCast_nonneg, Int.toNat_natCast, hy]
    apply br_split <;> intro h3
    · simp -implicitDefEqProofs -dsimp only [go_sem, seval, h3]
      apply br_split <;> intro h4
      · simp -implicitDefEqProofs -dsimp only [go_sem, seval, h4]
        exact h1 (by rw [if_pos h3, if_pos h4])
      · rw [if_pos h3, if_neg (by rw [h4]; decide)] at h1 h2
        simp -implicitDefEqProofs -dsimp only [go_sem, seval, h4, hs]
        exact ih (k + 1) hk' hlt [] (Nat.zero_le _) h1 h2
    · rw [if_neg (by rw [h3]; decide)] at h1 h2
      simp -implicitDefEqProofs -dsimp only [go_sem, seval, h3, hs, hb, hk1, h01, hk, Int.natCast_nonneg, Int.toNat_natCast, Nat.add_sub_cancel_left]
      exact ih (k + 1) hk' hlt (w ++ [y]) (by simp; omega) h1 h2
theorem rows_at {k : Int} (h : kdOk k = true) : ((List.drop k.toNat ([.s [], .s [115, 104, 97, 114, 100, 32, 101, 112, 111, 99, 104, 32, 110, 32, 102, 108, 97, 103], .s [110, 32, 99, 111, 110, 102, 115], .s [107, 110, 111, 119], .s [110, 32, 98, 97, 108, 108, 111, 116], .s [110, 32, 98, 97, 108, 108, 111, 116, 32, 118, 111, 116, 101, 115], .s [110, 32, 98, 97, 108, 108, 111, 116, 32, 118, 97, 108], .s [110, 32, 98, 97, 108, 108, 111, 116], .s [98, 97, 108, 108, 111, 116], .s [110, 32, 118, 97, 108], .s [110], .s [110, 32, 98, 97, 108, 108, 111, 116], .s [115, 104, 97, 114, 100, 32, 101, 112, 111, 99, 104, 32, 110, 32, 109, 32, 110, 117, 109, 32, 101, 110, 116, 114, 105, 101, 115], .s [115, 104, 97, 114, 100, 32, 101, 112, 111, 99, 104, 32, 110, 32, 102, 108, 97, 103], .s [115, 104, 97, 114, 100, 32, 101, 112, 111, 99, 104, 32, 110], .s [115, 104, 97, 114, 100, 32, 101, 112, 111, 99, 104, 32, 110, 32, 110, 111, 100, 101, 32, 105, 100, 32, 118, 97, 108], .s [115, 104, 97, 114, 100, 32, 110, 32, 105, 100, 32, 118, 97, 108], .s [115, 104, 97, 114, 100, 32, 116, 120, 110], .s [115, 104, 97, 114, 100, 32, 105, 100, 32, 99, 111, 100, 101], .s [105, 100, 32, 118, 97, 108], .s [116, 120, 110], .s [110, 32, 105, 100, 32, 118, 97, 108, 32, 110, 117, 109, 32, 99, 111, 100, 101]] : List AV))[0]?) = some (.s (rowK k)) := by
  rcases kinds k with (rfl | rfl | rfl | rfl | rfl | rfl | rfl | rfl | rfl | rfl | rfl | rfl | rfl | rfl | rfl | rfl | rfl | rfl | rfl | rfl | rfl) | h2
  any_goals rfl
  rw [h] at h2; cases h2
theorem row_len (k : Int) : (rowK k).length ≤ 30 := by
  rcases kinds k with (rfl | rfl | rfl | rfl | rfl | rfl | rfl | rfl | rfl | rfl | rfl | rfl | rfl | rfl | rfl | rfl | rfl | rfl | rfl | rfl | rfl) | h
  any_goals (decide +kernel)
  simp only [kdOk, decide_eq_false_iff_not] at h
  unfold rowK
  repeat' rw [if_neg (by omega)]
  decide
theorem pc_has (k : Int) (f : Bs) : PCalls prog f_sautoirref17_has [.i .i64 k, .s f] (.b (hasF k f)) := by
  refine pcalls_of mixed t_sautoirref17_has (by simp) fun T => ?_
  unfold s_sautoirref17_has
  rcases h : kdOk k with _ | _
  · have h' := h
    simp only [kdOk, decide_eq_false_iff_not] at h'
    by_cases h1 : k < 1
    · simp -implicitDefEqProofs -dsimp only [go_sem, seval, decide_eq_true h1]
      refine finL_pure ?_
      rw [hasF, h]; rfl
    · simp -implicitDefEqProofs -dsimp only [go_sem, seval, decide_eq_false h1, decide_eq_true (show 21 < k by omega)]
      refine finL_pure ?_
      rw [hasF, h]; rfl
  · have h' := h
    simp only [kdOk, decide_eq_true_eq] at h'
    have hr := rows_at h
    have hl := row_len k
    have hb : (rowK k).length + 1 ≤ 9223372036854775807 := by omega
    have h0 : 0 ≤ k ∧ k < 22 := by omega
    have h00 : 0 ≤ k := by omega
    have h22 : k < ((22 : Nat) : Int) := by omega
    simp -implicitDefEqProofs -dsimp only [go_sem, seval, decide_eq_false (show ¬ k < 1 by omega), decide_eq_false (show ¬ 21 < k by omega), hr, hb, h0, h00, h22]
    refine lp_has (T := T) (by repeat' (first | exact finX_ext _ _ | assumption | apply blkR_ext | apply thenR_ext | apply AW_ext)) (f := f) (s := rowK k ++ [32]) (by simp; omega) _ 0 rfl (Nat.zero_le _) [] (Nat.zero_le _) (fun h => ?_) (fun h w => ?_) <;> simp -implicitDefEqProofs -dsimp only [go_sem, seval] <;> (refine finL_pure ?_; rw [hasF, show kdOk _ = true from ‹_›]; exact congrArg AV.b h.symm)
end Go.Aw
