import Derived.Test.YtfphinopblfacaaGreatDoorH21G21A
namespace Go.Aw
open Go
open Go.Proofs.Tryz (prog)
set_option linter.all false
set_option maxHeartbeats 4000000

theorem lp_num1x {R : RPost} (hR : ExtR R) {T : Tab} {b : List UInt8} {cap : Option Nat} {a : Nat} {k : AV} {x n0 : Int} (hk : k.plain = true) (hl : b.length ≤ 1000000000) (i : Nat) (hi : a + i ≤ b.length) (hx : x = (a : Int) + i - 1) (hn : n0 = 0)
    (h2 : ∀ j : Int, R (.exit 2) [(0, bts b cap), (1, .i .i64 a), (6, k), (7, .i .u64 (valN ((b.drop a).take i) % 18446744073709551616 : Nat)), (8, .i .i64 j), (42, .b false)] [] T) :
    AW prog sautoirref01_Number_l1 R [(0, bts b cap), (1, .i .i64 a), (6, k), (7, .i .u64 n0), (8, .i .i64 x)] [] T := by
  subst hx; subst hn
  refine lp_num1 hR hk hl i hi 0 (by decide) (fun j => ?_)
  rw [Nat.zero_mul, Nat.zero_add]
  exact h2 j
theorem pc_rNumber (b : List UInt8) (cap : Option Nat) (a : Nat) (hl : b.length ≤ 1000000000) (ha : a ≤ b.length) : PCalls prog f_sautoirref01_Number [bts b cap, .i .i64 a] (.tup [.i .u64 (decR (b.drop a)).1, .i .i64 (decR (b.drop a)).2]) := by
  rw [← numD_eq]
  refine pcalls_of mixed t_sautoirref01_Number (by simp) fun T => ?_
  obtain ⟨c, hc⟩ : ∃ c, c = b.drop a := ⟨_, rfl⟩
  have hcl : c.length = b.length - a := by rw [hc, List.length_drop]
  have hst := stopI_le 12 c
  rw [← hc]
  unfold s_sautoirref01_Number
  simp -implicitDefEqProofs -dsimp only [go_sem, Nat.reduceEqDiff, Nat.reduceAdd, Nat.reduceMul, Nat.reduceSub, Nat.reduceLT, Nat.reduceLeDiff, Nat.reduceBEq, reduceIte, reduceCtorEq, Int.reduceLT, Int.reduceLE, Int.reduceEq, Int.reduceNeg, Int.reduceToNat, Int.reduceAdd, Int.reduceSub]
  refine lp_num0 (T := T) (b := b) (cap := cap) (a := a) (by repeat' (first | exact finX_ext _ _ | assumption | apply blkR_ext | apply thenR_ext | apply AW_ext)) hl ha 12 0 rfl (by omega) ?_
  rw [Nat.add_zero, ← hc]
  unfold numD
  simp only
  generalize stopI 12 c = j at hst ⊢
  by_cases h1 : c.length ≤ j
  · have d1 : decide ((b.length : Int) ≤ ((a + j : Nat) : Int)) = true := decide_eq_true (by omega)
    rw [if_pos (.inl h1)]
    simp -implicitDefEqProofs -dsimp only [go_sem, Nat.reduceEqDiff, Nat.reduceAdd, Nat.reduceMul, Nat.reduceSub, Nat.reduceLT, Nat.reduceLeDiff, Nat.reduceBEq, reduceIte, reduceCtorEq, Int.reduceLT, Int.reduceLE, Int.reduceEq, Int.reduceNeg, Int.reduceToNat, Int.reduceAdd, Int.reduceSub, bts, d1, decide_true, decide_false]
    exact finL_pure rfl
  have d1 : decide ((b.length : Int) ≤ ((a + j : Nat) : Int)) = false := decide_eq_false (by omega)
  have w1 : IntKind.i64.wrap (((a + j : Nat) : Int) - a) = (j : Int) := (wrap_i64 (by unfold I64; omega)).trans (by omega)
  by_cases h9 : 9 < j
  · have d2 : decide ((9 : Int) < j) = true := decide_eq_true (by omega)
    rw [if_pos (.inr h9)]
    simp -implicitDefEqProofs -dsimp only [go_sem, Nat.reduceEqDiff, Nat.reduceAdd, Nat.reduceMul, Nat.reduceSub, Nat.reduceLT, Nat.reduceLeDiff, Nat.reduceBEq, reduceIte, reduceCtorEq, Int.reduceLT, Int.reduceLE, Int.reduceEq, Int.reduceNeg, Int.reduceToNat, Int.reduceAdd, Int.reduceSub, bts, d1, w1, d2, decide_true, decide_false]
    exact finL_pure rfl
  have d2 : decide ((9 : Int) < j) = false := decide_eq_false (by omega)
  rw [if_neg (by omega)]
  simp -implicitDefEqProofs -dsimp only [go_sem, Nat.reduceEqDiff, Nat.reduceAdd, Nat.reduceMul, Nat.reduceSub, Nat.reduceLT, Nat.reduceLeDiff, Nat.reduceBEq, reduceIte, reduceCtorEq, Int.reduceLT, Int.reduceLE, Int.reduceEq, Int.reduceNeg, Int.reduceToNat, Int.reduceAdd, Int.reduceSub, bts, d1, w1, d2, decide_true, decide_false]
  refine lp_num1x (T := T) (b := b) (cap := cap) (a := a) (by repeat' (first | exact finX_ext _ _ | assumption | apply blkR_ext | apply thenR_ext | apply AW_ext)) rfl hl (j + 1) (by omega) (by omega) rfl (fun j' => ?_)
  rw [← hc]
  obtain ⟨A, hA⟩ : ∃ A, A = (b.drop a).take (a + j + 1 - a) := ⟨_, rfl⟩
  have hA2 : A = c.take (j + 1) := by rw [hA, ← hc, show a + j + 1 - a = j + 1 by omega]
  rw [← hA2]
  have eA : A.length = a + j + 1 - a := by rw [hA, List.length_take, List.length_drop]; omega
  have hn : valN A % 18446744073709551616 < 18446744073709551616 := Nat.mod_lt _ (by decide)
  generalize valN A % 18446744073709551616 = n at hn ⊢
  have w2 : IntKind.i64.wrap (((a + j : Nat) : Int) + 1) = ((a + j + 1 : Nat) : Int) := (wrap_i64 (by unfold I64; omega)).trans (by omega)
  have w3 : IntKind.i64.wrap (((a + j + 1 : Nat) : Int) - a) = ((j + 1 : Nat) : Int) := (wrap_i64 (by unfold I64; omega)).trans (by omega)
  have s1 : (a : Int) ≤ ((a + j + 1 : Nat) : Int) ∧ ((a + j + 1 : Nat) : Int) ≤ b.length := by omega
  have s2 : a ≤ a + j + 1 ∧ a + j + 1 ≤ b.length := by omega
  have cP := pc_rPut n hn
  simp -implicitDefEqProofs -dsimp only [go_sem, Nat.reduceEqDiff, Nat.reduceAdd, Nat.reduceMul, Nat.reduceSub, Nat.reduceLT, Nat.reduceLeDiff, Nat.reduceBEq, reduceIte, reduceCtorEq, Int.reduceLT, Int.reduceLE, Int.reduceEq, Int.reduceNeg, Int.reduceToNat, Int.reduceAdd, Int.reduceSub, bts, w2, s1, s2, Int.ofNat_le, Int.natCast_nonneg, Int.toNat_natCast, Nat.mul_one, byteCells_take, byteCells_drop, byteCells_length, ← hA, eA, bytesAv_cells, Nat.zero_le, ↓g_call _ _ c_sautoirref01_Put]
  refine CallK.pure cP (aft_rc (fun _ => ?_) ?_)
  · simp -implicitDefEqProofs -dsimp only [go_sem, Nat.reduceEqDiff, Nat.reduceAdd, Nat.reduceMul, Nat.reduceSub, Nat.reduceLT, Nat.reduceLeDiff, Nat.reduceBEq, reduceIte, reduceCtorEq, Int.reduceLT, Int.reduceLE, Int.reduceEq, Int.reduceNeg, Int.reduceToNat, Int.reduceAdd, Int.reduceSub, rcOk, gvev, gdd, bts, w2, s1, s2, Int.ofNat_le, Int.natCast_nonneg, Int.toNat_natCast, Nat.mul_one, byteCells_take, byteCells_drop, byteCells_length, ← hA, eA, bytesAv_cells, Nat.zero_le]
  simp -implicitDefEqProofs -dsimp only [go_sem, Nat.reduceEqDiff, Nat.reduceAdd, Nat.reduceMul, Nat.reduceSub, Nat.reduceLT, Nat.reduceLeDiff, Nat.reduceBEq, reduceIte, reduceCtorEq, Int.reduceLT, Int.reduceLE, Int.reduceEq, Int.reduceNeg, Int.reduceToNat, Int.reduceAdd, Int.reduceSub, bts, byteCells_length, bytesAv_cells]
  by_cases he : enc n = A
  · rw [if_pos he]
    simp -implicitDefEqProofs -dsimp only [go_sem, Nat.reduceEqDiff, Nat.reduceAdd, Nat.reduceMul, Nat.reduceSub, Nat.reduceLT, Nat.reduceLeDiff, Nat.reduceBEq, reduceIte, reduceCtorEq, Int.reduceLT, Int.reduceLE, Int.reduceEq, Int.reduceNeg, Int.reduceToNat, Int.reduceAdd, Int.reduceSub, he, decide_true, Bool.not_true, w2, w3]
    exact finL_pure rfl
  · have d : decide (enc n = A) = false := decide_eq_false he
    rw [if_neg he]
    simp -implicitDefEqProofs -dsimp only [go_sem, Nat.reduceEqDiff, Nat.reduceAdd, Nat.reduceMul, Nat.reduceSub, Nat.reduceLT, Nat.reduceLeDiff, Nat.reduceBEq, reduceIte, reduceCtorEq, Int.reduceLT, Int.reduceLE, Int.reduceEq, Int.reduceNeg, Int.reduceToNat, Int.reduceAdd, Int.reduceSub, d, Bool.not_false]
    exact finL_pure rfl

/-- The document's reader in the table. -/
def nRow (b : List UInt8) (cap : Option Nat) (s : RS) : Slot := .row 3 [bts b cap, .i .i64 (b.length - s.1.length : Nat), .b s.2]
def Suf (b : List UInt8) (s : RS) : Prop := s.1.length ≤ b.length ∧ b.drop (b.length - s.1.length) = s.1
def nT (T : Tab) (id : Nat) (b : List UInt8) (cap : Option Nat) (s : RS) : Tab := T.put id (nRow b cap s)
theorem nT_at {T : Tab} {id : Nat} {b : List UInt8} {cap : Option Nat} {s : RS} : nT T id b cap s id = nRow b cap s := Tab.put_same ..
theorem nT_put {T : Tab} {id : Nat} {b : List UInt8} {cap : Option Nat} {s s' : RS} : nT (nT T id b cap s) id b cap s' = nT T id b cap s' := Tab.put_put ..
theorem Suf.whole (b : List UInt8) (x : Bool) : Suf b (b, x) := ⟨Nat.le_refl _, by simp⟩
theorem Suf.most {b : List UInt8} {s : RS} (h : Suf b s) (k : Nat) : Suf b (rMost k s).2 := by
  obtain ⟨h1, h2⟩ := h
  unfold rMost
  split
  · exact ⟨h1, h2⟩
  · split
    · split
      · rename_i n z hd hle
        obtain ⟨_, q, _⟩ := dec_take hd
        refine ⟨by simp only [List.length_drop]; omega, ?_⟩
        simp only [List.length_drop]
        rw [← h2, List.drop_drop]
        congr 1
        rw [h2]
        omega
      · exact ⟨h1, h2⟩
    · exact ⟨h1, h2⟩
theorem at_rMost {T : Tab} {id : Nat} {b : List UInt8} {cap : Option Nat} {s : RS} (h : T id = nRow b cap s) (hs : Suf b s) (k : Nat) (hl : b.length ≤ 1000000000) : ACalls prog f_sautoirref01_Reader_Most [.ptr id 0, .i .u64 k] T (fun v T' => v = .i .u64 (rMost k s).1 ∧ T' = nT T id b cap (rMost k s).2) := by
  refine acalls_of mixed t_sautoirref01_Reader_Most (by simp) ?_
  have hr : T id = .row 3 [bts b cap, .i .i64 (b.length - s.1.length : Nat), .b s.2] := h
  have cN := pc_rNumber b cap (b.length - s.1.length) hl (by omega)
  rw [hs.2] at cN
  have hself : nT T id b cap s = T := Tab.put_self h
  unfold s_sautoirref01_Reader_Most
  simp -implicitDefEqProofs -dsimp only [go_sem, Nat.reduceEqDiff, Nat.reduceAdd, Nat.reduceMul, Nat.reduceSub, Nat.reduceLT, Nat.reduceLeDiff, Nat.reduceBEq, reduceIte, reduceCtorEq, Int.reduceLT, Int.reduceLE, Int.reduceEq, Int.reduceNeg, Int.reduceToNat, Int.reduceAdd, Int.reduceSub, hr, ↓g_call _ _ c_sautoirref01_Number]
  refine CallK.pure cN (aft_nil ?_)
  rcases hb : s.2 with _ | _
  · rw [rMost_eq hb]
    have hle := decR_le s.1
    have hr' := hr
    rw [hb] at hr'
    by_cases hz : (decR s.1).2 = 0
    · have d : decide (((decR s.1).2 : Int) = 0) = true := decide_eq_true (by omega)
      rw [if_pos (.inl hz)]
      simp -implicitDefEqProofs -dsimp only [go_sem, Nat.reduceEqDiff, Nat.reduceAdd, Nat.reduceMul, Nat.reduceSub, Nat.reduceLT, Nat.reduceLeDiff, Nat.reduceBEq, reduceIte, reduceCtorEq, Int.reduceLT, Int.reduceLE, Int.reduceEq, Int.reduceNeg, Int.reduceToNat, Int.reduceAdd, Int.reduceSub, hr', d, decide_true, decide_false]
      refine stS_row hr' rfl rfl (by simp) (aft_nil ?_)
      simp -implicitDefEqProofs -dsimp only [go_sem, Nat.reduceEqDiff, Nat.reduceAdd, Nat.reduceMul, Nat.reduceSub, Nat.reduceLT, Nat.reduceLeDiff, Nat.reduceBEq, reduceIte, reduceCtorEq, Int.reduceLT, Int.reduceLE, Int.reduceEq, Int.reduceNeg, Int.reduceToNat, Int.reduceAdd, Int.reduceSub]
      exact finL_pure rfl
    · have d : decide (((decR s.1).2 : Int) = 0) = false := decide_eq_false (by omega)
      by_cases hk : k < (decR s.1).1
      · have d2 : decide ((k : Int) < (decR s.1).1) = true := decide_eq_true (by omega)
        rw [if_pos (.inr hk)]
        simp -implicitDefEqProofs -dsimp only [go_sem, Nat.reduceEqDiff, Nat.reduceAdd, Nat.reduceMul, Nat.reduceSub, Nat.reduceLT, Nat.reduceLeDiff, Nat.reduceBEq, reduceIte, reduceCtorEq, Int.reduceLT, Int.reduceLE, Int.reduceEq, Int.reduceNeg, Int.reduceToNat, Int.reduceAdd, Int.reduceSub, hr', d, d2, decide_true, decide_false]
        refine stS_row hr' rfl rfl (by simp) (aft_nil ?_)
        simp -implicitDefEqProofs -dsimp only [go_sem, Nat.reduceEqDiff, Nat.reduceAdd, Nat.reduceMul, Nat.reduceSub, Nat.reduceLT, Nat.reduceLeDiff, Nat.reduceBEq, reduceIte, reduceCtorEq, Int.reduceLT, Int.reduceLE, Int.reduceEq, Int.reduceNeg, Int.reduceToNat, Int.reduceAdd, Int.reduceSub]
        exact finL_pure rfl
      · have d2 : decide ((k : Int) < (decR s.1).1) = false := decide_eq_false (by omega)
        have hs1 := hs.1
        have wa : IntKind.i64.wrap (((b.length - s.1.length : Nat) : Int) + (decR s.1).2) = ((b.length - (s.1.drop (decR s.1).2).length : Nat) : Int) := by
          rw [List.length_drop]; exact (wrap_i64 (by unfold I64; omega)).trans (by omega)
        rw [if_neg (by omega)]
        simp -implicitDefEqProofs -dsimp only [go_sem, Nat.reduceEqDiff, Nat.reduceAdd, Nat.reduceMul, Nat.reduceSub, Nat.reduceLT, Nat.reduceLeDiff, Nat.reduceBEq, reduceIte, reduceCtorEq, Int.reduceLT, Int.reduceLE, Int.reduceEq, Int.reduceNeg, Int.reduceToNat, Int.reduceAdd, Int.reduceSub, hr', d, d2, decide_true, decide_false, wa]
        refine stS_row hr' rfl rfl (by simp) (aft_nil ?_)
        simp -implicitDefEqProofs -dsimp only [go_sem, Nat.reduceEqDiff, Nat.reduceAdd, Nat.reduceMul, Nat.reduceSub, Nat.reduceLT, Nat.reduceLeDiff, Nat.reduceBEq, reduceIte, reduceCtorEq, Int.reduceLT, Int.reduceLE, Int.reduceEq, Int.reduceNeg, Int.reduceToNat, Int.reduceAdd, Int.reduceSub]
        exact finL_pure rfl
  · rw [rMost_bad hb]
    have hr' := hr
    rw [hb] at hr'
    simp -implicitDefEqProofs -dsimp only [go_sem, Nat.reduceEqDiff, Nat.reduceAdd, Nat.reduceMul, Nat.reduceSub, Nat.reduceLT, Nat.reduceLeDiff, Nat.reduceBEq, reduceIte, reduceCtorEq, Int.reduceLT, Int.reduceLE, Int.reduceEq, Int.reduceNeg, Int.reduceToNat, Int.reduceAdd, Int.reduceSub, hr', decide_true, decide_false]
    refine stS_row hr' rfl rfl (by simp) (aft_nil ?_)
    simp -implicitDefEqProofs -dsimp only [go_sem, Nat.reduceEqDiff, Nat.reduceAdd, Nat.reduceMul, Nat.reduceSub, Nat.reduceLT, Nat.reduceLeDiff, Nat.reduceBEq, reduceIte, reduceCtorEq, Int.reduceLT, Int.reduceLE, Int.reduceEq, Int.reduceNeg, Int.reduceToNat, Int.reduceAdd, Int.reduceSub]
    refine fin_as (.refl _) ?_
    rw [hself]
    exact Tab.put_self hr'
theorem at_rInt {T : Tab} {id : Nat} {b : List UInt8} {cap : Option Nat} {s : RS} (h : T id = nRow b cap s) (hs : Suf b s) (k : Nat) (hk : k < 9223372036854775808) (hl : b.length ≤ 1000000000) : ACalls prog f_sautoirref01_Reader_Int [.ptr id 0, .i .i64 k] T (fun v T' => v = .i .i64 (rMost k s).1 ∧ T' = nT T id b cap (rMost k s).2) := by
  refine acalls_of mixed t_sautoirref01_Reader_Int (by simp) ?_
  have d : decide ((k : Int) < 0) = false := decide_eq_false (by omega)
  have w : IntKind.u64.wrap (k : Int) = k := wrap_u64n (by omega)
  have hle := rMost_le k s
  have w2 : IntKind.i64.wrap ((rMost k s).1 : Int) = (rMost k s).1 := wrap_i64 (by unfold I64; omega)
  unfold s_sautoirref01_Reader_Int
  simp -implicitDefEqProofs -dsimp only [go_sem, Nat.reduceEqDiff, Nat.reduceAdd, Nat.reduceMul, Nat.reduceSub, Nat.reduceLT, Nat.reduceLeDiff, Nat.reduceBEq, reduceIte, reduceCtorEq, Int.reduceLT, Int.reduceLE, Int.reduceEq, Int.reduceNeg, Int.reduceToNat, Int.reduceAdd, Int.reduceSub, d, w, ↓g_call _ _ c_sautoirref01_Reader_Most]
  refine CallK.as (at_rMost h hs k hl) (aft_nil ?_)
  simp -implicitDefEqProofs -dsimp only [go_sem, Nat.reduceEqDiff, Nat.reduceAdd, Nat.reduceMul, Nat.reduceSub, Nat.reduceLT, Nat.reduceLeDiff, Nat.reduceBEq, reduceIte, reduceCtorEq, Int.reduceLT, Int.reduceLE, Int.reduceEq, Int.reduceNeg, Int.reduceToNat, Int.reduceAdd, Int.reduceSub, w2]
  exact fin_as (.refl _) rfl
theorem at_rN {T : Tab} {id : Nat} {b : List UInt8} {cap : Option Nat} {s : RS} (h : T id = nRow b cap s) (hs : Suf b s) (hl : b.length ≤ 1000000000) : ACalls prog f_sautoirref01_Reader_N [.ptr id 0] T (fun v T' => v = .i .u64 (rMost 18446744073709551615 s).1 ∧ T' = nT T id b cap (rMost 18446744073709551615 s).2) := by
  refine acalls_of mixed t_sautoirref01_Reader_N (by simp) ?_
  unfold s_sautoirref01_Reader_N
  simp -implicitDefEqProofs -dsimp only [go_sem, Nat.reduceEqDiff, Nat.reduceAdd, Nat.reduceMul, Nat.reduceSub, Nat.reduceLT, Nat.reduceLeDiff, Nat.reduceBEq, reduceIte, reduceCtorEq, Int.reduceLT, Int.reduceLE, Int.reduceEq, Int.reduceNeg, Int.reduceToNat, Int.reduceAdd, Int.reduceSub, ↓g_call _ _ c_sautoirref01_Reader_Most]
  refine CallK.as (at_rMost h hs 18446744073709551615 hl) (aft_nil ?_)
  simp -implicitDefEqProofs -dsimp only [go_sem, Nat.reduceEqDiff, Nat.reduceAdd, Nat.reduceMul, Nat.reduceSub, Nat.reduceLT, Nat.reduceLeDiff, Nat.reduceBEq, reduceIte, reduceCtorEq, Int.reduceLT, Int.reduceLE, Int.reduceEq, Int.reduceNeg, Int.reduceToNat, Int.reduceAdd, Int.reduceSub]
  exact fin_as (.refl _) rfl
theorem at_rLeft {T : Tab} {id : Nat} {b : List UInt8} {cap : Option Nat} {s : RS} (h : T id = nRow b cap s) (hs : Suf b s) (hl : b.length ≤ 1000000000) : ACalls prog f_sautoirref01_Reader_Left [.ptr id 0] T (fun v T' => v = .i .i64 (if s.2 = true then 0 else s.1.length : Nat) ∧ T' = T) := by
  refine acalls_of mixed t_sautoirref01_Reader_Left (by simp) ?_
  have hr : T id = .row 3 [bts b cap, .i .i64 (b.length - s.1.length : Nat), .b s.2] := h
  have hs1 := hs.1
  unfold s_sautoirref01_Reader_Left
  rcases hb : s.2 with _ | _
  · have w : IntKind.i64.wrap ((b.length : Int) - ((b.length - s.1.length : Nat) : Int)) = (s.1.length : Int) := (wrap_i64 (by unfold I64; omega)).trans (by omega)
    simp -implicitDefEqProofs -dsimp only [go_sem, Nat.reduceEqDiff, Nat.reduceAdd, Nat.reduceMul, Nat.reduceSub, Nat.reduceLT, Nat.reduceLeDiff, Nat.reduceBEq, reduceIte, reduceCtorEq, Int.reduceLT, Int.reduceLE, Int.reduceEq, Int.reduceNeg, Int.reduceToNat, Int.reduceAdd, Int.reduceSub, hr, hb, w]
    exact fin_as (.refl _) rfl
  · simp -implicitDefEqProofs -dsimp only [go_sem, Nat.reduceEqDiff, Nat.reduceAdd, Nat.reduceMul, Nat.reduceSub, Nat.reduceLT, Nat.reduceLeDiff, Nat.reduceBEq, reduceIte, reduceCtorEq, Int.reduceLT, Int.reduceLE, Int.reduceEq, Int.reduceNeg, Int.reduceToNat, Int.reduceAdd, Int.reduceSub, hr, hb]
    exact fin_as (.refl _) rfl
end Go.Aw
