import Derived.Test.YtnkagdjmjakeiaaB22P
namespace Go.Aw
open Go
open Go.Proofs.Try (prog)
set_option linter.all false
set_option maxHeartbeats 4000000

theorem flat_take {α : Type} {f : α → List AV} {z : Nat} (hf : ∀ x, (f x).length = z) : ∀ (l : List α) (k : Nat), (l.flatMap f).take (k * z) = (l.take k).flatMap f
  | l, 0 => by simp
  | [], k + 1 => by simp
  | a :: l, k + 1 => by
    rw [List.flatMap_cons, List.take_succ_cons, List.flatMap_cons, ← flat_take hf l k, show (k + 1) * z = (f a).length + k * z by rw [hf, Nat.add_mul]; omega, List.take_length_add_append]
def shortE (es : List Ev) : List Ev := es.take 60
theorem pc_short (es : List Ev) (cap : Option Nat) (hl : Len es.length) : PCalls prog f_sautoirlaw22_short [.fz es.length (es.flatMap evC) cap] (.fz (shortE es).length ((shortE es).flatMap evC) none) := by
  refine pcalls_of mixed t_sautoirlaw22_short (by simp) fun T => ?_
  unfold s_sautoirlaw22_short
  simp -implicitDefEqProofs -dsimp only [go_sem, Nat.reduceEqDiff, Nat.reduceAdd, Nat.reduceMul, Nat.reduceSub, Nat.reduceLT, Nat.reduceLeDiff, Nat.reduceBEq, reduceIte, reduceCtorEq, Int.reduceLT, Int.reduceLE, Int.reduceEq, Int.reduceNeg, Int.reduceToNat, Int.reduceAdd, Int.reduceSub]
  refine br_split (fun h => ?_) (fun h => ?_)
  · have h' := of_decide_eq_true h
    have h60 : 60 ≤ es.length := by omega
    simp -implicitDefEqProofs -dsimp only [go_sem, Nat.reduceEqDiff, Nat.reduceAdd, Nat.reduceMul, Nat.reduceSub, Nat.reduceLT, Nat.reduceLeDiff, Nat.reduceBEq, reduceIte, reduceCtorEq, Int.reduceLT, Int.reduceLE, Int.reduceEq, Int.reduceNeg, Int.reduceToNat, Int.reduceAdd, Int.reduceSub, h, h60]
    have e1 : (shortE es).length = 60 := by unfold shortE; rw [List.length_take]; omega
    have e2 : (es.flatMap evC).take 360 = (shortE es).flatMap evC := flat_take evC_len es 60
    rw [e1, e2]
    refine fin_as ?_ rfl
    exact Wk.fz
  · have h' := of_decide_eq_false h
    have e : shortE es = es := List.take_of_length_le (by omega)
    simp -implicitDefEqProofs -dsimp only [go_sem, Nat.reduceEqDiff, Nat.reduceAdd, Nat.reduceMul, Nat.reduceSub, Nat.reduceLT, Nat.reduceLeDiff, Nat.reduceBEq, reduceIte, reduceCtorEq, Int.reduceLT, Int.reduceLE, Int.reduceEq, Int.reduceNeg, Int.reduceToNat, Int.reduceAdd, Int.reduceSub, h]
    rw [e]
    refine fin_as ?_ rfl
    exact Wk.fz

/-! Nobody watches. -/
theorem pc_Tick_nil : PCalls prog f_beat_Watch_Tick [.nilptr] (.tup []) := by
  refine pcalls_of mixed t_beat_Watch_Tick (by simp) fun T => ?_
  unfold s_beat_Watch_Tick
  simp -implicitDefEqProofs -dsimp only [go_sem, Nat.reduceEqDiff, Nat.reduceAdd, Nat.reduceMul, Nat.reduceSub, Nat.reduceLT, Nat.reduceLeDiff, Nat.reduceBEq, reduceIte, reduceCtorEq, Int.reduceLT, Int.reduceLE, Int.reduceEq, Int.reduceNeg, Int.reduceToNat, Int.reduceAdd, Int.reduceSub]
  exact finL_pure rfl
theorem pc_Last_nil (n : Int) : PCalls prog f_beat_Watch_Last [.nilptr, .i .i64 n] (beR (Be.nil, false)) := by
  refine pcalls_of mixed t_beat_Watch_Last (by simp) fun T => ?_
  unfold s_beat_Watch_Last
  simp -implicitDefEqProofs -dsimp only [go_sem, Nat.reduceEqDiff, Nat.reduceAdd, Nat.reduceMul, Nat.reduceSub, Nat.reduceLT, Nat.reduceLeDiff, Nat.reduceBEq, reduceIte, reduceCtorEq, Int.reduceLT, Int.reduceLE, Int.reduceEq, Int.reduceNeg, Int.reduceToNat, Int.reduceAdd, Int.reduceSub]
  exact finL_pure rfl
theorem pc_Heard_nil (n : Int) (b : Be) : PCalls prog f_beat_Watch_Heard [.nilptr, .i .i64 n, .agg b.cells] (.i .i64 2) := by
  refine pcalls_of mixed t_beat_Watch_Heard (by simp) fun T => ?_
  unfold s_beat_Watch_Heard
  simp -implicitDefEqProofs -dsimp only [go_sem, Nat.reduceEqDiff, Nat.reduceAdd, Nat.reduceMul, Nat.reduceSub, Nat.reduceLT, Nat.reduceLeDiff, Nat.reduceBEq, reduceIte, reduceCtorEq, Int.reduceLT, Int.reduceLE, Int.reduceEq, Int.reduceNeg, Int.reduceToNat, Int.reduceAdd, Int.reduceSub, Be.cells]
  exact finL_pure rfl
theorem pc_Suspects_nil (n : Int) : PCalls prog f_beat_Watch_Suspects [.nilptr, .i .i64 n] (.b false) := by
  refine pcalls_of mixed t_beat_Watch_Suspects (by simp) fun T => ?_
  unfold s_beat_Watch_Suspects
  simp -implicitDefEqProofs -dsimp only [go_sem, Nat.reduceEqDiff, Nat.reduceAdd, Nat.reduceMul, Nat.reduceSub, Nat.reduceLT, Nat.reduceLeDiff, Nat.reduceBEq, reduceIte, reduceCtorEq, Int.reduceLT, Int.reduceLE, Int.reduceEq, Int.reduceNeg, Int.reduceToNat, Int.reduceAdd, Int.reduceSub]
  exact finL_pure rfl
theorem ac_Advice_nw (T : Tab) (oid : Nat) : ACalls prog f_beat_Advice [.ptr oid 0, .nilptr] T (fun r T' => r = adR 0 0 0 0 false ∧ T' = T) := by
  refine acalls_of mixed t_beat_Advice (by simp) ?_
  unfold s_beat_Advice
  simp -implicitDefEqProofs -dsimp only [go_sem, Nat.reduceEqDiff, Nat.reduceAdd, Nat.reduceMul, Nat.reduceSub, Nat.reduceLT, Nat.reduceLeDiff, Nat.reduceBEq, reduceIte, reduceCtorEq, Int.reduceLT, Int.reduceLE, Int.reduceEq, Int.reduceNeg, Int.reduceToNat, Int.reduceAdd, Int.reduceSub]
  exact finL_pure rfl
theorem ac_Advice_no (T : Tab) (wid : Nat) : ACalls prog f_beat_Advice [.nilptr, .ptr wid 0] T (fun r T' => r = adR 0 0 0 0 false ∧ T' = T) := by
  refine acalls_of mixed t_beat_Advice (by simp) ?_
  unfold s_beat_Advice
  simp -implicitDefEqProofs -dsimp only [go_sem, Nat.reduceEqDiff, Nat.reduceAdd, Nat.reduceMul, Nat.reduceSub, Nat.reduceLT, Nat.reduceLeDiff, Nat.reduceBEq, reduceIte, reduceCtorEq, Int.reduceLT, Int.reduceLE, Int.reduceEq, Int.reduceNeg, Int.reduceToNat, Int.reduceAdd, Int.reduceSub]
  exact finL_pure rfl

theorem pc_BeatNil (n : Int) : PCalls prog f_sautoirlaw22_BeatNil [.i .i64 n] (.b true) := by
  refine pcalls_of mixed t_sautoirlaw22_BeatNil (by simp) fun T => ?_
  have hN := ac_order_New (T0 := T) (S := 1) (L := 1) (v := 1) (by decide)
  have hH := pc_Heard_nil n Be.nil
  simp only [Be.cells, Be.nil] at hH
  simp only [stC] at hN
  unfold s_sautoirlaw22_BeatNil
  simp -implicitDefEqProofs -dsimp only [go_sem, Nat.reduceEqDiff, Nat.reduceAdd, Nat.reduceMul, Nat.reduceSub, Nat.reduceLT, Nat.reduceLeDiff, Nat.reduceBEq, reduceIte, reduceCtorEq, Int.reduceLT, Int.reduceLE, Int.reduceEq, Int.reduceNeg, Int.reduceToNat, Int.reduceAdd, Int.reduceSub, ↓g_call _ _ c_beat_Watch_Tick]
  refine CallK.pure pc_Tick_nil (aft_nil ?_)
  simp -implicitDefEqProofs -dsimp only [go_sem, Nat.reduceEqDiff, Nat.reduceAdd, Nat.reduceMul, Nat.reduceSub, Nat.reduceLT, Nat.reduceLeDiff, Nat.reduceBEq, reduceIte, reduceCtorEq, Int.reduceLT, Int.reduceLE, Int.reduceEq, Int.reduceNeg, Int.reduceToNat, Int.reduceAdd, Int.reduceSub, ↓g_call _ _ c_beat_Watch_Last]
  refine CallK.pure (pc_Last_nil n) (aft_nil ?_)
  simp -implicitDefEqProofs -dsimp only [go_sem, Nat.reduceEqDiff, Nat.reduceAdd, Nat.reduceMul, Nat.reduceSub, Nat.reduceLT, Nat.reduceLeDiff, Nat.reduceBEq, reduceIte, reduceCtorEq, Int.reduceLT, Int.reduceLE, Int.reduceEq, Int.reduceNeg, Int.reduceToNat, Int.reduceAdd, Int.reduceSub, beR, Be.cells, Be.nil, ↓g_call _ _ c_order_New]
  refine CallK.of hN (fun r T1 ⟨oid, vC, ps, e1, hoid, hps, how⟩ => aft_nil ?_)
  subst e1
  simp -implicitDefEqProofs -dsimp only [go_sem, Nat.reduceEqDiff, Nat.reduceAdd, Nat.reduceMul, Nat.reduceSub, Nat.reduceLT, Nat.reduceLeDiff, Nat.reduceBEq, reduceIte, reduceCtorEq, Int.reduceLT, Int.reduceLE, Int.reduceEq, Int.reduceNeg, Int.reduceToNat, Int.reduceAdd, Int.reduceSub, ↓g_call _ _ c_beat_Advice]
  refine CallK.as (ac_Advice_nw T1 oid) (aft_nil ?_)
  simp -implicitDefEqProofs -dsimp only [go_sem, Nat.reduceEqDiff, Nat.reduceAdd, Nat.reduceMul, Nat.reduceSub, Nat.reduceLT, Nat.reduceLeDiff, Nat.reduceBEq, reduceIte, reduceCtorEq, Int.reduceLT, Int.reduceLE, Int.reduceEq, Int.reduceNeg, Int.reduceToNat, Int.reduceAdd, Int.reduceSub, adR, ↓g_call _ _ c_beat_New]
  refine CallK.of (ac_bNew 3) (fun r T2 ⟨wid, e2, hwid, e3⟩ => aft_nil ?_)
  subst e2
  simp -implicitDefEqProofs -dsimp only [go_sem, Nat.reduceEqDiff, Nat.reduceAdd, Nat.reduceMul, Nat.reduceSub, Nat.reduceLT, Nat.reduceLeDiff, Nat.reduceBEq, reduceIte, reduceCtorEq, Int.reduceLT, Int.reduceLE, Int.reduceEq, Int.reduceNeg, Int.reduceToNat, Int.reduceAdd, Int.reduceSub, ↓g_call _ _ c_beat_Advice]
  refine CallK.as (ac_Advice_no T2 wid) (aft_nil ?_)
  simp -implicitDefEqProofs -dsimp only [go_sem, Nat.reduceEqDiff, Nat.reduceAdd, Nat.reduceMul, Nat.reduceSub, Nat.reduceLT, Nat.reduceLeDiff, Nat.reduceBEq, reduceIte, reduceCtorEq, Int.reduceLT, Int.reduceLE, Int.reduceEq, Int.reduceNeg, Int.reduceToNat, Int.reduceAdd, Int.reduceSub, adR, ↓g_call _ _ c_beat_Watch_Heard]
  refine CallK.pure hH (aft_nil ?_)
  simp -implicitDefEqProofs -dsimp only [go_sem, Nat.reduceEqDiff, Nat.reduceAdd, Nat.reduceMul, Nat.reduceSub, Nat.reduceLT, Nat.reduceLeDiff, Nat.reduceBEq, reduceIte, reduceCtorEq, Int.reduceLT, Int.reduceLE, Int.reduceEq, Int.reduceNeg, Int.reduceToNat, Int.reduceAdd, Int.reduceSub, ↓g_gdc, rcOk, true_and, Bool.not_false, decide_true, ↓g_call _ _ c_beat_Watch_Suspects]
  refine CallK.pure (pc_Suspects_nil n) (aft_nil ?_)
  simp -implicitDefEqProofs -dsimp only [go_sem, Nat.reduceEqDiff, Nat.reduceAdd, Nat.reduceMul, Nat.reduceSub, Nat.reduceLT, Nat.reduceLeDiff, Nat.reduceBEq, reduceIte, reduceCtorEq, Int.reduceLT, Int.reduceLE, Int.reduceEq, Int.reduceNeg, Int.reduceToNat, Int.reduceAdd, Int.reduceSub, ↓g_gdc, rcOk, true_and, Bool.not_false, ↓g_call _ _ c_sautoirlaw22_awake]
  refine CallK.pure pc_awake (aft_nil ?_)
  simp -implicitDefEqProofs -dsimp only [go_sem, Nat.reduceEqDiff, Nat.reduceAdd, Nat.reduceMul, Nat.reduceSub, Nat.reduceLT, Nat.reduceLeDiff, Nat.reduceBEq, reduceIte, reduceCtorEq, Int.reduceLT, Int.reduceLE, Int.reduceEq, Int.reduceNeg, Int.reduceToNat, Int.reduceAdd, Int.reduceSub]
  have h1 : TabLe T T1 := fun j => by
    by_cases e : j = oid
    · subst e; exact .inl hoid
    · have := how.le j; rwa [Tab.put_ne _ _ e] at this
  subst e3
  exact (h1.put (h1.unused hwid)).fin

def b7 : Be := ⟨0, 7, false, 0⟩
theorem lp_Watches {R : RPost} (hR : ExtR R) {T : Tab} {m n : Int} {es : List Ev} {cap : Option Nat} {id wid : Nat} (hl : es.length ≤ 60) (hT : Wt T wid (clampW m) (watchW (clampW m) es)) (hw : WOk (clampW m) (watchW (clampW m) es)) : ∀ (j : Nat) (k : Int), k + j = 9 → -1 ≤ k →
    R (.exit 0) [(0, .i .i64 m), (1, .fz es.length (es.flatMap evC) cap), (2, .i .i64 n), (7, .ptr id 0), (14, .ptr wid 0), (15, .i .i64 9), (77, .b false)] [] T →
    AW prog sautoirlaw22_BeatWatches_l0 R [(0, .i .i64 m), (1, .fz es.length (es.flatMap evC) cap), (2, .i .i64 n), (7, .ptr id 0), (14, .ptr wid 0), (15, .i .i64 k)] [] T := by
  intro j
  induction j with
  | zero =>
    intro k hk hk1 h2
    have e : k = 9 := by omega
    subst e
    refine AW_loop hR ?_
    unfold sautoirlaw22_BeatWatches_l0b
    simp -implicitDefEqProofs -dsimp only [go_sem, Nat.reduceEqDiff, Nat.reduceAdd, Nat.reduceMul, Nat.reduceSub, Nat.reduceLT, Nat.reduceLeDiff, Nat.reduceBEq, reduceIte, reduceCtorEq, Int.reduceLT, Int.reduceLE, Int.reduceEq, Int.reduceNeg, Int.reduceToNat, Int.reduceAdd, Int.reduceSub]
    exact h2
  | succ j ih =>
    intro k hk hk1 h2
    have hlt : decide (k ≤ 8) = true := decide_eq_true (by omega)
    have hws : IntKind.i64.wrap (k + 1) = k + 1 := wrap_i64 (by unfold I64; omega)
    have c1 := ac_bSuspects hT hw k
    rw [sus_eq] at c1
    refine AW_loopD (l := sautoirlaw22_BeatWatches_l0) rfl hR ?_
    unfold sautoirlaw22_BeatWatches_l0b
    simp -implicitDefEqProofs -dsimp only [go_sem, Nat.reduceEqDiff, Nat.reduceAdd, Nat.reduceMul, Nat.reduceSub, Nat.reduceLT, Nat.reduceLeDiff, Nat.reduceBEq, reduceIte, reduceCtorEq, Int.reduceLT, Int.reduceLE, Int.reduceEq, Int.reduceNeg, Int.reduceToNat, Int.reduceAdd, Int.reduceSub, hlt, ↓g_call _ _ c_beat_Watch_Suspects]
    refine CallK.as c1 (aft_nil ?_)
    simp -implicitDefEqProofs -dsimp only [go_sem, Nat.reduceEqDiff, Nat.reduceAdd, Nat.reduceMul, Nat.reduceSub, Nat.reduceLT, Nat.reduceLeDiff, Nat.reduceBEq, reduceIte, reduceCtorEq, Int.reduceLT, Int.reduceLE, Int.reduceEq, Int.reduceNeg, Int.reduceToNat, Int.reduceAdd, Int.reduceSub, ↓g_call _ _ c_sautoirref22_Suspects]
    refine CallK.pure (pc_rSus es cap m k hl) (aft_nil ?_)
    simp -implicitDefEqProofs -dsimp only [go_sem, Nat.reduceEqDiff, Nat.reduceAdd, Nat.reduceMul, Nat.reduceSub, Nat.reduceLT, Nat.reduceLeDiff, Nat.reduceBEq, reduceIte, reduceCtorEq, Int.reduceLT, Int.reduceLE, Int.reduceEq, Int.reduceNeg, Int.reduceToNat, Int.reduceAdd, Int.reduceSub, hws]
    exact ih (k + 1) (by omega) (by omega) h2

theorem pc_BeatWatches (m : Int) (es : List Ev) (cap : Option Nat) (n : Int) (hl : Len es.length) : PCalls prog f_sautoirlaw22_BeatWatches [.i .i64 m, .fz es.length (es.flatMap evC) cap, .i .i64 n] (.b true) := by
  refine pcalls_of mixed t_sautoirlaw22_BeatWatches (by simp) fun T => ?_
  unfold s_sautoirlaw22_BeatWatches
  simp -implicitDefEqProofs -dsimp only [go_sem, Nat.reduceEqDiff, Nat.reduceAdd, Nat.reduceMul, Nat.reduceSub, Nat.reduceLT, Nat.reduceLeDiff, Nat.reduceBEq, reduceIte, reduceCtorEq, Int.reduceLT, Int.reduceLE, Int.reduceEq, Int.reduceNeg, Int.reduceToNat, Int.reduceAdd, Int.reduceSub, ↓g_call _ _ c_sautoirlaw22_short]
  refine CallK.pure (pc_short es cap hl) (aft_nil ?_)
  have h60 : (shortE es).length ≤ 60 := by unfold shortE; rw [List.length_take]; omega
  generalize shortE es = es at h60 ⊢
  have hl : Len es.length := by unfold Len; omega
  have hwo : WOk (clampW m) (watchW (clampW m) es) := WOk.fold (wok0 m)
  simp -implicitDefEqProofs -dsimp only [go_sem, Nat.reduceEqDiff, Nat.reduceAdd, Nat.reduceMul, Nat.reduceSub, Nat.reduceLT, Nat.reduceLeDiff, Nat.reduceBEq, reduceIte, reduceCtorEq, Int.reduceLT, Int.reduceLE, Int.reduceEq, Int.reduceNeg, Int.reduceToNat, Int.reduceAdd, Int.reduceSub, ↓g_call _ _ c_sautoirlaw22_Watch]
  refine CallK.of (ac_Watch es none m hl) (fun r T1 ⟨id, e1, hid, e2⟩ => aft_nil ?_)
  subst e1
  have hT1 : Wt T1 id (clampW m) (watchW (clampW m) es) := by subst e2; exact Tab.put_same ..
  have hle1 : TabLe T T1 := by subst e2; exact (TabLe.refl T).put hid
  have cL := ac_bLast hT1 hwo n
  rw [last_eq] at cL
  have cR := pc_rLast es none n hl
  obtain ⟨⟨x, hb⟩, hx⟩ : ∃ p, es.foldl (rlast n) (Be.nil, false) = p := ⟨_, rfl⟩
  rw [hx] at cL cR
  have cH := ac_bHeard hT1 hwo n b7
  have hT2 : Wt (T1.put id (.row 49 (waC (clampW m) (heardW (watchW (clampW m) es) n b7)))) id (clampW m) (heardW (watchW (clampW m) es) n b7) := Tab.put_same ..
  have hle2 : TabLe T (T1.put id (.row 49 (waC (clampW m) (heardW (watchW (clampW m) es) n b7)))) := hle1.put hid
  simp only [beR, Be.cells, b7] at cL cR cH
  simp -implicitDefEqProofs -dsimp only [go_sem, Nat.reduceEqDiff, Nat.reduceAdd, Nat.reduceMul, Nat.reduceSub, Nat.reduceLT, Nat.reduceLeDiff, Nat.reduceBEq, reduceIte, reduceCtorEq, Int.reduceLT, Int.reduceLE, Int.reduceEq, Int.reduceNeg, Int.reduceToNat, Int.reduceAdd, Int.reduceSub, ↓g_call _ _ c_beat_Watch_Last]
  refine CallK.as cL (aft_nil ?_)
  simp -implicitDefEqProofs -dsimp only [go_sem, Nat.reduceEqDiff, Nat.reduceAdd, Nat.reduceMul, Nat.reduceSub, Nat.reduceLT, Nat.reduceLeDiff, Nat.reduceBEq, reduceIte, reduceCtorEq, Int.reduceLT, Int.reduceLE, Int.reduceEq, Int.reduceNeg, Int.reduceToNat, Int.reduceAdd, Int.reduceSub, ↓g_call _ _ c_sautoirref22_Last]
  refine CallK.pure cR (aft_nil ?_)
  simp -implicitDefEqProofs -dsimp only [go_sem, Nat.reduceEqDiff, Nat.reduceAdd, Nat.reduceMul, Nat.reduceSub, Nat.reduceLT, Nat.reduceLeDiff, Nat.reduceBEq, reduceIte, reduceCtorEq, Int.reduceLT, Int.reduceLE, Int.reduceEq, Int.reduceNeg, Int.reduceToNat, Int.reduceAdd, Int.reduceSub, ↓g_call _ _ c_beat_Watch_Heard]
  refine CallK.as cH (aft_nil ?_)
  simp only [b7] at hT2 hle2
  generalize T1.put id (.row 49 (waC (clampW m) (heardW (watchW (clampW m) es) n ⟨0, 7, false, 0⟩))) = T2 at hT2 hle2 ⊢
  have hfacts : (decide (0 ≤ n) = true ∧ decide (n ≤ 7) = true ∧ srvW n = true) ∨ (decide (0 ≤ n) = true ∧ decide (n ≤ 7) = false ∧ srvW n = false) ∨ (decide (0 ≤ n) = false ∧ srvW n = false) := by
    by_cases a : 0 ≤ n
    · by_cases b : n ≤ 7
      · exact .inl ⟨decide_eq_true a, decide_eq_true b, by simp [srvW]; omega⟩
      · exact .inr (.inl ⟨decide_eq_true a, decide_eq_false b, by simp [srvW]; omega⟩)
    · exact .inr (.inr ⟨decide_eq_false a, by simp [srvW]; omega⟩)
  rcases hfacts with ⟨d1, d2, d3⟩ | ⟨d1, d2, d3⟩ | ⟨d1, d3⟩
  case' inl => simp -implicitDefEqProofs -dsimp only [go_sem, Nat.reduceEqDiff, Nat.reduceAdd, Nat.reduceMul, Nat.reduceSub, Nat.reduceLT, Nat.reduceLeDiff, Nat.reduceBEq, reduceIte, reduceCtorEq, Int.reduceLT, Int.reduceLE, Int.reduceEq, Int.reduceNeg, Int.reduceToNat, Int.reduceAdd, Int.reduceSub, d1, d2, d3, aggEq, scalarEq, eq_self, decide_true, decide_false, Bool.and_self, Bool.not_true, Bool.not_false, beq_self_eq_true, ↓g_call _ _ c_sautoirlaw22_Watch]
  case' inr.inl => simp -implicitDefEqProofs -dsimp only [go_sem, Nat.reduceEqDiff, Nat.reduceAdd, Nat.reduceMul, Nat.reduceSub, Nat.reduceLT, Nat.reduceLeDiff, Nat.reduceBEq, reduceIte, reduceCtorEq, Int.reduceLT, Int.reduceLE, Int.reduceEq, Int.reduceNeg, Int.reduceToNat, Int.reduceAdd, Int.reduceSub, d1, d2, d3, aggEq, scalarEq, eq_self, decide_true, decide_false, Bool.and_self, Bool.not_true, Bool.not_false, beq_self_eq_true, ↓g_call _ _ c_sautoirlaw22_Watch]
  case' inr.inr => simp -implicitDefEqProofs -dsimp only [go_sem, Nat.reduceEqDiff, Nat.reduceAdd, Nat.reduceMul, Nat.reduceSub, Nat.reduceLT, Nat.reduceLeDiff, Nat.reduceBEq, reduceIte, reduceCtorEq, Int.reduceLT, Int.reduceLE, Int.reduceEq, Int.reduceNeg, Int.reduceToNat, Int.reduceAdd, Int.reduceSub, d1, d3, aggEq, scalarEq, eq_self, decide_true, decide_false, Bool.and_self, Bool.not_true, Bool.not_false, beq_self_eq_true, ↓g_call _ _ c_sautoirlaw22_Watch]
  all_goals
    refine CallK.of (ac_Watch es none m hl) (fun r T3 ⟨wid, e3, hwid, e4⟩ => aft_nil ?_)
    subst e3
    have hT3 : Wt T3 wid (clampW m) (watchW (clampW m) es) := by subst e4; exact Tab.put_same ..
    have hle3 : TabLe T T3 := by subst e4; exact hle2.put (hle2.unused hwid)
    have hT4 : Wt T3 id (clampW m) (heardW (watchW (clampW m) es) n ⟨0, 7, false, 0⟩) := by
      subst e4; unfold Wt; rw [Tab.put_ne _ _ (fun e => by subst e; rw [hT2] at hwid; cases hwid)]; exact hT2
    have cS := ac_bSuspects hT4 (hwo.heard n ⟨0, 7, false, 0⟩) n
    rw [sus_heard (clampW_le m).1 hwo.n] at cS
    simp -implicitDefEqProofs -dsimp only [go_sem, Nat.reduceEqDiff, Nat.reduceAdd, Nat.reduceMul, Nat.reduceSub, Nat.reduceLT, Nat.reduceLeDiff, Nat.reduceBEq, reduceIte, reduceCtorEq, Int.reduceLT, Int.reduceLE, Int.reduceEq, Int.reduceNeg, Int.reduceToNat, Int.reduceAdd, Int.reduceSub]
    refine lp_Watches (by repeat' (first | exact finX_ext _ _ | assumption | apply blkR_ext | apply thenR_ext | apply AW_ext)) h60 hT3 hwo 10 (-1) (by omega) (by omega) ?_
    simp -implicitDefEqProofs -dsimp only [go_sem, Nat.reduceEqDiff, Nat.reduceAdd, Nat.reduceMul, Nat.reduceSub, Nat.reduceLT, Nat.reduceLeDiff, Nat.reduceBEq, reduceIte, reduceCtorEq, Int.reduceLT, Int.reduceLE, Int.reduceEq, Int.reduceNeg, Int.reduceToNat, Int.reduceAdd, Int.reduceSub, ↓g_call _ _ c_beat_Watch_Suspects]
    refine CallK.as cS (aft_nil ?_)
    simp -implicitDefEqProofs -dsimp only [go_sem, Nat.reduceEqDiff, Nat.reduceAdd, Nat.reduceMul, Nat.reduceSub, Nat.reduceLT, Nat.reduceLeDiff, Nat.reduceBEq, reduceIte, reduceCtorEq, Int.reduceLT, Int.reduceLE, Int.reduceEq, Int.reduceNeg, Int.reduceToNat, Int.reduceAdd, Int.reduceSub, ↓g_gdc, rcOk, true_and, Bool.not_false, ↓g_call _ _ c_sautoirlaw22_awake]
    refine CallK.pure pc_awake (aft_nil ?_)
    simp -implicitDefEqProofs -dsimp only [go_sem, Nat.reduceEqDiff, Nat.reduceAdd, Nat.reduceMul, Nat.reduceSub, Nat.reduceLT, Nat.reduceLeDiff, Nat.reduceBEq, reduceIte, reduceCtorEq, Int.reduceLT, Int.reduceLE, Int.reduceEq, Int.reduceNeg, Int.reduceToNat, Int.reduceAdd, Int.reduceSub]
    exact hle3.fin
end Go.Aw
