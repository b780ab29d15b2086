import Derived.Test.YtfphinopblfacaaGreatDoorH21G21E
import Derived.Test.YtfphinopblfacaaGreatDoorH21O16E
import Derived.Test.YtfphinopblfacaaGreatDoorH21T16Q
namespace Go.Aw
open Go
open Go.Proofs.Tryz (prog)
set_option linter.all false
set_option maxHeartbeats 4000000

theorem ac_oN {T : Tab} {id idC : Nat} {o : Os} (hR : St T id idC o) : ACalls prog f_order_State_N [.ptr id 0] T (fun r T' => r = .i .i64 o.n ∧ T' = T) := by
  obtain ⟨t1, t2⟩ := hR
  rw [Os.row] at t1
  refine acalls_of mixed t_order_State_N (by simp) ?_
  unfold s_order_State_N
  simp -implicitDefEqProofs -dsimp only [go_sem, Nat.reduceEqDiff, Nat.reduceAdd, Nat.reduceMul, Nat.reduceSub, Nat.reduceLT, Nat.reduceLeDiff, Nat.reduceBEq, reduceIte, reduceCtorEq, Int.reduceLT, Int.reduceLE, Int.reduceEq, Int.reduceNeg, Int.reduceToNat, Int.reduceAdd, Int.reduceSub, t1]
  exact fin_as (.refl _) rfl
theorem ac_oCounter {T : Tab} {id idC : Nat} {o : Os} (hR : St T id idC o) : ACalls prog f_order_State_Counter [.ptr id 0] T (fun r T' => r = .i .u64 o.ct ∧ T' = T) := by
  obtain ⟨t1, t2⟩ := hR
  rw [Os.row] at t1
  refine acalls_of mixed t_order_State_Counter (by simp) ?_
  unfold s_order_State_Counter
  simp -implicitDefEqProofs -dsimp only [go_sem, Nat.reduceEqDiff, Nat.reduceAdd, Nat.reduceMul, Nat.reduceSub, Nat.reduceLT, Nat.reduceLeDiff, Nat.reduceBEq, reduceIte, reduceCtorEq, Int.reduceLT, Int.reduceLE, Int.reduceEq, Int.reduceNeg, Int.reduceToNat, Int.reduceAdd, Int.reduceSub, t1]
  exact fin_as (.refl _) rfl
theorem ac_oSetup {T : Tab} {id idC : Nat} {o : Os} (hR : St T id idC o) : ACalls prog f_order_State_Setup [.ptr id 0] T (fun r T' => r = .agg (stC o.s o.l o.v) ∧ T' = T) := by
  obtain ⟨t1, t2⟩ := hR
  rw [Os.row] at t1
  refine acalls_of mixed t_order_State_Setup (by simp) ?_
  unfold s_order_State_Setup
  simp -implicitDefEqProofs -dsimp only [go_sem, Nat.reduceEqDiff, Nat.reduceAdd, Nat.reduceMul, Nat.reduceSub, Nat.reduceLT, Nat.reduceLeDiff, Nat.reduceBEq, reduceIte, reduceCtorEq, Int.reduceLT, Int.reduceLE, Int.reduceEq, Int.reduceNeg, Int.reduceToNat, Int.reduceAdd, Int.reduceSub, t1]
  exact fin_as (.refl _) rfl
def Os.spare (o : Os) (n : Int) : Bool := decide (0 ≤ n) && decide (n < o.v) && !o.cs.any (·.has n)
theorem ac_oSpare {T : Tab} {id idC : Nat} {o : Os} (hR : St T id idC o) (hl : Len o.cs.length) (hs : ∀ c ∈ o.cs, Small c) (n : Int) : ACalls prog f_order_State_Spare [.ptr id 0, .i .i64 n] T (fun r T' => r = .b (o.spare n) ∧ T' = T) := by
  have cT := ac_taken hR hl hs n
  obtain ⟨t1, t2⟩ := hR
  rw [Os.row] at t1
  refine acalls_of mixed t_order_State_Spare (by simp) ?_
  unfold s_order_State_Spare
  rw [Os.spare]
  rcases h1 : decide (0 ≤ n) with _ | _
  · simp -implicitDefEqProofs -dsimp only [go_sem, Nat.reduceEqDiff, Nat.reduceAdd, Nat.reduceMul, Nat.reduceSub, Nat.reduceLT, Nat.reduceLeDiff, Nat.reduceBEq, reduceIte, reduceCtorEq, Int.reduceLT, Int.reduceLE, Int.reduceEq, Int.reduceNeg, Int.reduceToNat, Int.reduceAdd, Int.reduceSub, h1, ↓g_gdc, rcOk, true_and, decide_true, decide_false]
    exact fin_as (.refl _) rfl
  rcases h2 : decide (n < o.v) with _ | _
  · simp -implicitDefEqProofs -dsimp only [go_sem, Nat.reduceEqDiff, Nat.reduceAdd, Nat.reduceMul, Nat.reduceSub, Nat.reduceLT, Nat.reduceLeDiff, Nat.reduceBEq, reduceIte, reduceCtorEq, Int.reduceLT, Int.reduceLE, Int.reduceEq, Int.reduceNeg, Int.reduceToNat, Int.reduceAdd, Int.reduceSub, h1, h2, t1, ↓g_gdc, rcOk, true_and, decide_true, decide_false]
    exact fin_as (.refl _) rfl
  simp -implicitDefEqProofs -dsimp only [go_sem, Nat.reduceEqDiff, Nat.reduceAdd, Nat.reduceMul, Nat.reduceSub, Nat.reduceLT, Nat.reduceLeDiff, Nat.reduceBEq, reduceIte, reduceCtorEq, Int.reduceLT, Int.reduceLE, Int.reduceEq, Int.reduceNeg, Int.reduceToNat, Int.reduceAdd, Int.reduceSub, h1, h2, t1, ↓g_gdc, rcOk, true_and, decide_true, decide_false, ↓g_call _ _ c_order_State_taken]
  refine CallK.as cT (aft_nil ?_)
  simp -implicitDefEqProofs -dsimp only [go_sem, Nat.reduceEqDiff, Nat.reduceAdd, Nat.reduceMul, Nat.reduceSub, Nat.reduceLT, Nat.reduceLeDiff, Nat.reduceBEq, reduceIte, reduceCtorEq, Int.reduceLT, Int.reduceLE, Int.reduceEq, Int.reduceNeg, Int.reduceToNat, Int.reduceAdd, Int.reduceSub]
  exact fin_as (.refl _) rfl

theorem lp_oConfs {R : RPost} (hR : ExtR R) {T : Tab} {idC : Nat} {cs : List Cf} (hC : T idC = .row 5 (cfsC cs)) (hl : cs.length ≤ 1000000) (hs : ∀ c ∈ cs, Small c) : ∀ (ys : List Cf) (k : Nat), cs.drop k = ys → k ≤ cs.length → ∀ (v : AV) (T1 : Tab), Own T 5 v k (cfsC (cs.take k)) T1 →
    (∀ v T1, Own T 5 v cs.length (cfsC cs) T1 → R (.exit 0) [(3, v), (11, .sl idC 0 cs.length none), (12, .i .i64 cs.length), (13, .i .i64 cs.length), (14, .b false)] [] T1) →
    AW prog order_State_Confs_l0 R [(3, v), (11, .sl idC 0 cs.length none), (12, .i .i64 cs.length), (13, .i .i64 k)] [] T1 := by
  intro ys
  induction ys with
  | nil =>
    intro k hk hle v T1 ho h2
    have hk' := drop_nil hk hle
    obtain ⟨p1, p2, p3, p4, p5, p6⟩ := ho.form
    refine AW_loop hR ?_
    unfold order_State_Confs_l0b
    rw [← hk', List.take_length] at ho
    have h2 := h2 v T1 ho
    rw [hk'] at h2
    simp -implicitDefEqProofs -dsimp only [go_sem, Nat.reduceEqDiff, Nat.reduceAdd, Nat.reduceMul, Nat.reduceSub, Nat.reduceLT, Nat.reduceLeDiff, Nat.reduceBEq, reduceIte, reduceCtorEq, Int.reduceLT, Int.reduceLE, Int.reduceEq, Int.reduceNeg, Int.reduceToNat, Int.reduceAdd, Int.reduceSub, hk', Int.lt_irrefl, p1, p2, p3, p4, p5, p6]
    exact h2
  | cons y ys ih =>
    intro k hk hle v T1 ho h2
    obtain ⟨hlt, hy, hk'⟩ := drop_lt hk
    have hws : IntKind.i64.wrap ((k : Int) + 1) = ((k + 1 : Nat) : Int) := wrap_succ (by omega)
    obtain ⟨p1, p2, p3, p4, p5, p6⟩ := ho.form
    have hC1 : T1 idC = .row 5 (cfsC cs) := by rw [ho.at (by rw [hC]; simp), hC]
    have hcell := cfsC_at hy
    have hlen : k * 5 + 5 ≤ (cfsC cs).length := by rw [cfsC_length]; omega
    have hsy := hs y (List.mem_of_getElem? hy)
    have cC := pc_ocopied y none none hsy.1 hsy.2
    simp only [Cf.cells] at cC
    refine AW_loopD (l := order_State_Confs_l0) rfl hR ?_
    unfold order_State_Confs_l0b
    simp -implicitDefEqProofs -dsimp only [go_sem, Nat.reduceEqDiff, Nat.reduceAdd, Nat.reduceMul, Nat.reduceSub, Nat.reduceLT, Nat.reduceLeDiff, Nat.reduceBEq, reduceIte, reduceCtorEq, Int.reduceLT, Int.reduceLE, Int.reduceEq, Int.reduceNeg, Int.reduceToNat, Int.reduceAdd, Int.reduceSub, Int.ofNat_lt, hlt, Int.natCast_nonneg, Int.toNat_natCast, hC1, hlen, hcell, Cf.cells, List.cons_append, List.nil_append, p1, p2, p3, p4, p5, p6, ↓g_call _ _ c_order_copied]
    refine CallK.pure cC (aft_nil ?_)
    simp -implicitDefEqProofs -dsimp only [go_sem, Nat.reduceEqDiff, Nat.reduceAdd, Nat.reduceMul, Nat.reduceSub, Nat.reduceLT, Nat.reduceLeDiff, Nat.reduceBEq, reduceIte, reduceCtorEq, Int.reduceLT, Int.reduceLE, Int.reduceEq, Int.reduceNeg, Int.reduceToNat, Int.reduceAdd, Int.reduceSub, p1, p2, p3, p4, p5, p6]
    refine ho.app (m := 1) (news := y.cells none none) (by simp [slCells, Cf.cells]) rfl (by omega) (by omega) fun v' T2 ho2 => aft_nil ?_
    obtain ⟨p1, p2, p3, p4, p5, p6⟩ := ho2.form
    simp -implicitDefEqProofs -dsimp only [go_sem, Nat.reduceEqDiff, Nat.reduceAdd, Nat.reduceMul, Nat.reduceSub, Nat.reduceLT, Nat.reduceLeDiff, Nat.reduceBEq, reduceIte, reduceCtorEq, Int.reduceLT, Int.reduceLE, Int.reduceEq, Int.reduceNeg, Int.reduceToNat, Int.reduceAdd, Int.reduceSub, p1, p2, p3, p4, p5, p6, hws]
    refine ih (k + 1) hk' hlt v' T2 ?_ h2
    rw [take_succ_eq hy, cfsC_append]
    simpa [cfsC] using ho2
theorem ac_oConfs {T : Tab} {id idC : Nat} {o : Os} (hR : St T id idC o) (hl : o.cs.length ≤ 1000000) (hs : ∀ c ∈ o.cs, Small c) : ACalls prog f_order_State_Confs [.ptr id 0] T (fun r T' => r = .fz o.cs.length (cfsC o.cs) none ∧ T' = T) := by
  obtain ⟨t1, t2⟩ := hR
  rw [Os.row] at t1
  refine acalls_of mixed t_order_State_Confs (by simp) ?_
  unfold s_order_State_Confs
  simp -implicitDefEqProofs -dsimp only [go_sem, Nat.reduceEqDiff, Nat.reduceAdd, Nat.reduceMul, Nat.reduceSub, Nat.reduceLT, Nat.reduceLeDiff, Nat.reduceBEq, reduceIte, reduceCtorEq, Int.reduceLT, Int.reduceLE, Int.reduceEq, Int.reduceNeg, Int.reduceToNat, Int.reduceAdd, Int.reduceSub, t1]
  refine lp_oConfs (T := T) (cs := o.cs) (by repeat' (first | exact finX_ext _ _ | assumption | apply blkR_ext | apply thenR_ext | apply AW_ext)) t2 hl hs o.cs 0 rfl (Nat.zero_le _) _ T (Own.nil T 5) (fun v T1 ho => ?_)
  obtain ⟨p1, p2, p3, p4, p5, p6⟩ := ho.form
  simp -implicitDefEqProofs -dsimp only [go_sem, Nat.reduceEqDiff, Nat.reduceAdd, Nat.reduceMul, Nat.reduceSub, Nat.reduceLT, Nat.reduceLeDiff, Nat.reduceBEq, reduceIte, reduceCtorEq, Int.reduceLT, Int.reduceLE, Int.reduceEq, Int.reduceNeg, Int.reduceToNat, Int.reduceAdd, Int.reduceSub, p1, p2, p3, p4, p5, p6]
  exact ho.fzn

/-! Changes. -/
def Os.chg (o : Os) (c : Cm) (old : Cf) : Cf × Int := if c.k = 1 then old.remove c.nd (IntKind.u64.wrap (o.ct + 1)) else if c.k = 2 then old.learn c.nd (IntKind.u64.wrap (o.ct + 1)) else if c.k = 3 then old.promote c.nd (IntKind.u64.wrap (o.ct + 1)) else old.mark c.nd
theorem ac_change {T : Tab} {id idC : Nat} {o : Os} (hR : St T id idC o) (c : Cm) (old : Cf) (hl : Len old.ch.length) : ACalls prog f_order_State_change [.ptr id 0, .agg c.cells, .agg (old.cells none none)] T (fun r T' => r = Cf.ret (o.chg c old) ∧ T' = T) := by
  obtain ⟨t1, t2⟩ := hR
  rw [Os.row] at t1
  refine acalls_of mixed t_order_State_change (by simp) ?_
  have c1 := pc_Remove old none none c.nd (IntKind.u64.wrap (o.ct + 1)) hl
  have c2 := pc_Learn old none none c.nd (IntKind.u64.wrap (o.ct + 1)) hl
  have c3 := pc_Promote old none none c.nd (IntKind.u64.wrap (o.ct + 1)) hl
  have c4 := pc_Mark old none none c.nd hl
  simp only [Cf.cells, Cf.ret] at c1 c2 c3 c4
  unfold s_order_State_change
  rw [Os.chg]
  by_cases h1 : c.k = 1
  · rw [if_pos h1]
    simp -implicitDefEqProofs -dsimp only [go_sem, Nat.reduceEqDiff, Nat.reduceAdd, Nat.reduceMul, Nat.reduceSub, Nat.reduceLT, Nat.reduceLeDiff, Nat.reduceBEq, reduceIte, reduceCtorEq, Int.reduceLT, Int.reduceLE, Int.reduceEq, Int.reduceNeg, Int.reduceToNat, Int.reduceAdd, Int.reduceSub, Cm.cells, Cf.cells, h1, decide_true, t1, ↓g_call _ _ c_conf_Remove]
    refine CallK.pure c1 (aft_nil ?_)
    simp -implicitDefEqProofs -dsimp only [go_sem, Nat.reduceEqDiff, Nat.reduceAdd, Nat.reduceMul, Nat.reduceSub, Nat.reduceLT, Nat.reduceLeDiff, Nat.reduceBEq, reduceIte, reduceCtorEq, Int.reduceLT, Int.reduceLE, Int.reduceEq, Int.reduceNeg, Int.reduceToNat, Int.reduceAdd, Int.reduceSub]
    exact fin_as (.refl _) rfl
  have d1 : decide (c.k = 1) = false := decide_eq_false h1
  rw [if_neg h1]
  by_cases h2 : c.k = 2
  · rw [if_pos h2]
    rw [h2] at d1
    simp -implicitDefEqProofs -dsimp only [go_sem, Nat.reduceEqDiff, Nat.reduceAdd, Nat.reduceMul, Nat.reduceSub, Nat.reduceLT, Nat.reduceLeDiff, Nat.reduceBEq, reduceIte, reduceCtorEq, Int.reduceLT, Int.reduceLE, Int.reduceEq, Int.reduceNeg, Int.reduceToNat, Int.reduceAdd, Int.reduceSub, Cm.cells, Cf.cells, d1, h2, decide_true, t1, ↓g_call _ _ c_conf_Learn]
    refine CallK.pure c2 (aft_nil ?_)
    simp -implicitDefEqProofs -dsimp only [go_sem, Nat.reduceEqDiff, Nat.reduceAdd, Nat.reduceMul, Nat.reduceSub, Nat.reduceLT, Nat.reduceLeDiff, Nat.reduceBEq, reduceIte, reduceCtorEq, Int.reduceLT, Int.reduceLE, Int.reduceEq, Int.reduceNeg, Int.reduceToNat, Int.reduceAdd, Int.reduceSub]
    exact fin_as (.refl _) rfl
  have d2 : decide (c.k = 2) = false := decide_eq_false h2
  rw [if_neg h2]
  by_cases h3 : c.k = 3
  · rw [if_pos h3]
    rw [h3] at d1 d2
    simp -implicitDefEqProofs -dsimp only [go_sem, Nat.reduceEqDiff, Nat.reduceAdd, Nat.reduceMul, Nat.reduceSub, Nat.reduceLT, Nat.reduceLeDiff, Nat.reduceBEq, reduceIte, reduceCtorEq, Int.reduceLT, Int.reduceLE, Int.reduceEq, Int.reduceNeg, Int.reduceToNat, Int.reduceAdd, Int.reduceSub, Cm.cells, Cf.cells, d1, d2, h3, decide_true, t1, ↓g_call _ _ c_conf_Promote]
    refine CallK.pure c3 (aft_nil ?_)
    simp -implicitDefEqProofs -dsimp only [go_sem, Nat.reduceEqDiff, Nat.reduceAdd, Nat.reduceMul, Nat.reduceSub, Nat.reduceLT, Nat.reduceLeDiff, Nat.reduceBEq, reduceIte, reduceCtorEq, Int.reduceLT, Int.reduceLE, Int.reduceEq, Int.reduceNeg, Int.reduceToNat, Int.reduceAdd, Int.reduceSub]
    exact fin_as (.refl _) rfl
  have d3 : decide (c.k = 3) = false := decide_eq_false h3
  rw [if_neg h3]
  simp -implicitDefEqProofs -dsimp only [go_sem, Nat.reduceEqDiff, Nat.reduceAdd, Nat.reduceMul, Nat.reduceSub, Nat.reduceLT, Nat.reduceLeDiff, Nat.reduceBEq, reduceIte, reduceCtorEq, Int.reduceLT, Int.reduceLE, Int.reduceEq, Int.reduceNeg, Int.reduceToNat, Int.reduceAdd, Int.reduceSub, Cm.cells, Cf.cells, d1, d2, d3, t1, ↓g_call _ _ c_conf_Mark]
  refine CallK.pure c4 (aft_nil ?_)
  simp -implicitDefEqProofs -dsimp only [go_sem, Nat.reduceEqDiff, Nat.reduceAdd, Nat.reduceMul, Nat.reduceSub, Nat.reduceLT, Nat.reduceLeDiff, Nat.reduceBEq, reduceIte, reduceCtorEq, Int.reduceLT, Int.reduceLE, Int.reduceEq, Int.reduceNeg, Int.reduceToNat, Int.reduceAdd, Int.reduceSub]
  exact fin_as (.refl _) rfl
def Os.do (o : Os) (c : Cm) : Os × Int :=
  match at? o.cs c.sh with
  | none => (o, 1)
  | some old =>
    if o.v ≤ c.nd then (o, 1) else if ¬ c.ep = old.ep then (o, 8) else if ¬ c.k = 4 ∧ o.ct = 18446744073709551615 then (o, 9) else
    if c.k = 2 ∧ o.cs.any (·.has c.nd) = true then (o, 7) else
    if ¬ (o.chg c old).2 = 0 then (o, (o.chg c old).2) else
    ({ o with cs := o.cs.set c.sh.toNat (o.chg c old).1, ct := if c.k = 4 then o.ct else IntKind.u64.wrap (o.ct + 1) }, 0)
theorem ac_do {T : Tab} {id idC : Nat} {o : Os} (hR : St T id idC o) (hl : Len o.cs.length) (hs : ∀ c ∈ o.cs, Small c) (c : Cm) : ACalls prog f_order_State_do [.ptr id 0, .agg c.cells] T (fun r T' => r = .i .i64 (o.do c).2 ∧ T' = oT T id idC (o.do c).1) := by
  have hne := hR.ne
  have hself := oT_self hR
  have cC := ac_oConf hR hs c.sh
  have cT := ac_taken hR hl hs c.nd
  have cG := fun old h => ac_change hR c old h
  obtain ⟨t1, t2⟩ := hR
  rw [Os.row] at t1
  refine acalls_of mixed t_order_State_do (by simp) ?_
  unfold s_order_State_do
  rw [Os.do]
  unfold cfR at cC
  have fin0 : ∀ e : Int, finL (.i .i64 e) (fun r T' => r = .i .i64 e ∧ T' = oT T id idC o) T := fun e => by rw [hself]; exact fin_as (.refl _) rfl
  rcases hat : at? o.cs c.sh with _ | old
  · rw [hat] at cC
    simp -implicitDefEqProofs -dsimp only [go_sem, Nat.reduceEqDiff, Nat.reduceAdd, Nat.reduceMul, Nat.reduceSub, Nat.reduceLT, Nat.reduceLeDiff, Nat.reduceBEq, reduceIte, reduceCtorEq, Int.reduceLT, Int.reduceLE, Int.reduceEq, Int.reduceNeg, Int.reduceToNat, Int.reduceAdd, Int.reduceSub, Cm.cells, ↓g_call _ _ c_order_State_Conf]
    refine CallK.as cC (aft_nil ?_)
    simp -implicitDefEqProofs -dsimp only [go_sem, Nat.reduceEqDiff, Nat.reduceAdd, Nat.reduceMul, Nat.reduceSub, Nat.reduceLT, Nat.reduceLeDiff, Nat.reduceBEq, reduceIte, reduceCtorEq, Int.reduceLT, Int.reduceLE, Int.reduceEq, Int.reduceNeg, Int.reduceToNat, Int.reduceAdd, Int.reduceSub, Cf.cells, Bool.not_false, ↓g_gdc, rcOk, true_and, decide_true, decide_false]
    exact fin0 1
  rw [hat] at cC
  simp only
  have hlt : 0 ≤ c.sh ∧ o.cs[c.sh.toNat]? = some old := by
    unfold at? at hat
    split at hat
    · exact ⟨by assumption, hat⟩
    · cases hat
  have hold := hs old (List.mem_of_getElem? hlt.2)
  simp -implicitDefEqProofs -dsimp only [go_sem, Nat.reduceEqDiff, Nat.reduceAdd, Nat.reduceMul, Nat.reduceSub, Nat.reduceLT, Nat.reduceLeDiff, Nat.reduceBEq, reduceIte, reduceCtorEq, Int.reduceLT, Int.reduceLE, Int.reduceEq, Int.reduceNeg, Int.reduceToNat, Int.reduceAdd, Int.reduceSub, Cm.cells, ↓g_call _ _ c_order_State_Conf]
  refine CallK.as cC (aft_nil ?_)
  by_cases h1 : o.v ≤ c.nd
  · have d1 : decide (o.v ≤ c.nd) = true := decide_eq_true h1
    rw [if_pos h1]
    simp -implicitDefEqProofs -dsimp only [go_sem, Nat.reduceEqDiff, Nat.reduceAdd, Nat.reduceMul, Nat.reduceSub, Nat.reduceLT, Nat.reduceLeDiff, Nat.reduceBEq, reduceIte, reduceCtorEq, Int.reduceLT, Int.reduceLE, Int.reduceEq, Int.reduceNeg, Int.reduceToNat, Int.reduceAdd, Int.reduceSub, Cf.cells, d1, t1, Bool.not_true, ↓g_gdc, rcOk, true_and, decide_true, decide_false]
    exact fin0 1
  have d1 : decide (o.v ≤ c.nd) = false := decide_eq_false h1
  rw [if_neg h1]
  by_cases h2 : ¬ c.ep = old.ep
  · have d2 : decide (c.ep = old.ep) = false := decide_eq_false h2
    rw [if_pos h2]
    simp -implicitDefEqProofs -dsimp only [go_sem, Nat.reduceEqDiff, Nat.reduceAdd, Nat.reduceMul, Nat.reduceSub, Nat.reduceLT, Nat.reduceLeDiff, Nat.reduceBEq, reduceIte, reduceCtorEq, Int.reduceLT, Int.reduceLE, Int.reduceEq, Int.reduceNeg, Int.reduceToNat, Int.reduceAdd, Int.reduceSub, Cf.cells, d1, d2, t1, Bool.not_true, Bool.not_false, ↓g_gdc, rcOk, true_and, decide_true, decide_false]
    exact fin0 8
  have d2 : decide (c.ep = old.ep) = true := decide_eq_true (by simpa using h2)
  rw [if_neg h2]
  by_cases h3 : ¬ c.k = 4 ∧ o.ct = 18446744073709551615
  · have d3 : decide (c.k = 4) = false := decide_eq_false h3.1
    have d3' : decide (o.ct = 18446744073709551615) = true := decide_eq_true h3.2
    rw [if_pos h3]
    simp -implicitDefEqProofs -dsimp only [go_sem, Nat.reduceEqDiff, Nat.reduceAdd, Nat.reduceMul, Nat.reduceSub, Nat.reduceLT, Nat.reduceLeDiff, Nat.reduceBEq, reduceIte, reduceCtorEq, Int.reduceLT, Int.reduceLE, Int.reduceEq, Int.reduceNeg, Int.reduceToNat, Int.reduceAdd, Int.reduceSub, Cf.cells, d1, d2, d3, d3', t1, Bool.not_true, Bool.not_false, ↓g_gdc, rcOk, true_and, decide_true, decide_false]
    exact fin0 9
  rw [if_neg h3]
  have d3 : decide (c.k = 4) = true ∨ (decide (c.k = 4) = false ∧ decide (o.ct = 18446744073709551615) = false) := by
    by_cases h : c.k = 4
    · exact .inl (decide_eq_true h)
    · exact .inr ⟨decide_eq_false h, decide_eq_false (fun e => h3 ⟨h, e⟩)⟩
  have hlen : c.sh.toNat < o.cs.length := (List.getElem?_eq_some_iff.1 hlt.2).1
  have hle5 : c.sh.toNat * 5 + 5 ≤ (cfsC o.cs).length := by rw [cfsC_length]; omega
  have k1 : c.sh < o.cs.length := by omega
  have hset := cfsC_set hlen (o.chg c old).1
  have cG' := cG old (by unfold Len; have := hold.1; omega)
  simp only [Cf.cells, Cm.cells, Cf.ret] at cG'
  by_cases h4 : c.k = 2 ∧ o.cs.any (·.has c.nd) = true
  · have d4 : decide (c.k = 2) = true := decide_eq_true h4.1
    rw [if_pos h4]
    have d3b : decide (c.k = 4) = false := decide_eq_false (by omega)
    have d3c : decide (o.ct = 18446744073709551615) = false := by
      rcases d3 with d | d
      · rw [d3b] at d; cases d
      · exact d.2
    rw [h4.2] at cT
    simp -implicitDefEqProofs -dsimp only [go_sem, Nat.reduceEqDiff, Nat.reduceAdd, Nat.reduceMul, Nat.reduceSub, Nat.reduceLT, Nat.reduceLeDiff, Nat.reduceBEq, reduceIte, reduceCtorEq, Int.reduceLT, Int.reduceLE, Int.reduceEq, Int.reduceNeg, Int.reduceToNat, Int.reduceAdd, Int.reduceSub, Cf.cells, d1, d2, d3b, d3c, d4, t1, Bool.not_true, Bool.not_false, ↓g_gdc, rcOk, true_and, decide_true, decide_false, ↓g_call _ _ c_order_State_taken]
    refine CallK.as cT (aft_nil ?_)
    simp -implicitDefEqProofs -dsimp only [go_sem, Nat.reduceEqDiff, Nat.reduceAdd, Nat.reduceMul, Nat.reduceSub, Nat.reduceLT, Nat.reduceLeDiff, Nat.reduceBEq, reduceIte, reduceCtorEq, Int.reduceLT, Int.reduceLE, Int.reduceEq, Int.reduceNeg, Int.reduceToNat, Int.reduceAdd, Int.reduceSub]
    exact fin0 7
  rw [if_neg h4]
  have hset' : stCells (cfsC o.cs) (c.sh.toNat * 5) (AV.agg [.i .u64 (o.chg c old).1.ep, .i .i64 (o.chg c old).1.sh, .fz (o.chg c old).1.ch.length (ints (o.chg c old).1.ch) none, .fz (o.chg c old).1.fu.length (bools (o.chg c old).1.fu) none, .i .i64 (o.chg c old).1.ln]).cells = cfsC (o.cs.set c.sh.toNat (o.chg c old).1) := hset
  rcases hk4 : decide (c.k = 4) with _ | _
  · have d3c : decide (o.ct = 18446744073709551615) = false := by
      rcases d3 with d | d
      · rw [hk4] at d; cases d
      · exact d.2
    rcases hk2 : decide (c.k = 2) with _ | _
    · simp -implicitDefEqProofs -dsimp only [go_sem, Nat.reduceEqDiff, Nat.reduceAdd, Nat.reduceMul, Nat.reduceSub, Nat.reduceLT, Nat.reduceLeDiff, Nat.reduceBEq, reduceIte, reduceCtorEq, Int.reduceLT, Int.reduceLE, Int.reduceEq, Int.reduceNeg, Int.reduceToNat, Int.reduceAdd, Int.reduceSub, Cf.cells, hk4, hk2, d3c, d1, d2, t1, Bool.not_true, Bool.not_false, ↓g_gdc, rcOk, true_and, decide_true, decide_false, ↓g_call _ _ c_order_State_change]
      refine CallK.as cG' (aft_nil ?_)
      by_cases h5 : ¬ (o.chg c old).2 = 0
      · have d5 : decide ((o.chg c old).2 = 0) = false := decide_eq_false h5
        rw [if_pos h5]
        simp -implicitDefEqProofs -dsimp only [go_sem, Nat.reduceEqDiff, Nat.reduceAdd, Nat.reduceMul, Nat.reduceSub, Nat.reduceLT, Nat.reduceLeDiff, Nat.reduceBEq, reduceIte, reduceCtorEq, Int.reduceLT, Int.reduceLE, Int.reduceEq, Int.reduceNeg, Int.reduceToNat, Int.reduceAdd, Int.reduceSub, d5, Bool.not_false]
        exact fin0 _
      have d5 : decide ((o.chg c old).2 = 0) = true := decide_eq_true (by simpa using h5)
      rw [if_neg h5]
      simp -implicitDefEqProofs -dsimp only [go_sem, Nat.reduceEqDiff, Nat.reduceAdd, Nat.reduceMul, Nat.reduceSub, Nat.reduceLT, Nat.reduceLeDiff, Nat.reduceBEq, reduceIte, reduceCtorEq, Int.reduceLT, Int.reduceLE, Int.reduceEq, Int.reduceNeg, Int.reduceToNat, Int.reduceAdd, Int.reduceSub, d5, Bool.not_true, t1, hlt.1, k1]
      refine stS_row t2 rfl rfl hle5 (aft_nil ?_)
      rw [hset']
      have t1' : (T.put idC (.row 5 (cfsC (o.cs.set c.sh.toNat (o.chg c old).1)))) id = .row 6 [.i .i64 o.s, .i .i64 o.l, .i .i64 o.v, .i .i64 o.n, .i .u64 o.ct, .sl idC 0 o.cs.length none] := by rw [Tab.put_ne _ _ hne, t1]
      simp -implicitDefEqProofs -dsimp only [go_sem, Nat.reduceEqDiff, Nat.reduceAdd, Nat.reduceMul, Nat.reduceSub, Nat.reduceLT, Nat.reduceLeDiff, Nat.reduceBEq, reduceIte, reduceCtorEq, Int.reduceLT, Int.reduceLE, Int.reduceEq, Int.reduceNeg, Int.reduceToNat, Int.reduceAdd, Int.reduceSub, hk4, Bool.not_false, t1']
      refine stS_row t1' rfl rfl (by simp) (aft_nil ?_)
      simp -implicitDefEqProofs -dsimp only [go_sem, Nat.reduceEqDiff, Nat.reduceAdd, Nat.reduceMul, Nat.reduceSub, Nat.reduceLT, Nat.reduceLeDiff, Nat.reduceBEq, reduceIte, reduceCtorEq, Int.reduceLT, Int.reduceLE, Int.reduceEq, Int.reduceNeg, Int.reduceToNat, Int.reduceAdd, Int.reduceSub]
      refine fin_as (.refl _) ?_
      rw [if_neg (of_decide_eq_false hk4)]
      simp only [oT, Os.row, List.length_set]
      rw [Tab.put_comm _ hne]
    · have hany : o.cs.any (·.has c.nd) = false := by
        cases h : o.cs.any (·.has c.nd) with
        | false => rfl
        | true => exact absurd ⟨of_decide_eq_true hk2, h⟩ h4
      rw [hany] at cT
      simp -implicitDefEqProofs -dsimp only [go_sem, Nat.reduceEqDiff, Nat.reduceAdd, Nat.reduceMul, Nat.reduceSub, Nat.reduceLT, Nat.reduceLeDiff, Nat.reduceBEq, reduceIte, reduceCtorEq, Int.reduceLT, Int.reduceLE, Int.reduceEq, Int.reduceNeg, Int.reduceToNat, Int.reduceAdd, Int.reduceSub, Cf.cells, hk4, hk2, d3c, d1, d2, t1, Bool.not_true, Bool.not_false, ↓g_gdc, rcOk, true_and, decide_true, decide_false, ↓g_call _ _ c_order_State_taken]
      refine CallK.as cT (aft_nil ?_)
      simp -implicitDefEqProofs -dsimp only [go_sem, Nat.reduceEqDiff, Nat.reduceAdd, Nat.reduceMul, Nat.reduceSub, Nat.reduceLT, Nat.reduceLeDiff, Nat.reduceBEq, reduceIte, reduceCtorEq, Int.reduceLT, Int.reduceLE, Int.reduceEq, Int.reduceNeg, Int.reduceToNat, Int.reduceAdd, Int.reduceSub, Cf.cells, d1, d2, t1, Bool.not_true, Bool.not_false, ↓g_gdc, rcOk, true_and, decide_true, decide_false, ↓g_call _ _ c_order_State_change]
      refine CallK.as cG' (aft_nil ?_)
      by_cases h5 : ¬ (o.chg c old).2 = 0
      · have d5 : decide ((o.chg c old).2 = 0) = false := decide_eq_false h5
        rw [if_pos h5]
        simp -implicitDefEqProofs -dsimp only [go_sem, Nat.reduceEqDiff, Nat.reduceAdd, Nat.reduceMul, Nat.reduceSub, Nat.reduceLT, Nat.reduceLeDiff, Nat.reduceBEq, reduceIte, reduceCtorEq, Int.reduceLT, Int.reduceLE, Int.reduceEq, Int.reduceNeg, Int.reduceToNat, Int.reduceAdd, Int.reduceSub, d5, Bool.not_false]
        exact fin0 _
      have d5 : decide ((o.chg c old).2 = 0) = true := decide_eq_true (by simpa using h5)
      rw [if_neg h5]
      simp -implicitDefEqProofs -dsimp only [go_sem, Nat.reduceEqDiff, Nat.reduceAdd, Nat.reduceMul, Nat.reduceSub, Nat.reduceLT, Nat.reduceLeDiff, Nat.reduceBEq, reduceIte, reduceCtorEq, Int.reduceLT, Int.reduceLE, Int.reduceEq, Int.reduceNeg, Int.reduceToNat, Int.reduceAdd, Int.reduceSub, d5, Bool.not_true, t1, hlt.1, k1]
      refine stS_row t2 rfl rfl hle5 (aft_nil ?_)
      rw [hset']
      have t1' : (T.put idC (.row 5 (cfsC (o.cs.set c.sh.toNat (o.chg c old).1)))) id = .row 6 [.i .i64 o.s, .i .i64 o.l, .i .i64 o.v, .i .i64 o.n, .i .u64 o.ct, .sl idC 0 o.cs.length none] := by rw [Tab.put_ne _ _ hne, t1]
      simp -implicitDefEqProofs -dsimp only [go_sem, Nat.reduceEqDiff, Nat.reduceAdd, Nat.reduceMul, Nat.reduceSub, Nat.reduceLT, Nat.reduceLeDiff, Nat.reduceBEq, reduceIte, reduceCtorEq, Int.reduceLT, Int.reduceLE, Int.reduceEq, Int.reduceNeg, Int.reduceToNat, Int.reduceAdd, Int.reduceSub, hk4, Bool.not_false, t1']
      refine stS_row t1' rfl rfl (by simp) (aft_nil ?_)
      simp -implicitDefEqProofs -dsimp only [go_sem, Nat.reduceEqDiff, Nat.reduceAdd, Nat.reduceMul, Nat.reduceSub, Nat.reduceLT, Nat.reduceLeDiff, Nat.reduceBEq, reduceIte, reduceCtorEq, Int.reduceLT, Int.reduceLE, Int.reduceEq, Int.reduceNeg, Int.reduceToNat, Int.reduceAdd, Int.reduceSub]
      refine fin_as (.refl _) ?_
      rw [if_neg (of_decide_eq_false hk4)]
      simp only [oT, Os.row, List.length_set]
      rw [Tab.put_comm _ hne]
  · have hk2 : decide (c.k = 2) = false := decide_eq_false (by have := of_decide_eq_true hk4; omega)
    simp -implicitDefEqProofs -dsimp only [go_sem, Nat.reduceEqDiff, Nat.reduceAdd, Nat.reduceMul, Nat.reduceSub, Nat.reduceLT, Nat.reduceLeDiff, Nat.reduceBEq, reduceIte, reduceCtorEq, Int.reduceLT, Int.reduceLE, Int.reduceEq, Int.reduceNeg, Int.reduceToNat, Int.reduceAdd, Int.reduceSub, Cf.cells, hk4, hk2, d1, d2, t1, Bool.not_true, Bool.not_false, ↓g_gdc, rcOk, true_and, decide_true, decide_false, ↓g_call _ _ c_order_State_change]
    refine CallK.as cG' (aft_nil ?_)
    by_cases h5 : ¬ (o.chg c old).2 = 0
    · have d5 : decide ((o.chg c old).2 = 0) = false := decide_eq_false h5
      rw [if_pos h5]
      simp -implicitDefEqProofs -dsimp only [go_sem, Nat.reduceEqDiff, Nat.reduceAdd, Nat.reduceMul, Nat.reduceSub, Nat.reduceLT, Nat.reduceLeDiff, Nat.reduceBEq, reduceIte, reduceCtorEq, Int.reduceLT, Int.reduceLE, Int.reduceEq, Int.reduceNeg, Int.reduceToNat, Int.reduceAdd, Int.reduceSub, d5, Bool.not_false]
      exact fin0 _
    have d5 : decide ((o.chg c old).2 = 0) = true := decide_eq_true (by simpa using h5)
    rw [if_neg h5]
    simp -implicitDefEqProofs -dsimp only [go_sem, Nat.reduceEqDiff, Nat.reduceAdd, Nat.reduceMul, Nat.reduceSub, Nat.reduceLT, Nat.reduceLeDiff, Nat.reduceBEq, reduceIte, reduceCtorEq, Int.reduceLT, Int.reduceLE, Int.reduceEq, Int.reduceNeg, Int.reduceToNat, Int.reduceAdd, Int.reduceSub, d5, Bool.not_true, t1, hlt.1, k1]
    refine stS_row t2 rfl rfl hle5 (aft_nil ?_)
    rw [hset']
    have t1' : (T.put idC (.row 5 (cfsC (o.cs.set c.sh.toNat (o.chg c old).1)))) id = .row 6 [.i .i64 o.s, .i .i64 o.l, .i .i64 o.v, .i .i64 o.n, .i .u64 o.ct, .sl idC 0 o.cs.length none] := by rw [Tab.put_ne _ _ hne, t1]
    simp -implicitDefEqProofs -dsimp only [go_sem, Nat.reduceEqDiff, Nat.reduceAdd, Nat.reduceMul, Nat.reduceSub, Nat.reduceLT, Nat.reduceLeDiff, Nat.reduceBEq, reduceIte, reduceCtorEq, Int.reduceLT, Int.reduceLE, Int.reduceEq, Int.reduceNeg, Int.reduceToNat, Int.reduceAdd, Int.reduceSub, hk4]
    refine fin_as (.refl _) ?_
    rw [if_pos (of_decide_eq_true hk4)]
    simp only [oT, Os.row, List.length_set]
    rw [Tab.put_self t1]
end Go.Aw
