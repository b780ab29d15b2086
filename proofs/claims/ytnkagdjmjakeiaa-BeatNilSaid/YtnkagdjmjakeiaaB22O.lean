import Derived.Test.YtnkagdjmjakeiaaB22N
namespace Go.Aw
open Go
open Go.Proofs.Try (prog)
set_option linter.all false
set_option maxHeartbeats 4000000

theorem Owns.base_new {T : Tab} {id : Nat} {s : Slot} : ∀ {l : List Ow} {T' : Tab}, Owns T l T' → T' id = .unused → Owns (T.put id s) l (T'.put id s)
  | [], T', h, _ => by rw [show T' = T from h]; rfl
  | a :: l, T', ⟨T1, h1, hx, h2⟩, hu => by
    rcases h2 with ⟨e1, e2, rfl⟩ | ⟨j, e1, hj, rfl⟩
    · exact ⟨_, Owns.base_new h1 hu, hx, .inl ⟨e1, e2, rfl⟩⟩
    · obtain ⟨hne, hu1⟩ := Tab.unused_put hu
      refine ⟨_, Owns.base_new (s := s) h1 hu1, hx, .inr ⟨j, e1, by rw [Tab.put_ne _ _ (Ne.symm hne)]; exact hj, ?_⟩⟩
      exact Tab.put_comm _ (Ne.symm hne) _ _

def roundW (l : List Wr) : List Wr := heardW (heardW (l.map (tickR 2)) 0 Be.nil) 2 Be.nil
theorem aw_round {R : RPost} (hR : ExtR R) {T : Tab} {wid : Nat} {l : List Wr} {v1 : AV} (hv : v1.plain = true ∧ ∀ k, v1.offLp k = v1) (k : Nat) (hk : k < 3) (hT : Wt T wid 2 l) (hl : WOk 2 l)
    (h2 : AW prog sautoirlaw22_awake_l0 R [(1, v1), (2, .ptr wid 0), (3, .i .i64 ((k + 1 : Nat) : Int))] [] (T.put wid (.row 49 (waC 2 (roundW l))))) :
    AW prog sautoirlaw22_awake_l0 R [(1, v1), (2, .ptr wid 0), (3, .i .i64 k)] [] T := by
  have hk3 : (k : Int) < 3 := by omega
  have hws : IntKind.i64.wrap ((k : Int) + 1) = ((k + 1 : Nat) : Int) := wrap_succ (by omega)
  have c1 := ac_bTick hT hl
  have hT1 : Wt (T.put wid (.row 49 (waC 2 (l.map (tickR 2))))) wid 2 (l.map (tickR 2)) := Tab.put_same ..
  have c2 := ac_bHeard hT1 hl.tick 0 Be.nil
  have hT2 : Wt ((T.put wid (.row 49 (waC 2 (l.map (tickR 2))))).put wid (.row 49 (waC 2 (heardW (l.map (tickR 2)) 0 Be.nil)))) wid 2 (heardW (l.map (tickR 2)) 0 Be.nil) := Tab.put_same ..
  have c3 := ac_bHeard hT2 (hl.tick.heard _ _) 2 Be.nil
  rw [Tab.put_put, Tab.put_put] at c3
  simp only [Be.cells, Be.nil] at c2 c3
  refine AW_loopD (l := sautoirlaw22_awake_l0) rfl hR ?_
  unfold sautoirlaw22_awake_l0b
  obtain ⟨hv1, hv2⟩ := hv
  simp -implicitDefEqProofs -dsimp only [go_sem, Nat.reduceEqDiff, Nat.reduceAdd, Nat.reduceMul, Nat.reduceSub, Nat.reduceLT, Nat.reduceLeDiff, Nat.reduceBEq, reduceIte, reduceCtorEq, Int.reduceLT, Int.reduceLE, Int.reduceEq, Int.reduceNeg, Int.reduceToNat, Int.reduceAdd, Int.reduceSub, hk3, ↓g_call _ _ c_beat_Watch_Tick]
  refine CallK.as c1 (aft_nil ?_)
  simp -implicitDefEqProofs -dsimp only [go_sem, Nat.reduceEqDiff, Nat.reduceAdd, Nat.reduceMul, Nat.reduceSub, Nat.reduceLT, Nat.reduceLeDiff, Nat.reduceBEq, reduceIte, reduceCtorEq, Int.reduceLT, Int.reduceLE, Int.reduceEq, Int.reduceNeg, Int.reduceToNat, Int.reduceAdd, Int.reduceSub, ↓g_call _ _ c_beat_Watch_Heard]
  refine CallK.as c2 (aft_nil ?_)
  simp -implicitDefEqProofs -dsimp only [go_sem, Nat.reduceEqDiff, Nat.reduceAdd, Nat.reduceMul, Nat.reduceSub, Nat.reduceLT, Nat.reduceLeDiff, Nat.reduceBEq, reduceIte, reduceCtorEq, Int.reduceLT, Int.reduceLE, Int.reduceEq, Int.reduceNeg, Int.reduceToNat, Int.reduceAdd, Int.reduceSub, ↓g_call _ _ c_beat_Watch_Heard]
  rw [Tab.put_put]
  refine CallK.as c3 (aft_nil ?_)
  simp -implicitDefEqProofs -dsimp only [go_sem, Nat.reduceEqDiff, Nat.reduceAdd, Nat.reduceMul, Nat.reduceSub, Nat.reduceLT, Nat.reduceLeDiff, Nat.reduceBEq, reduceIte, reduceCtorEq, Int.reduceLT, Int.reduceLE, Int.reduceEq, Int.reduceNeg, Int.reduceToNat, Int.reduceAdd, Int.reduceSub, hws]
  exact h2

/-! What is advised. -/
theorem ac_learner {T : Tab} {oid wid : Nat} {lim : Int} {l : List Wr} (hT : Wt T wid lim l) (hl : WOk lim l) (c : Cf) (h : susW lim l c.ln = false) :
    ACalls prog f_beat_advisor_learner [.agg [.ptr oid 0, .ptr wid 0], .agg (c.cells none none)] T (fun r T' => r = .tup [.i .i64 0, .i .i64 (-1)] ∧ T' = T) := by
  have hS := ac_bSuspects hT hl c.ln
  rw [h] at hS
  refine acalls_of mixed t_beat_advisor_learner (by simp) ?_
  unfold s_beat_advisor_learner
  simp -implicitDefEqProofs -dsimp only [go_sem, Nat.reduceEqDiff, Nat.reduceAdd, Nat.reduceMul, Nat.reduceSub, Nat.reduceLT, Nat.reduceLeDiff, Nat.reduceBEq, reduceIte, reduceCtorEq, Int.reduceLT, Int.reduceLE, Int.reduceEq, Int.reduceNeg, Int.reduceToNat, Int.reduceAdd, Int.reduceSub, Cf.cells, ↓g_call _ _ c_beat_Watch_Suspects]
  refine CallK.as hS (aft_nil ?_)
  simp -implicitDefEqProofs -dsimp only [go_sem, Nat.reduceEqDiff, Nat.reduceAdd, Nat.reduceMul, Nat.reduceSub, Nat.reduceLT, Nat.reduceLeDiff, Nat.reduceBEq, reduceIte, reduceCtorEq, Int.reduceLT, Int.reduceLE, Int.reduceEq, Int.reduceNeg, Int.reduceToNat, Int.reduceAdd, Int.reduceSub]
  exact finL_pure rfl

deriving instance DecidableEq for Cf
def exC : Cf := cf0 3 0
theorem exR : exC.remove 1 2 = (⟨2, 0, [0, 2], [true, true], -1⟩, 0) := by decide +kernel
theorem ac_member {T : Tab} {oid wid : Nat} {lim : Int} {l : List Wr} (hT : Wt T wid lim l) (hl : WOk lim l) (h0 : susW lim l 0 = false) (h1 : susW lim l 1 = true) :
    ACalls prog f_beat_advisor_member [.agg [.ptr oid 0, .ptr wid 0], .agg (exC.cells none none)] T (fun r T' => r = .tup [.i .i64 1, .i .i64 1] ∧ T' = T) := by
  have hS0 := ac_bSuspects hT hl 0
  have hS1 := ac_bSuspects hT hl 1
  rw [h0] at hS0; rw [h1] at hS1
  have hRm := pc_Remove exC none none 1 2 (by simp [exC, cf0, chn, Len])
  rw [exR] at hRm
  have eC : exC.cells none none = [.i .u64 1, .i .i64 0, .fz 3 [.i .i64 0, .i .i64 1, .i .i64 2] none, .fz 3 [.b true, .b true, .b true] none, .i .i64 (-1)] := rfl
  rw [eC] at hRm ⊢
  refine acalls_of mixed t_beat_advisor_member (by simp) ?_
  unfold s_beat_advisor_member
  simp -implicitDefEqProofs -dsimp only [go_sem, Nat.reduceEqDiff, Nat.reduceAdd, Nat.reduceMul, Nat.reduceSub, Nat.reduceLT, Nat.reduceLeDiff, Nat.reduceBEq, reduceIte, reduceCtorEq, Int.reduceLT, Int.reduceLE, Int.reduceEq, Int.reduceNeg, Int.reduceToNat, Int.reduceAdd, Int.reduceSub]
  refine AW_loopD (l := beat_advisor_member_l0) rfl (by repeat' (first | exact finX_ext _ _ | assumption | apply blkR_ext | apply thenR_ext | apply AW_ext)) ?_
  unfold beat_advisor_member_l0b
  simp -implicitDefEqProofs -dsimp only [go_sem, Nat.reduceEqDiff, Nat.reduceAdd, Nat.reduceMul, Nat.reduceSub, Nat.reduceLT, Nat.reduceLeDiff, Nat.reduceBEq, reduceIte, reduceCtorEq, Int.reduceLT, Int.reduceLE, Int.reduceEq, Int.reduceNeg, Int.reduceToNat, Int.reduceAdd, Int.reduceSub, show ((3 : Nat) : Int) = 3 from rfl, ↓g_call _ _ c_beat_Watch_Suspects]
  refine CallK.as hS0 (aft_nil ?_)
  simp -implicitDefEqProofs -dsimp only [go_sem, Nat.reduceEqDiff, Nat.reduceAdd, Nat.reduceMul, Nat.reduceSub, Nat.reduceLT, Nat.reduceLeDiff, Nat.reduceBEq, reduceIte, reduceCtorEq, Int.reduceLT, Int.reduceLE, Int.reduceEq, Int.reduceNeg, Int.reduceToNat, Int.reduceAdd, Int.reduceSub]
  refine AW_loopD (l := beat_advisor_member_l0) rfl (by repeat' (first | exact finX_ext _ _ | assumption | apply blkR_ext | apply thenR_ext | apply AW_ext)) ?_
  unfold beat_advisor_member_l0b
  have w1 : IntKind.i64.wrap 1 = 1 := by decide
  have w2 : IntKind.u64.wrap 2 = 2 := by decide
  simp -implicitDefEqProofs -dsimp only [go_sem, Nat.reduceEqDiff, Nat.reduceAdd, Nat.reduceMul, Nat.reduceSub, Nat.reduceLT, Nat.reduceLeDiff, Nat.reduceBEq, reduceIte, reduceCtorEq, Int.reduceLT, Int.reduceLE, Int.reduceEq, Int.reduceNeg, Int.reduceToNat, Int.reduceAdd, Int.reduceSub, w1, show ((3 : Nat) : Int) = 3 from rfl, show (1 : Int).toNat = 1 from rfl, ↓g_call _ _ c_beat_Watch_Suspects]
  refine CallK.as hS1 (aft_nil ?_)
  simp -implicitDefEqProofs -dsimp only [go_sem, Nat.reduceEqDiff, Nat.reduceAdd, Nat.reduceMul, Nat.reduceSub, Nat.reduceLT, Nat.reduceLeDiff, Nat.reduceBEq, reduceIte, reduceCtorEq, Int.reduceLT, Int.reduceLE, Int.reduceEq, Int.reduceNeg, Int.reduceToNat, Int.reduceAdd, Int.reduceSub, w2, ↓g_call _ _ c_conf_Remove]
  refine CallK.pure hRm (aft_nil ?_)
  simp -implicitDefEqProofs -dsimp only [go_sem, Nat.reduceEqDiff, Nat.reduceAdd, Nat.reduceMul, Nat.reduceSub, Nat.reduceLT, Nat.reduceLeDiff, Nat.reduceBEq, reduceIte, reduceCtorEq, Int.reduceLT, Int.reduceLE, Int.reduceEq, Int.reduceNeg, Int.reduceToNat, Int.reduceAdd, Int.reduceSub, Cf.ret, Cf.cells]
  exact finL_pure rfl

/-! Nobody there. -/
def adR (k s e n : Int) (b : Bool) : AV := .tup [.agg [.i .i64 k, .i .i64 s, .i .u64 e, .i .i64 n], .b b]
theorem ac_Advice {T0 Tb T : Tab} {oid wid : Nat} {v : Int} {vC : AV} {ps : List (AV × AV)} {l : List Wr} (hb : Tb = T0.put oid (stR ((1 : Nat) : Int) ((3 : Nat) : Int) v vC)) (hid : T0 oid = .unused) (hps : ps.length = 1) (how : Owns Tb (⟨5, vC, 1, celF 0 ps⟩ :: owsF 3 0 ps) T)
    (hT : Wt T0 wid 2 l) (hl : WOk 2 l) (h0 : susW 2 l 0 = false) (h1 : susW 2 l 1 = true) :
    ACalls prog f_beat_Advice [.ptr oid 0, .ptr wid 0] T (fun r T' => r = adR 1 0 1 1 true ∧ TabLe T0 T') := by
  have hC := ac_Confs (S := 1) (L := 3) (id := oid) (v := v) hb hid (by omega) (by omega) (by omega) (by omega) hps how
  refine acalls_of mixed t_beat_Advice (by simp) ?_
  unfold s_beat_Advice
  simp -implicitDefEqProofs -dsimp only [go_sem, Nat.reduceEqDiff, Nat.reduceAdd, Nat.reduceMul, Nat.reduceSub, Nat.reduceLT, Nat.reduceLeDiff, Nat.reduceBEq, reduceIte, reduceCtorEq, Int.reduceLT, Int.reduceLE, Int.reduceEq, Int.reduceNeg, Int.reduceToNat, Int.reduceAdd, Int.reduceSub, ↓g_gdc, rcOk, true_and, ↓g_call _ _ c_order_State_Confs]
  refine CallK.of hC (fun r T2 hO => aft_nil ?_)
  obtain ⟨rid, e, hr, e2⟩ := hO.ne (by decide)
  have hle : TabLe T0 T2 := hO.tabLe
  subst e
  have hT2 : Wt T2 wid 2 l := by
    rw [e2]; unfold Wt; rw [Tab.put_ne _ _ (fun e => by subst e; rw [hT] at hr; cases hr)]; exact hT
  have hR2 : T2 rid = .row 5 (cfsC (cfs0 3 1)) := by rw [e2, Tab.put_same]
  have eC : cfsC (cfs0 3 1) = [.i .u64 1, .i .i64 0, .fz 3 [.i .i64 0, .i .i64 1, .i .i64 2] none, .fz 3 [.b true, .b true, .b true] none, .i .i64 (-1)] := rfl
  rw [eC] at hR2
  have eC2 : exC.cells none none = [.i .u64 1, .i .i64 0, .fz 3 [.i .i64 0, .i .i64 1, .i .i64 2] none, .fz 3 [.b true, .b true, .b true] none, .i .i64 (-1)] := rfl
  have a1 := ac_learner (oid := oid) hT2 hl exC rfl
  have a2 := ac_member (oid := oid) hT2 hl h0 h1
  rw [eC2] at a1 a2
  simp -implicitDefEqProofs -dsimp only [go_sem, Nat.reduceEqDiff, Nat.reduceAdd, Nat.reduceMul, Nat.reduceSub, Nat.reduceLT, Nat.reduceLeDiff, Nat.reduceBEq, reduceIte, reduceCtorEq, Int.reduceLT, Int.reduceLE, Int.reduceEq, Int.reduceNeg, Int.reduceToNat, Int.reduceAdd, Int.reduceSub]
  refine AW_loopD (l := beat_Advice_l0) rfl (by repeat' (first | exact finX_ext _ _ | assumption | apply blkR_ext | apply thenR_ext | apply AW_ext)) ?_
  unfold beat_Advice_l0b
  have w1 : IntKind.i64.wrap 1 = 1 := by decide
  simp -implicitDefEqProofs -dsimp only [go_sem, Nat.reduceEqDiff, Nat.reduceAdd, Nat.reduceMul, Nat.reduceSub, Nat.reduceLT, Nat.reduceLeDiff, Nat.reduceBEq, reduceIte, reduceCtorEq, Int.reduceLT, Int.reduceLE, Int.reduceEq, Int.reduceNeg, Int.reduceToNat, Int.reduceAdd, Int.reduceSub, show ((1 : Nat) : Int) = 1 from rfl, hR2]
  refine AW_loopD (l := beat_Advice_l1) rfl (by repeat' (first | exact finX_ext _ _ | assumption | apply blkR_ext | apply thenR_ext | apply AW_ext)) ?_
  unfold beat_Advice_l1b
  simp -implicitDefEqProofs -dsimp only [go_sem, Nat.reduceEqDiff, Nat.reduceAdd, Nat.reduceMul, Nat.reduceSub, Nat.reduceLT, Nat.reduceLeDiff, Nat.reduceBEq, reduceIte, reduceCtorEq, Int.reduceLT, Int.reduceLE, Int.reduceEq, Int.reduceNeg, Int.reduceToNat, Int.reduceAdd, Int.reduceSub, show ((5 : Nat) : Int) = 5 from rfl, calV_some _ _ _ _ _ _ c_beat_advisor_learner, List.cons_append, List.nil_append, List.append_nil]
  refine CallK.as a1 (aft_nil ?_)
  simp -implicitDefEqProofs -dsimp only [go_sem, Nat.reduceEqDiff, Nat.reduceAdd, Nat.reduceMul, Nat.reduceSub, Nat.reduceLT, Nat.reduceLeDiff, Nat.reduceBEq, reduceIte, reduceCtorEq, Int.reduceLT, Int.reduceLE, Int.reduceEq, Int.reduceNeg, Int.reduceToNat, Int.reduceAdd, Int.reduceSub, w1]
  refine AW_loopD (l := beat_Advice_l1) rfl (by repeat' (first | exact finX_ext _ _ | assumption | apply blkR_ext | apply thenR_ext | apply AW_ext)) ?_
  unfold beat_Advice_l1b
  simp -implicitDefEqProofs -dsimp only [go_sem, Nat.reduceEqDiff, Nat.reduceAdd, Nat.reduceMul, Nat.reduceSub, Nat.reduceLT, Nat.reduceLeDiff, Nat.reduceBEq, reduceIte, reduceCtorEq, Int.reduceLT, Int.reduceLE, Int.reduceEq, Int.reduceNeg, Int.reduceToNat, Int.reduceAdd, Int.reduceSub, show ((5 : Nat) : Int) = 5 from rfl, show (1 : Int).toNat = 1 from rfl, calV_some _ _ _ _ _ _ c_beat_advisor_member, List.cons_append, List.nil_append, List.append_nil]
  refine CallK.as a2 (aft_nil ?_)
  simp -implicitDefEqProofs -dsimp only [go_sem, Nat.reduceEqDiff, Nat.reduceAdd, Nat.reduceMul, Nat.reduceSub, Nat.reduceLT, Nat.reduceLeDiff, Nat.reduceBEq, reduceIte, reduceCtorEq, Int.reduceLT, Int.reduceLE, Int.reduceEq, Int.reduceNeg, Int.reduceToNat, Int.reduceAdd, Int.reduceSub]
  exact finL_of T2 (fun _ => .inr (.inl rfl)) ⟨rfl, hle⟩

theorem pc_awake : PCalls prog f_sautoirlaw22_awake [] (.b true) := by
  refine pcalls_of mixed t_sautoirlaw22_awake (by simp) fun T => ?_
  have hN := ac_order_New (T0 := T) (S := 1) (L := 3) (v := 4) (by decide)
  simp only [stC] at hN
  unfold s_sautoirlaw22_awake
  simp -implicitDefEqProofs -dsimp only [go_sem, Nat.reduceEqDiff, Nat.reduceAdd, Nat.reduceMul, Nat.reduceSub, Nat.reduceLT, Nat.reduceLeDiff, Nat.reduceBEq, reduceIte, reduceCtorEq, Int.reduceLT, Int.reduceLE, Int.reduceEq, Int.reduceNeg, Int.reduceToNat, Int.reduceAdd, Int.reduceSub, ↓g_call _ _ c_order_New]
  refine CallK.of hN (fun r T1 ⟨oid, vC, ps, e1, hoid, hps, how⟩ => aft_nil ?_)
  subst e1
  simp -implicitDefEqProofs -dsimp only [go_sem, Nat.reduceEqDiff, Nat.reduceAdd, Nat.reduceMul, Nat.reduceSub, Nat.reduceLT, Nat.reduceLeDiff, Nat.reduceBEq, reduceIte, reduceCtorEq, Int.reduceLT, Int.reduceLE, Int.reduceEq, Int.reduceNeg, Int.reduceToNat, Int.reduceAdd, Int.reduceSub, ↓g_call _ _ c_beat_New]
  refine CallK.of (ac_bNew 2) (fun r T2 ⟨wid, e2, hwid, e3⟩ => aft_nil ?_)
  subst e2; subst e3
  have hc2 : clampW 2 = 2 := by decide
  rw [hc2]
  have hwok0 : WOk 2 wrs0 := by have := wok0 2; rwa [hc2] at this
  have hok : ∀ l, WOk 2 l → WOk 2 (roundW l) := fun l h => (h.tick.heard _ _).heard _ _
  have hwT : (T.put oid (stR ((1 : Nat) : Int) ((3 : Nat) : Int) 4 vC)) wid = .unused := TabLe.unused (fun j => how.le j) hwid
  have hne : wid ≠ oid := fun e => by subst e; rw [Tab.put_same] at hwT; cases hwT
  rw [Tab.put_ne _ _ hne] at hwT
  have how3 := how.base_new (s := .row 49 (waC 2 (roundW (roundW (roundW wrs0))))) hwid
  have hA := ac_Advice (T0 := T.put wid (.row 49 (waC 2 (roundW (roundW (roundW wrs0)))))) (oid := oid) (wid := wid) (v := 4) (vC := vC) rfl (by rw [Tab.put_ne _ _ (Ne.symm hne)]; exact hoid) hps (by
    rw [Tab.put_comm _ hne]; exact how3) (Tab.put_same ..) (hok _ (hok _ (hok _ hwok0))) (by decide +kernel) (by decide +kernel)
  simp -implicitDefEqProofs -dsimp only [go_sem, Nat.reduceEqDiff, Nat.reduceAdd, Nat.reduceMul, Nat.reduceSub, Nat.reduceLT, Nat.reduceLeDiff, Nat.reduceBEq, reduceIte, reduceCtorEq, Int.reduceLT, Int.reduceLE, Int.reduceEq, Int.reduceNeg, Int.reduceToNat, Int.reduceAdd, Int.reduceSub]
  refine aw_round (l := wrs0) (k := 0) (by repeat' (first | exact finX_ext _ _ | assumption | apply blkR_ext | apply thenR_ext | apply AW_ext)) ⟨rfl, fun _ => rfl⟩ (by omega) (Tab.put_same ..) hwok0 ?_
  rw [Tab.put_put]
  refine aw_round (l := roundW wrs0) (k := 1) (by repeat' (first | exact finX_ext _ _ | assumption | apply blkR_ext | apply thenR_ext | apply AW_ext)) ⟨rfl, fun _ => rfl⟩ (by omega) (Tab.put_same ..) (hok _ hwok0) ?_
  rw [Tab.put_put]
  refine aw_round (l := roundW (roundW wrs0)) (k := 2) (by repeat' (first | exact finX_ext _ _ | assumption | apply blkR_ext | apply thenR_ext | apply AW_ext)) ⟨rfl, fun _ => rfl⟩ (by omega) (Tab.put_same ..) (hok _ (hok _ hwok0)) ?_
  rw [Tab.put_put]
  refine AW_loopD (l := sautoirlaw22_awake_l0) rfl (by repeat' (first | exact finX_ext _ _ | assumption | apply blkR_ext | apply thenR_ext | apply AW_ext)) ?_
  unfold sautoirlaw22_awake_l0b
  simp -implicitDefEqProofs -dsimp only [go_sem, Nat.reduceEqDiff, Nat.reduceAdd, Nat.reduceMul, Nat.reduceSub, Nat.reduceLT, Nat.reduceLeDiff, Nat.reduceBEq, reduceIte, reduceCtorEq, Int.reduceLT, Int.reduceLE, Int.reduceEq, Int.reduceNeg, Int.reduceToNat, Int.reduceAdd, Int.reduceSub, show ((2 + 1 : Nat) : Int) = 3 from rfl, ↓g_call _ _ c_beat_Advice]
  refine CallK.of hA (fun r T4 ⟨e4, hle4⟩ => aft_nil ?_)
  subst e4
  simp -implicitDefEqProofs -dsimp only [go_sem, Nat.reduceEqDiff, Nat.reduceAdd, Nat.reduceMul, Nat.reduceSub, Nat.reduceLT, Nat.reduceLeDiff, Nat.reduceBEq, reduceIte, reduceCtorEq, Int.reduceLT, Int.reduceLE, Int.reduceEq, Int.reduceNeg, Int.reduceToNat, Int.reduceAdd, Int.reduceSub, adR, aggEq, scalarEq, decide_true, Bool.and_true, Bool.true_and]
  refine finL_of T (fun j => ?_) ⟨rfl, rfl⟩
  refine SlotLe.trans ?_ (hle4 j)
  exact (TabLe.refl T).put hwT j
end Go.Aw
