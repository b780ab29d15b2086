import Derived.Test.YtfphinopblfacaaDoorG21K
namespace Go.Aw
open Go
open Go.Proofs.Tryd (prog)
set_option linter.all false
set_option maxHeartbeats 4000000

theorem lp_Ap0 {R : RPost} (hR : ExtR R) {T0 : Tab} {id idC : Nat} {cmds : List Cm} {cap : Option Nat} (hne : id ≠ idC) (hu : T0 id = .unused) (hu2 : T0 idC = .unused) (hl : Len cmds.length) (he : ∀ c ∈ cmds, c.ep < 18446744073709551616) : ∀ (ys : List Cm) (i : Nat), cmds.drop i = ys → i ≤ cmds.length → i ≤ 25 → ∀ (T : Tab) (o : Os), St T id idC o → TabLe T0 T → Good o →
    (∀ (T : Tab) env L, TabLe T0 T → R (.exit 0) env L T) →
    AW prog sautoirlaw21_OrderApart_l0 R [(5, .ptr id 0), (26, .fz cmds.length (cmdsC cmds) cap), (27, .i .i64 cmds.length), (28, .i .i64 i)] [] T := by
  unfold Len at hl
  intro ys
  induction ys with
  | nil =>
    intro i hi hle h25 T o hst hT hg h2
    have hi' := drop_nil hi hle
    refine AW_loop hR ?_
    unfold sautoirlaw21_OrderApart_l0b
    simp -implicitDefEqProofs -dsimp only [go_sem, Nat.reduceEqDiff, Nat.reduceAdd, Nat.reduceMul, Nat.reduceSub, Nat.reduceLT, Nat.reduceLeDiff, Nat.reduceBEq, reduceIte, reduceCtorEq, Int.reduceLT, Int.reduceLE, Int.reduceEq, Int.reduceNeg, Int.reduceToNat, Int.reduceAdd, Int.reduceSub, hi', Int.lt_irrefl]
    exact h2 T _ _ hT
  | cons y ys ih =>
    intro i hi hle h25 T o hst hT hg h2
    obtain ⟨hlt, hy, hi'⟩ := drop_lt hi
    have hws : IntKind.i64.wrap ((i : Int) + 1) = ((i + 1 : Nat) : Int) := wrap_succ (by omega)
    have hcell := cmdsC_at hy
    have hlen : i * 4 + 4 ≤ (cmdsC cmds).length := by rw [cmdsC_len]; omega
    refine AW_loopD (l := sautoirlaw21_OrderApart_l0) rfl hR ?_
    unfold sautoirlaw21_OrderApart_l0b
    by_cases h25' : i = 25
    · have d : decide ((25 : Int) ≤ i) = true := decide_eq_true (by omega)
      simp -implicitDefEqProofs -dsimp only [go_sem, Nat.reduceEqDiff, Nat.reduceAdd, Nat.reduceMul, Nat.reduceSub, Nat.reduceLT, Nat.reduceLeDiff, Nat.reduceBEq, reduceIte, reduceCtorEq, Int.reduceLT, Int.reduceLE, Int.reduceEq, Int.reduceNeg, Int.reduceToNat, Int.reduceAdd, Int.reduceSub, Int.ofNat_lt, hlt, Int.natCast_nonneg, Int.toNat_natCast, hlen, hcell, Cm.cells, List.cons_append, List.nil_append, d]
      exact h2 T _ _ hT
    have d : decide ((25 : Int) ≤ i) = false := decide_eq_false (by omega)
    obtain ⟨s1, s2, s3, s4, s5⟩ := hg.small
    have g1 := hg.len
    have hey := he y (List.mem_of_getElem? hy)
    have cC := ac_oConfs hst (by omega) s1
    have cN := ac_oCounter hst
    have cT := ac_Text hst s1 s2 y hey
    have hvl := txt_len (cs := o.cs) (c := y) s2 hey
    have cA := ac_oApply hst s3 s1 (txt o.cs y) (by omega)
    have hst' : St (oT T id idC (o.apply (txt o.cs y)).1) id idC (o.apply (txt o.cs y)).1 := oT_st hne
    obtain ⟨hg', hth⟩ := good_apply hg (txt o.cs y)
    have hT' : TabLe T0 (oT T id idC (o.apply (txt o.cs y)).1) := (hT.put hu).put hu2
    obtain ⟨q1, q2, q3, q4, q5⟩ := hg'.small
    have cC' := ac_oConfs hst' (by have := hg'.len; omega) q1
    simp only [Cm.cells] at cT
    simp -implicitDefEqProofs -dsimp only [go_sem, Nat.reduceEqDiff, Nat.reduceAdd, Nat.reduceMul, Nat.reduceSub, Nat.reduceLT, Nat.reduceLeDiff, Nat.reduceBEq, reduceIte, reduceCtorEq, Int.reduceLT, Int.reduceLE, Int.reduceEq, Int.reduceNeg, Int.reduceToNat, Int.reduceAdd, Int.reduceSub, Int.ofNat_lt, hlt, Int.natCast_nonneg, Int.toNat_natCast, hlen, hcell, Cm.cells, List.cons_append, List.nil_append, d, ↓g_call _ _ c_order_State_Confs]
    refine CallK.as cC (aft_nil ?_)
    simp -implicitDefEqProofs -dsimp only [go_sem, Nat.reduceEqDiff, Nat.reduceAdd, Nat.reduceMul, Nat.reduceSub, Nat.reduceLT, Nat.reduceLeDiff, Nat.reduceBEq, reduceIte, reduceCtorEq, Int.reduceLT, Int.reduceLE, Int.reduceEq, Int.reduceNeg, Int.reduceToNat, Int.reduceAdd, Int.reduceSub, ↓g_call _ _ c_order_State_Counter]
    refine CallK.as cN (aft_nil ?_)
    simp -implicitDefEqProofs -dsimp only [go_sem, Nat.reduceEqDiff, Nat.reduceAdd, Nat.reduceMul, Nat.reduceSub, Nat.reduceLT, Nat.reduceLeDiff, Nat.reduceBEq, reduceIte, reduceCtorEq, Int.reduceLT, Int.reduceLE, Int.reduceEq, Int.reduceNeg, Int.reduceToNat, Int.reduceAdd, Int.reduceSub, ↓g_call _ _ c_sautoirlaw21_Text]
    refine CallK.as cT (aft_nil ?_)
    simp -implicitDefEqProofs -dsimp only [go_sem, Nat.reduceEqDiff, Nat.reduceAdd, Nat.reduceMul, Nat.reduceSub, Nat.reduceLT, Nat.reduceLeDiff, Nat.reduceBEq, reduceIte, reduceCtorEq, Int.reduceLT, Int.reduceLE, Int.reduceEq, Int.reduceNeg, Int.reduceToNat, Int.reduceAdd, Int.reduceSub, ↓g_call _ _ c_order_State_Apply]
    refine CallK.as cA (aft_nil ?_)
    simp -implicitDefEqProofs -dsimp only [go_sem, Nat.reduceEqDiff, Nat.reduceAdd, Nat.reduceMul, Nat.reduceSub, Nat.reduceLT, Nat.reduceLeDiff, Nat.reduceBEq, reduceIte, reduceCtorEq, Int.reduceLT, Int.reduceLE, Int.reduceEq, Int.reduceNeg, Int.reduceToNat, Int.reduceAdd, Int.reduceSub, ↓g_call _ _ c_order_State_Confs]
    refine CallK.as cC' (aft_nil ?_)
    generalize (o.apply (txt o.cs y)).1 = o' at hst' hg' hth hT'
    simp -implicitDefEqProofs -dsimp only [go_sem, Nat.reduceEqDiff, Nat.reduceAdd, Nat.reduceMul, Nat.reduceSub, Nat.reduceLT, Nat.reduceLeDiff, Nat.reduceBEq, reduceIte, reduceCtorEq, Int.reduceLT, Int.reduceLE, Int.reduceEq, Int.reduceNeg, Int.reduceToNat, Int.reduceAdd, Int.reduceSub]
    have l1 := fun (R : RPost) (hR : ExtR R) h => lp_Ap1 (R := R) hR (T := oT T id idC o') (id := id) (idC := idC) (o := o') (w := o.cs) (cs := o'.cs) (cmds := cmds) (cap := cap) (top := o.ct) (i := i) rfl hst' hg' hth.1.symm s5 hth.2 o'.cs 0 rfl (Nat.zero_le _) h
    refine l1 _ (by repeat' (first | exact finX_ext _ _ | assumption | apply blkR_ext | apply thenR_ext | apply AW_ext)) ?_
    simp -implicitDefEqProofs -dsimp only [go_sem, Nat.reduceEqDiff, Nat.reduceAdd, Nat.reduceMul, Nat.reduceSub, Nat.reduceLT, Nat.reduceLeDiff, Nat.reduceBEq, reduceIte, reduceCtorEq, Int.reduceLT, Int.reduceLE, Int.reduceEq, Int.reduceNeg, Int.reduceToNat, Int.reduceAdd, Int.reduceSub, hws]
    exact ih (i + 1) hi' hlt (by omega) _ o' hst' hT' hg' h2
theorem pc_OrderApart (s l0 v : Int) (l : List Cm) (cap : Option Nat) (hl : Len l.length) (he : ∀ c ∈ l, c.ep < 18446744073709551616) : PCalls prog f_sautoirlaw21_OrderApart [.agg (stC s l0 v), .fz l.length (cmdsC l) cap] (.b true) := by
  refine pcalls_of mixed t_sautoirlaw21_OrderApart (by simp) fun T => ?_
  have cS := pc_Setup s l0 v
  have cRS := pc_refSetup s l0 v
  simp only [stC] at cS cRS
  unfold s_sautoirlaw21_OrderApart
  simp -implicitDefEqProofs -dsimp only [go_sem, Nat.reduceEqDiff, Nat.reduceAdd, Nat.reduceMul, Nat.reduceSub, Nat.reduceLT, Nat.reduceLeDiff, Nat.reduceBEq, reduceIte, reduceCtorEq, Int.reduceLT, Int.reduceLE, Int.reduceEq, Int.reduceNeg, Int.reduceToNat, Int.reduceAdd, Int.reduceSub, stC, ↓g_call _ _ c_sautoirlaw21_Setup]
  refine CallK.pure cS (aft_nil ?_)
  rcases hok : sok s l0 v with _ | _
  · have cN := pc_oNew0 hok
    simp only [stC] at cN
    simp -implicitDefEqProofs -dsimp only [go_sem, Nat.reduceEqDiff, Nat.reduceAdd, Nat.reduceMul, Nat.reduceSub, Nat.reduceLT, Nat.reduceLeDiff, Nat.reduceBEq, reduceIte, reduceCtorEq, Int.reduceLT, Int.reduceLE, Int.reduceEq, Int.reduceNeg, Int.reduceToNat, Int.reduceAdd, Int.reduceSub, ↓g_call _ _ c_order_New]
    refine CallK.pure cN (aft_nil ?_)
    simp -implicitDefEqProofs -dsimp only [go_sem, Nat.reduceEqDiff, Nat.reduceAdd, Nat.reduceMul, Nat.reduceSub, Nat.reduceLT, Nat.reduceLeDiff, Nat.reduceBEq, reduceIte, reduceCtorEq, Int.reduceLT, Int.reduceLE, Int.reduceEq, Int.reduceNeg, Int.reduceToNat, Int.reduceAdd, Int.reduceSub, ↓g_call _ _ c_sautoirref21_RightSetup]
    refine CallK.pure cRS (aft_nil ?_)
    simp -implicitDefEqProofs -dsimp only [go_sem, Nat.reduceEqDiff, Nat.reduceAdd, Nat.reduceMul, Nat.reduceSub, Nat.reduceLT, Nat.reduceLeDiff, Nat.reduceBEq, reduceIte, reduceCtorEq, Int.reduceLT, Int.reduceLE, Int.reduceEq, Int.reduceNeg, Int.reduceToNat, Int.reduceAdd, Int.reduceSub, hok, Bool.not_false, ↓g_gdc, rcOk, true_and, ↓g_call _ _ c_sautoirlaw21_awake]
    refine CallK.pure pc_awake21 (aft_nil ?_)
    simp -implicitDefEqProofs -dsimp only [go_sem, Nat.reduceEqDiff, Nat.reduceAdd, Nat.reduceMul, Nat.reduceSub, Nat.reduceLT, Nat.reduceLeDiff, Nat.reduceBEq, reduceIte, reduceCtorEq, Int.reduceLT, Int.reduceLE, Int.reduceEq, Int.reduceNeg, Int.reduceToNat, Int.reduceAdd, Int.reduceSub]
    exact finL_pure rfl
  obtain ⟨S, L, rfl, rfl⟩ := sok_nat hok
  have cN := fun T => ac_oNew (T0 := T) hok
  simp only [stC] at cN
  simp -implicitDefEqProofs -dsimp only [go_sem, Nat.reduceEqDiff, Nat.reduceAdd, Nat.reduceMul, Nat.reduceSub, Nat.reduceLT, Nat.reduceLeDiff, Nat.reduceBEq, reduceIte, reduceCtorEq, Int.reduceLT, Int.reduceLE, Int.reduceEq, Int.reduceNeg, Int.reduceToNat, Int.reduceAdd, Int.reduceSub, ↓g_call _ _ c_order_New]
  refine CallK.of (cN T) (fun r T1 ⟨a, ia, q1, q2, q3, q4, q5⟩ => aft_nil ?_)
  subst q1
  have st1 : St T1 a ia (os0 S L v) := by rw [q5]; exact oT_st q4
  have hT1 : TabLe T T1 := by rw [q5, oT]; exact ((TabLe.refl T).put q2).put q3
  simp -implicitDefEqProofs -dsimp only [go_sem, Nat.reduceEqDiff, Nat.reduceAdd, Nat.reduceMul, Nat.reduceSub, Nat.reduceLT, Nat.reduceLeDiff, Nat.reduceBEq, reduceIte, reduceCtorEq, Int.reduceLT, Int.reduceLE, Int.reduceEq, Int.reduceNeg, Int.reduceToNat, Int.reduceAdd, Int.reduceSub]
  refine lp_Ap0 (T0 := T) (cmds := l) (cap := cap) (by repeat' (first | exact finX_ext _ _ | assumption | apply blkR_ext | apply thenR_ext | apply AW_ext)) q4 q2 q3 hl he l 0 rfl (Nat.zero_le _) (by omega) T1 _ st1 hT1 (good0 hok) (fun T3 env Lx hT3 => ?_)
  simp -implicitDefEqProofs -dsimp only [go_sem, Nat.reduceEqDiff, Nat.reduceAdd, Nat.reduceMul, Nat.reduceSub, Nat.reduceLT, Nat.reduceLeDiff, Nat.reduceBEq, reduceIte, reduceCtorEq, Int.reduceLT, Int.reduceLE, Int.reduceEq, Int.reduceNeg, Int.reduceToNat, Int.reduceAdd, Int.reduceSub, ↓g_call _ _ c_sautoirlaw21_awake]
  refine CallK.pure pc_awake21 (aft_nil ?_)
  simp -implicitDefEqProofs -dsimp only [go_sem, Nat.reduceEqDiff, Nat.reduceAdd, Nat.reduceMul, Nat.reduceSub, Nat.reduceLT, Nat.reduceLeDiff, Nat.reduceBEq, reduceIte, reduceCtorEq, Int.reduceLT, Int.reduceLE, Int.reduceEq, Int.reduceNeg, Int.reduceToNat, Int.reduceAdd, Int.reduceSub]
  exact hT3.fin
end Go.Aw
