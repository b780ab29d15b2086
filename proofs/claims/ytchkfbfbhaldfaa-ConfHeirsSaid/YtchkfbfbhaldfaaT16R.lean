import Derived.Test.YtchkfbfbhaldfaaT16Q
namespace Go.Aw
open Go
open Go.Proofs.Try (prog)
set_option linter.all false
set_option maxHeartbeats 4000000

theorem lp_HeirsIn {R : RPost} (hR : ExtR R) {T : Tab} {o a : Cf} {v2 v29 v30 v31 : AV} (hl : Len o.ch.length) (hla : Len a.ch.length) (p2 : v2.isLp = false) (p29 : v29.isLp = false) (p30 : v30.isLp = false) (p31 : v31.isLp = false) :
    ∀ (ys : List Int) (k : Nat), a.ch.drop k = ys → k ≤ a.ch.length → ∀ last : Int, Rise o.place ys last →
    (∀ last' : Int, R (.exit 2) [(2, v2), (7, .lp 7 0), (10, .lp 10 0), (14, .i .i64 last'), (29, v29), (30, v30), (31, v31), (81, .fz a.ch.length (ints a.ch) none), (82, .i .i64 a.ch.length), (83, .i .i64 a.ch.length), (84, .b false)] [(7, o.cells none none), (10, a.cells none none)] T) →
    AW prog sautoirlaw16_ConfHeirs_l1 R [(2, v2), (7, .lp 7 0), (10, .lp 10 0), (14, .i .i64 last), (29, v29), (30, v30), (31, v31), (81, .fz a.ch.length (ints a.ch) none), (82, .i .i64 a.ch.length), (83, .i .i64 k)] [(7, o.cells none none), (10, a.cells none none)] T := by
  intro ys
  induction ys with
  | nil =>
    intro k hk hle last hr h2
    have hk' := drop_nil hk hle
    refine AW_loop hR ?_
    unfold sautoirlaw16_ConfHeirs_l1b
    simp -implicitDefEqProofs -dsimp only [go_sem, Nat.reduceEqDiff, Nat.reduceAdd, Nat.reduceMul, Nat.reduceSub, Nat.reduceLT, Nat.reduceLeDiff, Nat.reduceBEq, reduceIte, reduceCtorEq, Int.reduceLT, Int.reduceLE, Int.reduceEq, Int.reduceNeg, Int.reduceToNat, Int.reduceAdd, Int.reduceSub, hk', Int.lt_irrefl]
    have := h2 last
    rw [hk'] at this
    exact this
  | cons y ys ih =>
    intro k hk hle last hr h2
    obtain ⟨hlt, hy, hk'⟩ := drop_lt hk
    have hla' := hla
    unfold Len at hla
    obtain ⟨r1, r2⟩ := hr
    refine AW_loop hR ?_
    unfold sautoirlaw16_ConfHeirs_l1b
    simp -implicitDefEqProofs -dsimp only [go_sem, Nat.reduceEqDiff, Nat.reduceAdd, Nat.reduceMul, Nat.reduceSub, Nat.reduceLT, Nat.reduceLeDiff, Nat.reduceBEq, reduceIte, reduceCtorEq, Int.reduceLT, Int.reduceLE, Int.reduceEq, Int.reduceNeg, Int.reduceToNat, Int.reduceAdd, Int.reduceSub, Int.ofNat_lt, hlt, Int.natCast_nonneg, Int.toNat_natCast, ints_at, hy, Cf.cells, ↓g_call _ _ c_conf_Conf_Place]
    refine CallK.pure (pc_Place o none none y hl) (aft_nil ?_)
    simp -implicitDefEqProofs -dsimp only [go_sem, Nat.reduceEqDiff, Nat.reduceAdd, Nat.reduceMul, Nat.reduceSub, Nat.reduceLT, Nat.reduceLeDiff, Nat.reduceBEq, reduceIte, reduceCtorEq, Int.reduceLT, Int.reduceLE, Int.reduceEq, Int.reduceNeg, Int.reduceToNat, Int.reduceAdd, Int.reduceSub]
    refine br_split (fun h => ?_) (fun h => ?_)
    · have h' := of_decide_eq_true h
      have h3 : decide (o.place y < last) = false := decide_eq_false (by have := r1 h'; omega)
      rw [if_pos h'] at r2
      simp -implicitDefEqProofs -dsimp only [go_sem, Nat.reduceEqDiff, Nat.reduceAdd, Nat.reduceMul, Nat.reduceSub, Nat.reduceLT, Nat.reduceLeDiff, Nat.reduceBEq, reduceIte, reduceCtorEq, Int.reduceLT, Int.reduceLE, Int.reduceEq, Int.reduceNeg, Int.reduceToNat, Int.reduceAdd, Int.reduceSub, h, h3]
      rw [wrap_succ (by omega)]
      exact ih (k + 1) hk' hlt _ r2 h2
    · have h' := of_decide_eq_false h
      rw [if_neg h'] at r2
      simp -implicitDefEqProofs -dsimp only [go_sem, Nat.reduceEqDiff, Nat.reduceAdd, Nat.reduceMul, Nat.reduceSub, Nat.reduceLT, Nat.reduceLeDiff, Nat.reduceBEq, reduceIte, reduceCtorEq, Int.reduceLT, Int.reduceLE, Int.reduceEq, Int.reduceNeg, Int.reduceToNat, Int.reduceAdd, Int.reduceSub, h]
      rw [wrap_succ (by omega)]
      exact ih (k + 1) hk' hlt _ r2 h2

theorem lp_Heirs {R : RPost} (hR : ExtR R) {T : Tab} {xs ns : List Int} {kx kn : Option Nat} (hl : Len xs.length) : ∀ (ys : List Int) (k : Nat), xs.drop k = ys → k ≤ xs.length →
    ∀ o : Cf, o.right = true → 0 < o.ep → o.ep ≤ 1000000 + k →
    (∀ e L, R (.exit 0) e L T) →
    AW prog sautoirlaw16_ConfHeirs_l0 R [(2, .fz ns.length (ints ns) kn), (7, .lp 7 0), (29, .fz xs.length (ints xs) kx), (30, .i .i64 xs.length), (31, .i .i64 k)] [(7, o.cells none none)] T := by
  intro ys
  induction ys with
  | nil =>
    intro k hk hle o hr h0 h1 hE
    have hk' := drop_nil hk hle
    refine AW_loop hR ?_
    unfold sautoirlaw16_ConfHeirs_l0b
    simp -implicitDefEqProofs -dsimp only [go_sem, Nat.reduceEqDiff, Nat.reduceAdd, Nat.reduceMul, Nat.reduceSub, Nat.reduceLT, Nat.reduceLeDiff, Nat.reduceBEq, reduceIte, reduceCtorEq, Int.reduceLT, Int.reduceLE, Int.reduceEq, Int.reduceNeg, Int.reduceToNat, Int.reduceAdd, Int.reduceSub, hk', Int.lt_irrefl]
    exact hE _ _
  | cons y ys ih =>
    intro k hk hle o hr h0 h1 hE
    obtain ⟨hlt, hy, hk'⟩ := drop_lt hk
    have hl' := hl
    unfold Len at hl
    refine AW_loop hR ?_
    unfold sautoirlaw16_ConfHeirs_l0b
    simp -implicitDefEqProofs -dsimp only [go_sem, Nat.reduceEqDiff, Nat.reduceAdd, Nat.reduceMul, Nat.reduceSub, Nat.reduceLT, Nat.reduceLeDiff, Nat.reduceBEq, reduceIte, reduceCtorEq, Int.reduceLT, Int.reduceLE, Int.reduceEq, Int.reduceNeg, Int.reduceToNat, Int.reduceAdd, Int.reduceSub, Int.ofNat_lt, hlt, Int.natCast_nonneg, Int.toNat_natCast, ints_at, hy]
    refine br_split (fun h => ?_) (fun h => ?_)
    · simp -implicitDefEqProofs -dsimp only [go_sem, Nat.reduceEqDiff, Nat.reduceAdd, Nat.reduceMul, Nat.reduceSub, Nat.reduceLT, Nat.reduceLeDiff, Nat.reduceBEq, reduceIte, reduceCtorEq, Int.reduceLT, Int.reduceLE, Int.reduceEq, Int.reduceNeg, Int.reduceToNat, Int.reduceAdd, Int.reduceSub, h]
      exact hE _ _
    · have h12 := of_decide_eq_false h
      simp -implicitDefEqProofs -dsimp only [go_sem, Nat.reduceEqDiff, Nat.reduceAdd, Nat.reduceMul, Nat.reduceSub, Nat.reduceLT, Nat.reduceLeDiff, Nat.reduceBEq, reduceIte, reduceCtorEq, Int.reduceLT, Int.reduceLE, Int.reduceEq, Int.reduceNeg, Int.reduceToNat, Int.reduceAdd, Int.reduceSub, h]
      refine br_split (fun h3 => ?_) (fun h3 => ?_)
      · simp -implicitDefEqProofs -dsimp only [go_sem, Nat.reduceEqDiff, Nat.reduceAdd, Nat.reduceMul, Nat.reduceSub, Nat.reduceLT, Nat.reduceLeDiff, Nat.reduceBEq, reduceIte, reduceCtorEq, Int.reduceLT, Int.reduceLE, Int.reduceEq, Int.reduceNeg, Int.reduceToNat, Int.reduceAdd, Int.reduceSub, h3]
        exact hE _ _
      · have h3' := of_decide_eq_false h3
        have hn : k < ns.length := by omega
        have hny : ns[k]? = some ns[k] := List.getElem?_eq_getElem hn
        have RP := (right_iff o).1 hr
        have hlo : Len o.ch.length := by have := RP.le; unfold Len; omega
        have hw : IntKind.u64.wrap (o.ep + 1) = o.ep + 1 := IntWalk.u64_in _ (by omega)
        have cPl := pc_Plain o none none (by have := RP.le; omega)
        have cTu := pc_turn o o.plain none none none y ns[k] (o.ep + 1) hlo (by rw [o.plain_len]; have := RP.le; omega)
        have hag := agree_turn RP.fu y ns[k] (o.ep + 1)
        have hhe := heirs hr h0 y ns[k]
        simp -implicitDefEqProofs -dsimp only [go_sem, Nat.reduceEqDiff, Nat.reduceAdd, Nat.reduceMul, Nat.reduceSub, Nat.reduceLT, Nat.reduceLeDiff, Nat.reduceBEq, reduceIte, reduceCtorEq, Int.reduceLT, Int.reduceLE, Int.reduceEq, Int.reduceNeg, Int.reduceToNat, Int.reduceAdd, Int.reduceSub, h3, Int.ofNat_lt, hn, Int.natCast_nonneg, Int.toNat_natCast, ints_at, hny, Cf.cells, hw, ↓g_call _ _ c_sautoirlaw16_Plain]
        refine CallK.pure cPl (aft_rc (fun _ => ⟨?_, trivial⟩) ?_)
        · simp -implicitDefEqProofs -dsimp only [go_sem, Nat.reduceEqDiff, Nat.reduceAdd, Nat.reduceMul, Nat.reduceSub, Nat.reduceLT, Nat.reduceLeDiff, Nat.reduceBEq, reduceIte, reduceCtorEq, Int.reduceLT, Int.reduceLE, Int.reduceEq, Int.reduceNeg, Int.reduceToNat, Int.reduceAdd, Int.reduceSub, gvev, gdd, vev, pev, ints_at, hny, Option.map, Option.bind]
        simp -implicitDefEqProofs -dsimp only [go_sem, Nat.reduceEqDiff, Nat.reduceAdd, Nat.reduceMul, Nat.reduceSub, Nat.reduceLT, Nat.reduceLeDiff, Nat.reduceBEq, reduceIte, reduceCtorEq, Int.reduceLT, Int.reduceLE, Int.reduceEq, Int.reduceNeg, Int.reduceToNat, Int.reduceAdd, Int.reduceSub, Cf.cells, Rf.cells, ↓g_call _ _ c_sautoirlaw16_turn]
        refine CallK.pure cTu (aft_nil ?_)
        generalize o.turn y ns[k] (o.ep + 1) = r at *
        generalize o.plain.turn y ns[k] (o.ep + 1) = s at *
        obtain ⟨a, e⟩ := r
        obtain ⟨b, f⟩ := s
        unfold turnR
        simp -implicitDefEqProofs -dsimp only [go_sem, Nat.reduceEqDiff, Nat.reduceAdd, Nat.reduceMul, Nat.reduceSub, Nat.reduceLT, Nat.reduceLeDiff, Nat.reduceBEq, reduceIte, reduceCtorEq, Int.reduceLT, Int.reduceLE, Int.reduceEq, Int.reduceNeg, Int.reduceToNat, Int.reduceAdd, Int.reduceSub, Cf.cells, Rf.cells]
        refine br_split (fun h4 => ?_) (fun h4 => ?_)
        · simp -implicitDefEqProofs -dsimp only [go_sem, Nat.reduceEqDiff, Nat.reduceAdd, Nat.reduceMul, Nat.reduceSub, Nat.reduceLT, Nat.reduceLeDiff, Nat.reduceBEq, reduceIte, reduceCtorEq, Int.reduceLT, Int.reduceLE, Int.reduceEq, Int.reduceNeg, Int.reduceToNat, Int.reduceAdd, Int.reduceSub, h4]
          rw [wrap_succ (by omega)]
          exact ih (k + 1) hk' hlt o hr h0 (by omega) hE
        · have he : e = 0 := by simpa using h4
          obtain ⟨q1, ⟨x, q2, q2'⟩, q3, q4, q5⟩ := hhe he
          simp only at q1 q2 q3 q4 q5
          have RA := (right_iff a).1 q1
          have hla : Len a.ch.length := by have := RA.le; unfold Len; omega
          have hfa : (0 : Int) < (a.fu.length : Int) := by have := RA.fu; have := RA.pos; omega
          have hf0 := bools_at a.fu 0
          rw [RA.fu0] at hf0
          simp only [List.drop_zero, Option.map_some] at hf0
          have hhd : a.at 0 = x := by
            rw [Cf.at, if_pos ⟨q1, by omega, by have := RA.pos; omega⟩, show (0 : Int).toNat = 0 from rfl, q2]; rfl
          have hpl : decide (o.place x < 0) = false := decide_eq_false (by
            rw [place_eq hr]
            have : ctn o.ch x = true := by rw [ctn_any]; exact decide_eq_true q2'
            simp [ctn] at this
            omega)
          simp -implicitDefEqProofs -dsimp only [go_sem, Nat.reduceEqDiff, Nat.reduceAdd, Nat.reduceMul, Nat.reduceSub, Nat.reduceLT, Nat.reduceLeDiff, Nat.reduceBEq, reduceIte, reduceCtorEq, Int.reduceLT, Int.reduceLE, Int.reduceEq, Int.reduceNeg, Int.reduceToNat, Int.reduceAdd, Int.reduceSub, h4, Cf.cells, ↓g_call _ _ c_conf_Right]
          refine CallK.pure (pc_conf_Right a none none hla) (aft_nil ?_)
          rw [q1]
          have cHd := pc_Head a none none hla
          rw [hhd] at cHd
          simp -implicitDefEqProofs -dsimp only [go_sem, Nat.reduceEqDiff, Nat.reduceAdd, Nat.reduceMul, Nat.reduceSub, Nat.reduceLT, Nat.reduceLeDiff, Nat.reduceBEq, reduceIte, reduceCtorEq, Int.reduceLT, Int.reduceLE, Int.reduceEq, Int.reduceNeg, Int.reduceToNat, Int.reduceAdd, Int.reduceSub, Cf.cells, hfa, List.drop_zero, hf0, ↓g_call _ _ c_conf_Conf_Head]
          refine CallK.pure cHd (aft_nil ?_)
          simp -implicitDefEqProofs -dsimp only [go_sem, Nat.reduceEqDiff, Nat.reduceAdd, Nat.reduceMul, Nat.reduceSub, Nat.reduceLT, Nat.reduceLeDiff, Nat.reduceBEq, reduceIte, reduceCtorEq, Int.reduceLT, Int.reduceLE, Int.reduceEq, Int.reduceNeg, Int.reduceToNat, Int.reduceAdd, Int.reduceSub, Cf.cells, ↓g_call _ _ c_conf_Conf_Place]
          refine CallK.pure (pc_Place o none none x hlo) (aft_nil ?_)
          simp -implicitDefEqProofs -dsimp only [go_sem, Nat.reduceEqDiff, Nat.reduceAdd, Nat.reduceMul, Nat.reduceSub, Nat.reduceLT, Nat.reduceLeDiff, Nat.reduceBEq, reduceIte, reduceCtorEq, Int.reduceLT, Int.reduceLE, Int.reduceEq, Int.reduceNeg, Int.reduceToNat, Int.reduceAdd, Int.reduceSub, hpl, Cf.cells]
          refine lp_HeirsIn (o := o) (a := a) (by repeat' (first | exact finX_ext _ _ | assumption | apply blkR_ext | apply thenR_ext | apply AW_ext)) hlo hla rfl rfl rfl rfl a.ch 0 rfl (by omega) (-1) q3 fun last' => ?_
          simp -implicitDefEqProofs -dsimp only [go_sem, Nat.reduceEqDiff, Nat.reduceAdd, Nat.reduceMul, Nat.reduceSub, Nat.reduceLT, Nat.reduceLeDiff, Nat.reduceBEq, reduceIte, reduceCtorEq, Int.reduceLT, Int.reduceLE, Int.reduceEq, Int.reduceNeg, Int.reduceToNat, Int.reduceAdd, Int.reduceSub, Cf.cells]
          rw [wrap_succ (by omega)]
          exact ih (k + 1) hk' hlt a q1 q5 (by omega) hE

theorem pc_ConfHeirs (c : Rf) (k kx kn : Option Nat) (xs ns : List Int) (hl : Len c.l.length) (hx : Len xs.length) (h0 : 0 ≤ c.ep) :
    PCalls prog f_sautoirlaw16_ConfHeirs [.agg (c.cells k), .fz xs.length (ints xs) kx, .fz ns.length (ints ns) kn] (.b true) := by
  refine pcalls_of mixed t_sautoirlaw16_ConfHeirs (by simp) fun T => ?_
  unfold s_sautoirlaw16_ConfHeirs
  have ho : c.ours.ch.length ≤ 10 := by simp [Rf.ours, ourCh]; omega
  have hep : c.ours.ep = c.ep := rfl
  rw [← hep] at h0
  simp -implicitDefEqProofs -dsimp only [go_sem, Nat.reduceEqDiff, Nat.reduceAdd, Nat.reduceMul, Nat.reduceSub, Nat.reduceLT, Nat.reduceLeDiff, Nat.reduceBEq, reduceIte, reduceCtorEq, Int.reduceLT, Int.reduceLE, Int.reduceEq, Int.reduceNeg, Int.reduceToNat, Int.reduceAdd, Int.reduceSub, Rf.cells, ↓g_call _ _ c_sautoirlaw16_Ours]
  refine CallK.pure (pc_Ours c k hl) (aft_nil ?_)
  generalize c.ours = o at ho h0
  have hlo : Len o.ch.length := by unfold Len; omega
  simp -implicitDefEqProofs -dsimp only [go_sem, Nat.reduceEqDiff, Nat.reduceAdd, Nat.reduceMul, Nat.reduceSub, Nat.reduceLT, Nat.reduceLeDiff, Nat.reduceBEq, reduceIte, reduceCtorEq, Int.reduceLT, Int.reduceLE, Int.reduceEq, Int.reduceNeg, Int.reduceToNat, Int.reduceAdd, Int.reduceSub, Cf.cells, ↓g_call _ _ c_conf_Right]
  refine CallK.pure (pc_conf_Right o none none hlo) (aft_nil ?_)
  cases hr : o.right with
  | false =>
    simp -implicitDefEqProofs -dsimp only [go_sem, Nat.reduceEqDiff, Nat.reduceAdd, Nat.reduceMul, Nat.reduceSub, Nat.reduceLT, Nat.reduceLeDiff, Nat.reduceBEq, reduceIte, reduceCtorEq, Int.reduceLT, Int.reduceLE, Int.reduceEq, Int.reduceNeg, Int.reduceToNat, Int.reduceAdd, Int.reduceSub, Cf.cells, ↓g_call _ _ c_sautoirlaw16_awake]
    refine CallK.pure pc_awake (aft_nil ?_)
    simp -implicitDefEqProofs -dsimp only [go_sem, Nat.reduceEqDiff, Nat.reduceAdd, Nat.reduceMul, Nat.reduceSub, Nat.reduceLT, Nat.reduceLeDiff, Nat.reduceBEq, reduceIte, reduceCtorEq, Int.reduceLT, Int.reduceLE, Int.reduceEq, Int.reduceNeg, Int.reduceToNat, Int.reduceAdd, Int.reduceSub]
    exact finL_pure rfl
  | true =>
    have RP := (right_iff o).1 hr
    simp -implicitDefEqProofs -dsimp only [go_sem, Nat.reduceEqDiff, Nat.reduceAdd, Nat.reduceMul, Nat.reduceSub, Nat.reduceLT, Nat.reduceLeDiff, Nat.reduceBEq, reduceIte, reduceCtorEq, Int.reduceLT, Int.reduceLE, Int.reduceEq, Int.reduceNeg, Int.reduceToNat, Int.reduceAdd, Int.reduceSub, Cf.cells]
    refine br_split (fun h => ?_) (fun h => ?_)
    · simp -implicitDefEqProofs -dsimp only [go_sem, Nat.reduceEqDiff, Nat.reduceAdd, Nat.reduceMul, Nat.reduceSub, Nat.reduceLT, Nat.reduceLeDiff, Nat.reduceBEq, reduceIte, reduceCtorEq, Int.reduceLT, Int.reduceLE, Int.reduceEq, Int.reduceNeg, Int.reduceToNat, Int.reduceAdd, Int.reduceSub, h, ↓g_call _ _ c_sautoirlaw16_awake]
      refine CallK.pure pc_awake (aft_nil ?_)
      simp -implicitDefEqProofs -dsimp only [go_sem, Nat.reduceEqDiff, Nat.reduceAdd, Nat.reduceMul, Nat.reduceSub, Nat.reduceLT, Nat.reduceLeDiff, Nat.reduceBEq, reduceIte, reduceCtorEq, Int.reduceLT, Int.reduceLE, Int.reduceEq, Int.reduceNeg, Int.reduceToNat, Int.reduceAdd, Int.reduceSub]
      exact finL_pure rfl
    · have h' := of_decide_eq_false h
      simp -implicitDefEqProofs -dsimp only [go_sem, Nat.reduceEqDiff, Nat.reduceAdd, Nat.reduceMul, Nat.reduceSub, Nat.reduceLT, Nat.reduceLeDiff, Nat.reduceBEq, reduceIte, reduceCtorEq, Int.reduceLT, Int.reduceLE, Int.reduceEq, Int.reduceNeg, Int.reduceToNat, Int.reduceAdd, Int.reduceSub, h, Cf.cells]
      refine lp_Heirs (xs := xs) (ns := ns) (by repeat' (first | exact finX_ext _ _ | assumption | apply blkR_ext | apply thenR_ext | apply AW_ext)) hx xs 0 rfl (by omega) o hr (by have := RP.ep; omega) (by omega) fun e L => ?_
      simp -implicitDefEqProofs -dsimp only [go_sem, Nat.reduceEqDiff, Nat.reduceAdd, Nat.reduceMul, Nat.reduceSub, Nat.reduceLT, Nat.reduceLeDiff, Nat.reduceBEq, reduceIte, reduceCtorEq, Int.reduceLT, Int.reduceLE, Int.reduceEq, Int.reduceNeg, Int.reduceToNat, Int.reduceAdd, Int.reduceSub, ↓g_call _ _ c_sautoirlaw16_awake]
      refine CallK.pure pc_awake (aft_nil ?_)
      simp -implicitDefEqProofs -dsimp only [go_sem, Nat.reduceEqDiff, Nat.reduceAdd, Nat.reduceMul, Nat.reduceSub, Nat.reduceLT, Nat.reduceLeDiff, Nat.reduceBEq, reduceIte, reduceCtorEq, Int.reduceLT, Int.reduceLE, Int.reduceEq, Int.reduceNeg, Int.reduceToNat, Int.reduceAdd, Int.reduceSub]
      exact finL_pure rfl
end Go.Aw
