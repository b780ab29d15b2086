import Derived.Test.YtfphinopblfacaaDoorG21J
namespace Go.Aw
open Go
open Go.Proofs.Tryd (prog)
set_option linter.all false
set_option maxHeartbeats 4000000

/-! No server is in two configurations. -/
section
variable {R : RPost} (hR : ExtR R) {T : Tab} {id : Nat} {w cs : List Cf} {cmds : List Cm} {cap : Option Nat} {top : Int} {i : Nat}
include hR

theorem lp_Ap3 {k j : Nat} {x y : Cf} (hx : Len x.ch.length) (hy : Len y.ch.length) (hn : k ≠ j → x.ep ≠ y.ep ∧ ∀ z, ¬ (x.has z = true ∧ y.has z = true)) : ∀ (d m : Nat), m + d = 8 →
    (R (.exit 6) [(5, .ptr id 0), (8, .fz w.length (cfsC w) none), (9, .i .u64 top), (10, .i .i64 k), (11, .lp 11 0), (12, .i .i64 j), (13, .lp 13 0), (14, .i .i64 8), (26, .fz cmds.length (cmdsC cmds) cap), (27, .i .i64 cmds.length), (28, .i .i64 i), (45, .fz cs.length (cfsC cs) none), (46, .i .i64 cs.length), (47, .i .i64 k), (98, .fz cs.length (cfsC cs) none), (99, .i .i64 cs.length), (100, .i .i64 j), (106, .b false)] [(11, x.cells none none), (13, y.cells none none)] T) →
    AW prog sautoirlaw21_OrderApart_l3 R [(5, .ptr id 0), (8, .fz w.length (cfsC w) none), (9, .i .u64 top), (10, .i .i64 k), (11, .lp 11 0), (12, .i .i64 j), (13, .lp 13 0), (14, .i .i64 m), (26, .fz cmds.length (cmdsC cmds) cap), (27, .i .i64 cmds.length), (28, .i .i64 i), (45, .fz cs.length (cfsC cs) none), (46, .i .i64 cs.length), (47, .i .i64 k), (98, .fz cs.length (cfsC cs) none), (99, .i .i64 cs.length), (100, .i .i64 j)] [(11, x.cells none none), (13, y.cells none none)] T := by
  intro d
  induction d with
  | zero =>
    intro m hm h2
    have : m = 8 := by omega
    subst this
    refine AW_loop hR ?_
    unfold sautoirlaw21_OrderApart_l3b
    simp -implicitDefEqProofs -dsimp only [go_sem, Nat.reduceEqDiff, Nat.reduceAdd, Nat.reduceMul, Nat.reduceSub, Nat.reduceLT, Nat.reduceLeDiff, Nat.reduceBEq, reduceIte, reduceCtorEq, Int.reduceLT, Int.reduceLE, Int.reduceEq, Int.reduceNeg, Int.reduceToNat, Int.reduceAdd, Int.reduceSub, show ((8 : Nat) : Int) = 8 from rfl]
    exact h2
  | succ d ih =>
    intro m hm h2
    have d1 : decide ((m : Int) < 8) = true := decide_eq_true (by omega)
    have hws : IntKind.i64.wrap ((m : Int) + 1) = ((m + 1 : Nat) : Int) := wrap_succ (by omega)
    have c1 := pc_Has x none none m hx
    have c2 := pc_Has y none none m hy
    simp only [Cf.cells] at c1 c2
    refine AW_loopD (l := sautoirlaw21_OrderApart_l3) rfl hR ?_
    unfold sautoirlaw21_OrderApart_l3b
    by_cases hkj : k = j
    · have d2 : decide ((j : Int) = k) = true := decide_eq_true (by omega)
      simp -implicitDefEqProofs -dsimp only [go_sem, Nat.reduceEqDiff, Nat.reduceAdd, Nat.reduceMul, Nat.reduceSub, Nat.reduceLT, Nat.reduceLeDiff, Nat.reduceBEq, reduceIte, reduceCtorEq, Int.reduceLT, Int.reduceLE, Int.reduceEq, Int.reduceNeg, Int.reduceToNat, Int.reduceAdd, Int.reduceSub, Cf.cells, d1, d2, Bool.not_true, ↓g_gdc, rcOk, true_and, hws]
      exact ih (m + 1) (by omega) h2
    · have d2 : decide ((j : Int) = k) = false := decide_eq_false (by omega)
      obtain ⟨n1, n2⟩ := hn hkj
      have d3 : decide (x.ep = y.ep) = false := decide_eq_false n1
      rcases hb : x.has m with _ | _
      · rw [hb] at c1
        simp -implicitDefEqProofs -dsimp only [go_sem, Nat.reduceEqDiff, Nat.reduceAdd, Nat.reduceMul, Nat.reduceSub, Nat.reduceLT, Nat.reduceLeDiff, Nat.reduceBEq, reduceIte, reduceCtorEq, Int.reduceLT, Int.reduceLE, Int.reduceEq, Int.reduceNeg, Int.reduceToNat, Int.reduceAdd, Int.reduceSub, Cf.cells, d1, d2, Bool.not_false, ↓g_gdc, rcOk, true_and, ↓g_call _ _ c_conf_Conf_Has]
        refine CallK.pure c1 (aft_nil ?_)
        simp -implicitDefEqProofs -dsimp only [go_sem, Nat.reduceEqDiff, Nat.reduceAdd, Nat.reduceMul, Nat.reduceSub, Nat.reduceLT, Nat.reduceLeDiff, Nat.reduceBEq, reduceIte, reduceCtorEq, Int.reduceLT, Int.reduceLE, Int.reduceEq, Int.reduceNeg, Int.reduceToNat, Int.reduceAdd, Int.reduceSub, d3, decide_true, ↓g_gdc, rcOk, true_and, hws]
        exact ih (m + 1) (by omega) h2
      · have hb2 : y.has m = false := by
          cases h : y.has m with
          | false => rfl
          | true => exact absurd ⟨hb, h⟩ (n2 m)
        rw [hb] at c1
        rw [hb2] at c2
        simp -implicitDefEqProofs -dsimp only [go_sem, Nat.reduceEqDiff, Nat.reduceAdd, Nat.reduceMul, Nat.reduceSub, Nat.reduceLT, Nat.reduceLeDiff, Nat.reduceBEq, reduceIte, reduceCtorEq, Int.reduceLT, Int.reduceLE, Int.reduceEq, Int.reduceNeg, Int.reduceToNat, Int.reduceAdd, Int.reduceSub, Cf.cells, d1, d2, Bool.not_false, ↓g_gdc, rcOk, true_and, ↓g_call _ _ c_conf_Conf_Has]
        refine CallK.pure c1 (aft_nil ?_)
        simp -implicitDefEqProofs -dsimp only [go_sem, Nat.reduceEqDiff, Nat.reduceAdd, Nat.reduceMul, Nat.reduceSub, Nat.reduceLT, Nat.reduceLeDiff, Nat.reduceBEq, reduceIte, reduceCtorEq, Int.reduceLT, Int.reduceLE, Int.reduceEq, Int.reduceNeg, Int.reduceToNat, Int.reduceAdd, Int.reduceSub, decide_true, ↓g_gdc, rcOk, true_and, ↓g_call _ _ c_conf_Conf_Has]
        refine CallK.pure c2 (aft_nil ?_)
        simp -implicitDefEqProofs -dsimp only [go_sem, Nat.reduceEqDiff, Nat.reduceAdd, Nat.reduceMul, Nat.reduceSub, Nat.reduceLT, Nat.reduceLeDiff, Nat.reduceBEq, reduceIte, reduceCtorEq, Int.reduceLT, Int.reduceLE, Int.reduceEq, Int.reduceNeg, Int.reduceToNat, Int.reduceAdd, Int.reduceSub, d3, decide_true, ↓g_gdc, rcOk, true_and, hws]
        exact ih (m + 1) (by omega) h2
theorem lp_Ap2 {k : Nat} {x : Cf} (hl : cs.length ≤ 4) (hk : cs[k]? = some x) (hs : ∀ c ∈ cs, Len c.ch.length) (hn : ∀ (j : Nat) y, cs[j]? = some y → k ≠ j → x.ep ≠ y.ep ∧ ∀ z, ¬ (x.has z = true ∧ y.has z = true)) : ∀ (ys : List Cf) (j : Nat), cs.drop j = ys → j ≤ cs.length →
    (R (.exit 4) [(5, .ptr id 0), (8, .fz w.length (cfsC w) none), (9, .i .u64 top), (10, .i .i64 k), (11, .lp 11 0), (26, .fz cmds.length (cmdsC cmds) cap), (27, .i .i64 cmds.length), (28, .i .i64 i), (45, .fz cs.length (cfsC cs) none), (46, .i .i64 cs.length), (47, .i .i64 k), (98, .fz cs.length (cfsC cs) none), (99, .i .i64 cs.length), (100, .i .i64 cs.length), (101, .b false)] [(11, x.cells none none)] T) →
    AW prog sautoirlaw21_OrderApart_l2 R [(5, .ptr id 0), (8, .fz w.length (cfsC w) none), (9, .i .u64 top), (10, .i .i64 k), (11, .lp 11 0), (26, .fz cmds.length (cmdsC cmds) cap), (27, .i .i64 cmds.length), (28, .i .i64 i), (45, .fz cs.length (cfsC cs) none), (46, .i .i64 cs.length), (47, .i .i64 k), (98, .fz cs.length (cfsC cs) none), (99, .i .i64 cs.length), (100, .i .i64 j)] [(11, x.cells none none)] T := by
  intro ys
  induction ys with
  | nil =>
    intro j hj hle h2
    have hj' := drop_nil hj hle
    refine AW_loop hR ?_
    unfold sautoirlaw21_OrderApart_l2b
    rw [← hj']
    simp -implicitDefEqProofs -dsimp only [go_sem, Nat.reduceEqDiff, Nat.reduceAdd, Nat.reduceMul, Nat.reduceSub, Nat.reduceLT, Nat.reduceLeDiff, Nat.reduceBEq, reduceIte, reduceCtorEq, Int.reduceLT, Int.reduceLE, Int.reduceEq, Int.reduceNeg, Int.reduceToNat, Int.reduceAdd, Int.reduceSub, Int.lt_irrefl]
    exact h2
  | cons y ys ih =>
    intro j hj hle h2
    obtain ⟨hlt, hy, hj'⟩ := drop_lt hj
    have hws : IntKind.i64.wrap ((j : Int) + 1) = ((j + 1 : Nat) : Int) := wrap_succ (by omega)
    have hcell := cfsC_at hy
    have hlen : j * 5 + 5 ≤ (cfsC cs).length := by rw [cfsC_length]; omega
    refine AW_loopD (l := sautoirlaw21_OrderApart_l2) rfl hR ?_
    unfold sautoirlaw21_OrderApart_l2b
    have l3 := fun (R : RPost) (hR : ExtR R) h => lp_Ap3 (R := R) hR (T := T) (id := id) (w := w) (cs := cs) (cmds := cmds) (cap := cap) (top := top) (i := i) (k := k) (j := j) (x := x) (y := y) (hs x (List.mem_of_getElem? hk)) (hs y (List.mem_of_getElem? hy)) (hn j y hy) 8 0 rfl h
    simp only [Cf.cells] at l3 h2 ih ⊢
    simp -implicitDefEqProofs -dsimp only [go_sem, Nat.reduceEqDiff, Nat.reduceAdd, Nat.reduceMul, Nat.reduceSub, Nat.reduceLT, Nat.reduceLeDiff, Nat.reduceBEq, reduceIte, reduceCtorEq, Int.reduceLT, Int.reduceLE, Int.reduceEq, Int.reduceNeg, Int.reduceToNat, Int.reduceAdd, Int.reduceSub, Int.ofNat_lt, hlt, Int.natCast_nonneg, Int.toNat_natCast, hlen, hcell, Cf.cells, List.cons_append, List.nil_append]
    refine l3 _ (by repeat' (first | exact finX_ext _ _ | assumption | apply blkR_ext | apply thenR_ext | apply AW_ext)) ?_
    simp -implicitDefEqProofs -dsimp only [go_sem, Nat.reduceEqDiff, Nat.reduceAdd, Nat.reduceMul, Nat.reduceSub, Nat.reduceLT, Nat.reduceLeDiff, Nat.reduceBEq, reduceIte, reduceCtorEq, Int.reduceLT, Int.reduceLE, Int.reduceEq, Int.reduceNeg, Int.reduceToNat, Int.reduceAdd, Int.reduceSub, hws]
    exact ih (j + 1) hj' hlt h2
theorem lp_Ap1 {idC : Nat} {o : Os} (hcs : o.cs = cs) (hst : St T id idC o) (hg : Good o) (hlw : w.length = cs.length) (hsw : ∀ c ∈ w, Len c.ch.length) (ht : ∀ (k : Nat) c d, w[k]? = some c → cs[k]? = some d → Then top c d) : ∀ (ys : List Cf) (k : Nat), cs.drop k = ys → k ≤ cs.length →
    (R (.exit 2) [(5, .ptr id 0), (8, .fz w.length (cfsC w) none), (9, .i .u64 top), (26, .fz cmds.length (cmdsC cmds) cap), (27, .i .i64 cmds.length), (28, .i .i64 i), (45, .fz cs.length (cfsC cs) none), (46, .i .i64 cs.length), (47, .i .i64 cs.length), (48, .b false)] [] T) →
    AW prog sautoirlaw21_OrderApart_l1 R [(5, .ptr id 0), (8, .fz w.length (cfsC w) none), (9, .i .u64 top), (26, .fz cmds.length (cmdsC cmds) cap), (27, .i .i64 cmds.length), (28, .i .i64 i), (45, .fz cs.length (cfsC cs) none), (46, .i .i64 cs.length), (47, .i .i64 k)] [] T := by
  obtain ⟨s1, s2, s3, s4, s5⟩ := hg.small
  have g1 := hg.len
  have g2 := hg.one
  have g3 := hg.two
  have cC := ac_oConfs hst (by omega) s1
  rw [hcs] at s1 s2 s3 s4 s5 g1 g2 g3 cC
  intro ys
  induction ys with
  | nil =>
    intro j hj hle h2
    have hj' := drop_nil hj hle
    refine AW_loop hR ?_
    unfold sautoirlaw21_OrderApart_l1b
    rw [← hj']
    simp -implicitDefEqProofs -dsimp only [go_sem, Nat.reduceEqDiff, Nat.reduceAdd, Nat.reduceMul, Nat.reduceSub, Nat.reduceLT, Nat.reduceLeDiff, Nat.reduceBEq, reduceIte, reduceCtorEq, Int.reduceLT, Int.reduceLE, Int.reduceEq, Int.reduceNeg, Int.reduceToNat, Int.reduceAdd, Int.reduceSub, Int.lt_irrefl]
    exact h2
  | cons x ys ih =>
    intro k hk hle h2
    obtain ⟨hlt, hx, hk'⟩ := drop_lt hk
    have hws : IntKind.i64.wrap ((k : Int) + 1) = ((k + 1 : Nat) : Int) := wrap_succ (by omega)
    have hcell := cfsC_at hx
    have hlen : k * 5 + 5 ≤ (cfsC cs).length := by rw [cfsC_length]; omega
    have hkw : k < w.length := by omega
    obtain ⟨c, hc⟩ : ∃ c, w[k]? = some c := ⟨_, List.getElem?_eq_getElem hkw⟩
    have hcellw := cfsC_at hc
    have hlenw : k * 5 + 5 ≤ (cfsC w).length := by rw [cfsC_length]; omega
    obtain ⟨x1, x2, x3, x4⟩ := g2 k x hx
    have hth := ht k c x hc hx
    have hsx := s5 x (List.mem_of_getElem? hx)
    have hsc := hsw c (List.mem_of_getElem? hc)
    have cR := pc_conf_Right x none none hsx
    rw [x1] at cR
    have cH := pc_Head x none none hsx
    have cP := pc_Place c none none (x.at 0) hsc
    have d1 : decide (x.sh = (k : Int)) = true := decide_eq_true x2
    have d2 : decide (x.ep < c.ep) = false := decide_eq_false (by have := hth.le; omega)
    have d5 : decide (c.place (x.at 0) < 0) = false := decide_eq_false (by have := hth.head; omega)
    have l2 := fun (R : RPost) (hR : ExtR R) h => lp_Ap2 (R := R) hR (T := T) (id := id) (w := w) (cs := cs) (cmds := cmds) (cap := cap) (top := top) (i := i) (k := k) (x := x) g1 hx s5 (fun j y hy hkj => g3 k j x y hx hy hkj) cs 0 rfl (Nat.zero_le _) h
    simp only [Cf.cells] at cR cH cP l2
    have hlt' : (k : Int) < w.length := by omega
    have key : ∀ b, decide (c.ep < x.ep) = b → (b = true → decide (x.ep ≤ top) = false) → AW prog sautoirlaw21_OrderApart_l1 R [(5, .ptr id 0), (8, .fz w.length (cfsC w) none), (9, .i .u64 top), (26, .fz cmds.length (cmdsC cmds) cap), (27, .i .i64 cmds.length), (28, .i .i64 i), (45, .fz cs.length (cfsC cs) none), (46, .i .i64 cs.length), (47, .i .i64 k)] [] T := by
      intro b hb hb2
      refine AW_loopD (l := sautoirlaw21_OrderApart_l1) rfl hR ?_
      unfold sautoirlaw21_OrderApart_l1b
      simp -implicitDefEqProofs -dsimp only [go_sem, Nat.reduceEqDiff, Nat.reduceAdd, Nat.reduceMul, Nat.reduceSub, Nat.reduceLT, Nat.reduceLeDiff, Nat.reduceBEq, reduceIte, reduceCtorEq, Int.reduceLT, Int.reduceLE, Int.reduceEq, Int.reduceNeg, Int.reduceToNat, Int.reduceAdd, Int.reduceSub, Int.ofNat_lt, hlt, Int.natCast_nonneg, Int.toNat_natCast, hlen, hcell, Cf.cells, List.cons_append, List.nil_append, ↓g_call _ _ c_conf_Right]
      refine CallK.pure cR (aft_nil ?_)
      cases b with
      | false =>
        simp -implicitDefEqProofs -dsimp only [go_sem, Nat.reduceEqDiff, Nat.reduceAdd, Nat.reduceMul, Nat.reduceSub, Nat.reduceLT, Nat.reduceLeDiff, Nat.reduceBEq, reduceIte, reduceCtorEq, Int.reduceLT, Int.reduceLE, Int.reduceEq, Int.reduceNeg, Int.reduceToNat, Int.reduceAdd, Int.reduceSub, Int.ofNat_lt, hkw, hlt', d1, d2, hb, Int.natCast_nonneg, Int.toNat_natCast, hlenw, hcellw, Cf.cells, List.cons_append, List.nil_append, Bool.not_true, ↓g_gdc, rcOk, true_and, decide_true, ↓g_call _ _ c_conf_Conf_Head]
        refine CallK.pure cH (aft_rc (fun _ => ?_) ?_)
        · simp -implicitDefEqProofs -dsimp only [go_sem, Nat.reduceEqDiff, Nat.reduceAdd, Nat.reduceMul, Nat.reduceSub, Nat.reduceLT, Nat.reduceLeDiff, Nat.reduceBEq, reduceIte, reduceCtorEq, Int.reduceLT, Int.reduceLE, Int.reduceEq, Int.reduceNeg, Int.reduceToNat, Int.reduceAdd, Int.reduceSub, rcOk, gvev, gdd, Int.ofNat_lt, hkw, hlt', Int.natCast_nonneg, Int.toNat_natCast, hlenw, hcellw, Cf.cells, List.cons_append, List.nil_append]
        simp -implicitDefEqProofs -dsimp only [go_sem, Nat.reduceEqDiff, Nat.reduceAdd, Nat.reduceMul, Nat.reduceSub, Nat.reduceLT, Nat.reduceLeDiff, Nat.reduceBEq, reduceIte, reduceCtorEq, Int.reduceLT, Int.reduceLE, Int.reduceEq, Int.reduceNeg, Int.reduceToNat, Int.reduceAdd, Int.reduceSub, ↓g_gdc, rcOk, true_and, decide_true, ↓g_call _ _ c_conf_Conf_Place]
        refine CallK.pure cP (aft_nil ?_)
        simp -implicitDefEqProofs -dsimp only [go_sem, Nat.reduceEqDiff, Nat.reduceAdd, Nat.reduceMul, Nat.reduceSub, Nat.reduceLT, Nat.reduceLeDiff, Nat.reduceBEq, reduceIte, reduceCtorEq, Int.reduceLT, Int.reduceLE, Int.reduceEq, Int.reduceNeg, Int.reduceToNat, Int.reduceAdd, Int.reduceSub, d5, ↓g_gdc, rcOk, true_and, decide_true, ↓g_call _ _ c_order_State_Confs]
        refine CallK.as cC (aft_nil ?_)
        simp -implicitDefEqProofs -dsimp only [go_sem, Nat.reduceEqDiff, Nat.reduceAdd, Nat.reduceMul, Nat.reduceSub, Nat.reduceLT, Nat.reduceLeDiff, Nat.reduceBEq, reduceIte, reduceCtorEq, Int.reduceLT, Int.reduceLE, Int.reduceEq, Int.reduceNeg, Int.reduceToNat, Int.reduceAdd, Int.reduceSub]
        refine l2 _ (by repeat' (first | exact finX_ext _ _ | assumption | apply blkR_ext | apply thenR_ext | apply AW_ext)) ?_
        simp -implicitDefEqProofs -dsimp only [go_sem, Nat.reduceEqDiff, Nat.reduceAdd, Nat.reduceMul, Nat.reduceSub, Nat.reduceLT, Nat.reduceLeDiff, Nat.reduceBEq, reduceIte, reduceCtorEq, Int.reduceLT, Int.reduceLE, Int.reduceEq, Int.reduceNeg, Int.reduceToNat, Int.reduceAdd, Int.reduceSub, hws]
        exact ih (k + 1) hk' hlt h2
      | true =>
        have hb3 := hb2 rfl
        simp -implicitDefEqProofs -dsimp only [go_sem, Nat.reduceEqDiff, Nat.reduceAdd, Nat.reduceMul, Nat.reduceSub, Nat.reduceLT, Nat.reduceLeDiff, Nat.reduceBEq, reduceIte, reduceCtorEq, Int.reduceLT, Int.reduceLE, Int.reduceEq, Int.reduceNeg, Int.reduceToNat, Int.reduceAdd, Int.reduceSub, Int.ofNat_lt, hkw, hlt', d1, d2, hb, hb3, Int.natCast_nonneg, Int.toNat_natCast, hlenw, hcellw, Cf.cells, List.cons_append, List.nil_append, Bool.not_true, ↓g_gdc, rcOk, true_and, decide_true, ↓g_call _ _ c_conf_Conf_Head]
        refine CallK.pure cH (aft_rc (fun _ => ?_) ?_)
        · simp -implicitDefEqProofs -dsimp only [go_sem, Nat.reduceEqDiff, Nat.reduceAdd, Nat.reduceMul, Nat.reduceSub, Nat.reduceLT, Nat.reduceLeDiff, Nat.reduceBEq, reduceIte, reduceCtorEq, Int.reduceLT, Int.reduceLE, Int.reduceEq, Int.reduceNeg, Int.reduceToNat, Int.reduceAdd, Int.reduceSub, rcOk, gvev, gdd, Int.ofNat_lt, hkw, hlt', Int.natCast_nonneg, Int.toNat_natCast, hlenw, hcellw, Cf.cells, List.cons_append, List.nil_append]
        simp -implicitDefEqProofs -dsimp only [go_sem, Nat.reduceEqDiff, Nat.reduceAdd, Nat.reduceMul, Nat.reduceSub, Nat.reduceLT, Nat.reduceLeDiff, Nat.reduceBEq, reduceIte, reduceCtorEq, Int.reduceLT, Int.reduceLE, Int.reduceEq, Int.reduceNeg, Int.reduceToNat, Int.reduceAdd, Int.reduceSub, ↓g_gdc, rcOk, true_and, decide_true, ↓g_call _ _ c_conf_Conf_Place]
        refine CallK.pure cP (aft_nil ?_)
        simp -implicitDefEqProofs -dsimp only [go_sem, Nat.reduceEqDiff, Nat.reduceAdd, Nat.reduceMul, Nat.reduceSub, Nat.reduceLT, Nat.reduceLeDiff, Nat.reduceBEq, reduceIte, reduceCtorEq, Int.reduceLT, Int.reduceLE, Int.reduceEq, Int.reduceNeg, Int.reduceToNat, Int.reduceAdd, Int.reduceSub, d5, ↓g_gdc, rcOk, true_and, decide_true, ↓g_call _ _ c_order_State_Confs]
        refine CallK.as cC (aft_nil ?_)
        simp -implicitDefEqProofs -dsimp only [go_sem, Nat.reduceEqDiff, Nat.reduceAdd, Nat.reduceMul, Nat.reduceSub, Nat.reduceLT, Nat.reduceLeDiff, Nat.reduceBEq, reduceIte, reduceCtorEq, Int.reduceLT, Int.reduceLE, Int.reduceEq, Int.reduceNeg, Int.reduceToNat, Int.reduceAdd, Int.reduceSub]
        refine l2 _ (by repeat' (first | exact finX_ext _ _ | assumption | apply blkR_ext | apply thenR_ext | apply AW_ext)) ?_
        simp -implicitDefEqProofs -dsimp only [go_sem, Nat.reduceEqDiff, Nat.reduceAdd, Nat.reduceMul, Nat.reduceSub, Nat.reduceLT, Nat.reduceLeDiff, Nat.reduceBEq, reduceIte, reduceCtorEq, Int.reduceLT, Int.reduceLE, Int.reduceEq, Int.reduceNeg, Int.reduceToNat, Int.reduceAdd, Int.reduceSub, hws]
        exact ih (k + 1) hk' hlt h2
    exact key _ rfl (fun h => decide_eq_false (by have := hth.new (of_decide_eq_true h); omega))
end
end Go.Aw
