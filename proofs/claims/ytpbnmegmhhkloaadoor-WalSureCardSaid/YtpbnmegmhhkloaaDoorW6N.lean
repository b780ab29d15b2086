import Derived.Test.YtpbnmegmhhkloaaDoorW6M
namespace Go.Aw
open Go
open Go.Proofs.Tryd (prog)
set_option linter.all false
set_option maxHeartbeats 8000000
set_option maxRecDepth 8000
def SuR (did lid : Nat) (Tz : Tab) (k0 k1 : Int) (R : Z1) : Prop := ∀ (T0 Ta : Tab) (d : Dk) (w : Wl) (all hd : List (Bs × Option Nat)) (va : AV) (sure : Nat) (lost : Bool) (m : Nat) tail ltail, T0 did ≠ .unused -> T0 lid ≠ .unused -> TabLe Tz T0 -> Gr T0 1 va all.length (btK all) Ta -> Dw d -> St d w (all.map (·.1)) sure (hd.map (·.1)) lost m -> m <= 100 -> hd.length <= 2 ->
 R (.exit 0) ((5, .lp 5 0) :: (7, .ptr did 0) :: (8, .ptr lid 0) :: (11, va) :: (12, .fz hd.length (btK hd) (some hd.length)) :: (13, .i .i64 sure) :: (14, .b lost) :: tail) ((5, [.i .u16 k0, .i .u16 k1]) :: ltail) (tL Ta did lid d w)
theorem qp7 {R : Z1} (hR : ExtR R) {did lid : Nat} (hne : did ≠ lid) {Tz : Tab} {k0 k1 : Int} {ops : List Wo} {cap : Option Nat} (hl : Len ops.length) (hlr : ∀ x ∈ ops, Len x.p.length) (h2 : SuR did lid Tz k0 k1 R) : ∀ (ys : List Wo) (k : Nat), ops.drop k = ys -> k <= ops.length -> k <= 20 ->
  ∀ (T0 Ta : Tab) (d : Dk) (w : Wl) (all hd : List (Bs × Option Nat)) (va : AV) (sure : Nat) (lost : Bool), T0 did ≠ .unused -> T0 lid ≠ .unused -> TabLe Tz T0 -> Gr T0 1 va all.length (btK all) Ta -> Dw d -> St d w (all.map (·.1)) sure (hd.map (·.1)) lost (2 * k + 1) -> hd.length <= 2 ->
  AW prog Z6 R [(5, .lp 5 0), (7, .ptr did 0), (8, .ptr lid 0), (11, va), (12, .fz hd.length (btK hd) (some hd.length)), (13, .i .i64 sure), (14, .b lost), (40, .fz ops.length (ops.flatMap woC) cap), (41, .i .i64 ops.length), (42, .i .i64 k)] [(5, [.i .u16 k0, .i .u16 k1])] (tL Ta did lid d w) := by
 unfold Len at hl
 intro ys
 induction ys with
 | nil =>
  intro k hk hle h20 T0 Ta d w all hd va sure lost hd0 hl0 hz hg hdw hst hhd
  have hk' := q35 hk hle
  obtain ⟨p1, p2, p3, p4, p5, p6⟩ := hg.form
  refine q27 hR ?_
  unfold Y7
  simp -implicitDefEqProofs -dsimp only [go_sem, seval, hk', Int.lt_irrefl, p1, p2, p3, p4, p5, p6]
  exact h2 T0 Ta d w all hd va sure lost _ _ _ hd0 hl0 hz hg hdw hst (by omega) hhd
 | cons y ys ih =>
  intro k hk hle h20 T0 Ta d w all hd va sure lost hd0 hl0 hz hg hdw hst hhd
  obtain ⟨hlt, hy, hk'⟩ := q7d hk
  have hws : IntKind.i64.wrap ((k : Int) + 1) = ((k + 1 : Nat) : Int) := q03 (by omega)
  have ea := qo0 ql0 hy
  have e5 : k * 6 + 6 <= (ops.flatMap woC).length := by rw [qe8 ql0]; omega
  obtain ⟨p1, p2, p3, p4, p5, p6⟩ := hg.form
  have hlen := hg.lenAv
  have hy1 := hlr y (List.mem_of_getElem? hy)
  have hD := qck (T := Ta) (did := did) (lid := lid) (d := d) (w := w)
  have quit : ∀ tail ltail, R (.exit 0) ((5, .lp 5 0) :: (7, .ptr did 0) :: (8, .ptr lid 0) :: (11, va) :: (12, .fz hd.length (btK hd) (some hd.length)) :: (13, .i .i64 sure) :: (14, .b lost) :: tail) ((5, [.i .u16 k0, .i .u16 k1]) :: ltail) (tL Ta did lid d w) := fun tail ltail => h2 T0 Ta d w all hd va sure lost _ _ _ hd0 hl0 hz hg hdw hst (by omega) hhd
  refine N6 (l := Z6) rfl hR ?_
  unfold Y7
  by_cases h88 : 20 <= k
  ·have d8 : decide ((20 : Int) <= k) = true := decide_eq_true (by omega)
   simp -implicitDefEqProofs -dsimp only [go_sem, seval, Int.ofNat_lt, hlt, Int.natCast_nonneg, Int.toNat_natCast, ea, e5, woC, bts, List.cons_append, List.nil_append, d8, p1, p2, p3, p4, p5, p6, ↓q1m, q31, true_and]
   exact quit _ _
  have d8 : decide ((20 : Int) <= k) = false := decide_eq_false (by omega)
  rcases hwd : w.dead with _ | _
  case true =>
   rw [hwd] at hD
   simp -implicitDefEqProofs -dsimp only [go_sem, seval, Int.ofNat_lt, hlt, Int.natCast_nonneg, Int.toNat_natCast, ea, e5, woC, bts, List.cons_append, List.nil_append, d8, p1, p2, p3, p4, p5, p6, ↓q1m, q31, true_and, ↓J2 _ _ q06]
   refine can hD ?_
   simp -implicitDefEqProofs -dsimp only [go_sem, seval, p1, p2, p3, p4, p5, p6]
   exact quit _ _
  rw [hwd] at hD
  have hlv : Lv d w.k w.g (all.map (·.1)) sure (2 * k + 1) := by
   rcases hst with ⟨_, h⟩ | ⟨h, _⟩
   ·exact h
   ·rw [hwd] at h; cases h
  have cC := qsz y.p y.c hy1
  obtain ⟨m, hm⟩ : ∃ m, m = y.p.take 40 := ⟨_, rfl⟩
  have lm : m.length <= 40 := by rw [hm, List.length_take]; omega
  rw [<- hm] at cC
  obtain ⟨q, hq⟩ : ∃ q : Bs, q = 9 :: m := ⟨_, rfl⟩
  have lq : q.length = 1 + m.length := by rw [hq, List.length_cons]; omega
  have okq : okS q := ⟨by omega, by omega⟩
  have hd2 : (tL Ta did lid d w) did ≠ .unused := by rw [qf0 hne]; simp
  have hl2 : (tL Ta did lid d w) lid ≠ .unused := by rw [qaj]; simp
  have hgT : Gr (tL T0 did lid d w) 1 va all.length (btK all) (tL Ta did lid d w) := qt3 hg hd0 hl0
  have han : all.length <= 2 * k + 1 := by have := hlv.n; rwa [List.length_map] at this
  simp only [bts] at cC
  simp -implicitDefEqProofs -dsimp only [go_sem, seval, Int.ofNat_lt, hlt, Int.natCast_nonneg, Int.toNat_natCast, ea, e5, woC, bts, List.cons_append, List.nil_append, d8, p1, p2, p3, p4, p5, p6, ↓q1m, q31, true_and, ↓J2 _ _ q06]
  refine can hD ?_
  simp -implicitDefEqProofs -dsimp only [go_sem, seval, p1, p2, p3, p4, p5, p6, ↓J2 _ _ q6q]
  refine cpn cC ?_
  have hg9 : Gr (tL Ta did lid d w) 1 (.fz 1 (J1 [9]) (some 1)) 1 (J1 [9]) (tL Ta did lid d w) := .inr ⟨rfl, rfl, rfl⟩
  simp -implicitDefEqProofs -dsimp only [go_sem, seval, p1, p2, p3, p4, p5, p6]
  refine hg9.app0 (m := m.length) (I8 m none) rfl (by omega) (by omega) fun v' T2 hg2 => J7 ?_
  obtain ⟨g1, g2, g3, g4, g5, g6⟩ := hg2.form
  have hbq : J1 [9] ++ J1 m = J1 q := by rw [U1, hq]; rfl
  rw [hbq, <- lq] at hg2
  simp -implicitDefEqProofs -dsimp only [go_sem, seval, p1, p2, p3, p4, p5, p6, g1, g2, g3, g4, g5, g6]
  refine qvg hg2 fun S cq hS hv => ?_
  have f1 : frX T2 S (.ptr did 0) = .ptr did 0 := qbw fun hm => hd2 (hS _ hm)
  have f2 : frX T2 S (.ptr lid 0) = .ptr lid 0 := qbw fun hm => hl2 (hS _ hm)
  have f3 : frX T2 S va = va := qna hgT hS
  simp only [frE, f1, f2, f3, hv, qs1, qs2, qn2, qky]
  clear hv hS f1 f2 f3 hg2 g1 g2 g3 g4 g5 g6
  have kinds : ((decide (y.k = 0) = true /\ decide (y.k = 1) = decide (y.k = 1) /\ decide (y.k = 2) = decide (y.k = 2)) \/ (decide (y.k = 0) = false /\ decide (y.k = 1) = true /\ decide (y.k = 2) = decide (y.k = 2)) \/ (decide (y.k = 0) = false /\ decide (y.k = 1) = false /\ decide (y.k = 2) = true)) \/
    (decide (y.k = 0) = false /\ decide (y.k = 1) = false /\ decide (y.k = 2) = false /\ ((decide (y.k = 3) = true /\ decide (y.k = 4) = decide (y.k = 4)) \/ (decide (y.k = 3) = false /\ decide (y.k = 4) = true))) \/
    (decide (y.k = 0) = false /\ decide (y.k = 1) = false /\ decide (y.k = 2) = false /\ decide (y.k = 3) = false /\ decide (y.k = 4) = false /\ decide (y.k = 5) = true) \/
    (decide (y.k = 0) = false /\ decide (y.k = 1) = false /\ decide (y.k = 2) = false /\ decide (y.k = 3) = false /\ decide (y.k = 4) = false /\ decide (y.k = 5) = false) := by
   cases decide (y.k = 0) <;> cases decide (y.k = 1) <;> cases decide (y.k = 2) <;> cases decide (y.k = 3) <;> cases decide (y.k = 4) <;> cases decide (y.k = 5) <;> simp
  rcases kinds with hq1 | ⟨n0, n1, n2, hq1⟩ | ⟨n0, n1, n2, n3, n4, n5⟩ | ⟨n0, n1, n2, n3, n4, n5⟩
  ·have hA := qkr (T := Ta) hne (w := w) hdw q cq (by omega)
   simp only [bts] at hA
   have hst2 := qsv (hd := hd.map (·.1)) (lost := lost) hwd hlv (by omega) okq
   have hdw2 := qp4 hdw w q
   generalize qft d w q = AF at *
   obtain ⟨code, d', w'⟩ := AF
   simp only at hA hst2 hdw2
   rcases hq1 with ⟨n0, n1, n2⟩ | ⟨n0, n1, n2⟩ | ⟨n0, n1, n2⟩
   all_goals
    simp -implicitDefEqProofs -dsimp only [go_sem, seval, n0, n1, n2, p1, p2, p3, p4, p5, p6, ↓J2 _ _ q38]
    refine can hA ?_
    simp -implicitDefEqProofs -dsimp only [go_sem, seval, p1, p2, p3, p4, p5, p6]
    refine (qt3 (d := d') (w := w') hg hd0 hl0).app (m := 1) (news := [.fz q.length (J1 q) cq]) rfl rfl (by decide) (by omega) (by omega) fun v2 T3 ho3 => J7 ?_
    obtain ⟨Ta', rfl, ho4⟩ := qhg ho3 hd0 hl0
    obtain ⟨r1, r2, r3, r4, r5, r6⟩ := ho4.form
    simp -implicitDefEqProofs -dsimp only [go_sem, seval, r1, r2, r3, r4, r5, r6, hws]
    have ho5 : Gr T0 1 v2 (all ++ [(q, cq)]).length (btK (all ++ [(q, cq)])) Ta' := by
     rw [List.length_append, <- qha]; exact .inl ho4
    refine ih (k + 1) hk' hlt (by omega) T0 Ta' d' w' (all ++ [(q, cq)]) hd v2 sure lost hd0 hl0 hz ho5 hdw2 ?_ hhd
    rw [List.map_append]
    exact qcl hst2 (by omega)
  ·have hS := qfy (T := Ta) hne (w := w) hdw
   have hst2 := qou (hd := hd.map (·.1)) (lost := lost) hwd hlv
   have hdw2 := qkv hdw w
   generalize q71 d w = AF at *
   obtain ⟨code, d', w'⟩ := AF
   simp only at hS hst2 hdw2
   by_cases hc : code = 0
   ·have dc : decide (code = 0) = true := decide_eq_true hc
    rw [if_pos hc, List.length_map] at hst2
    rcases hq1 with ⟨n3, n4⟩ | ⟨n3, n4⟩
    all_goals
     simp -implicitDefEqProofs -dsimp only [go_sem, seval, n0, n1, n2, n3, n4, p1, p2, p3, p4, p5, p6, ↓J2 _ _ q28]
     refine can hS ?_
     simp -implicitDefEqProofs -dsimp only [go_sem, seval, dc, ↓hlen, p1, p2, p3, p4, p5, p6, hws]
     exact ih (k + 1) hk' hlt (by omega) T0 Ta d' w' all hd va all.length lost hd0 hl0 hz hg hdw2 (qcl hst2 (by omega)) hhd
   ·have dc : decide (code = 0) = false := decide_eq_false hc
    rw [if_neg hc] at hst2
    rcases hq1 with ⟨n3, n4⟩ | ⟨n3, n4⟩
    all_goals
     simp -implicitDefEqProofs -dsimp only [go_sem, seval, n0, n1, n2, n3, n4, p1, p2, p3, p4, p5, p6, ↓J2 _ _ q28]
     refine can hS ?_
     simp -implicitDefEqProofs -dsimp only [go_sem, seval, dc, p1, p2, p3, p4, p5, p6, hws]
     exact ih (k + 1) hk' hlt (by omega) T0 Ta d' w' all hd va sure lost hd0 hl0 hz hg hdw2 (qcl hst2 (by omega)) hhd
  ·have hg8 : Gr (tL Ta did lid d w) 1 (.fz 1 (J1 [8]) (some 1)) 1 (J1 [8]) (tL Ta did lid d w) := .inr ⟨rfl, rfl, rfl⟩
   obtain ⟨q2, hq2⟩ : ∃ q2 : Bs, q2 = 8 :: q := ⟨_, rfl⟩
   have lq2 : q2.length = 1 + q.length := by rw [hq2, List.length_cons]; omega
   have okq2 : okS q2 := ⟨by omega, by omega⟩
   simp -implicitDefEqProofs -dsimp only [go_sem, seval, n0, n1, n2, n3, n4, n5, p1, p2, p3, p4, p5, p6]
   refine hg8.app0 (m := q.length) (I8 q cq) rfl (by omega) (by omega) fun v2 T3 hg3 => J7 ?_
   obtain ⟨g1, g2, g3, g4, g5, g6⟩ := hg3.form
   have hbq2 : J1 [8] ++ J1 q = J1 q2 := by rw [U1, hq2]; rfl
   rw [hbq2, <- lq2] at hg3
   simp -implicitDefEqProofs -dsimp only [go_sem, seval, p1, p2, p3, p4, p5, p6, g1, g2, g3, g4, g5, g6]
   refine qt4 (N := [12]) hg3 fun S c2 hS hv => ?_
   have f1 : frX T3 S (.ptr did 0) = .ptr did 0 := qbw fun hm => hd2 (hS _ hm)
   have f2 : frX T3 S (.ptr lid 0) = .ptr lid 0 := qbw fun hm => hl2 (hS _ hm)
   have f3 : frX T3 S va = va := qna hgT hS
   simp only [qpd, frY, List.mem_singleton, reduceIte, Nat.reduceEqDiff, List.map_cons, List.map_nil, f1, f2, f3, hv, qs1, qs2, qn2, qky, qnz]
   clear hv hS f1 f2 f3 hg3 g1 g2 g3 g4 g5 g6
   have okh : ∀ r ∈ [q, q2], okS r := fun r hr => by
    simp only [List.mem_cons, List.not_mem_nil, or_false] at hr
    rcases hr with rfl | rfl
    ·exact okq
    ·exact okq2
   have hfr := q72 (m := 42) [q, q2] fun r hr => (okh r hr).2
   have hC := (qhe (T := Ta) hne (w := w) hdw hlv.hk hwd (by have := hlv.g; omega) [q, q2] none (show 2 <= 1000 by decide) (fun r h => (okh r h).f) (by simp only [List.length_cons, List.length_nil] at hfr; omega)).wk (xs := [.ptr lid 0, .fz 2 [.fz q.length (J1 q) cq, .fz q2.length (J1 q2) c2] (some 2)]) (Wks.cons (.refl _) (Wks.one (Wk.fzs (cells' := btL [q, q2]) ⟨.fz, .fz, trivial⟩)))
   have hst2 := qov (hd0 := []) (lost := false) hwd hlv (by omega) okh rfl
   have hdw2 := qmr hdw w [q, q2]
   generalize q3q d w [q, q2] = CF at *
   obtain ⟨code, d', w'⟩ := CF
   simp only at hC hst2 hdw2
   have used : ∀ j, T0 j ≠ .unused -> Ta j ≠ .unused := fun j hj => by
    rcases hg with ho | ⟨_, _, rfl⟩
    ·rw [Own.at ho hj]; exact hj
    ·exact hj
   rcases hst2 with ⟨hc, e2, e3⟩ | ⟨hc, e2, e3, e4⟩
   ·subst hc
    simp -implicitDefEqProofs -dsimp only [go_sem, seval, p1, p2, p3, p4, p5, p6, ↓J2 _ _ q2n]
    refine can hC ?_
    simp -implicitDefEqProofs -dsimp only [go_sem, seval, decide_true, p1, p2, p3, p4, p5, p6, hws]
    exact ih (k + 1) hk' hlt (by omega) Ta Ta d' w' [(q, cq), (q2, c2)] [(q, cq), (q2, c2)] _ 2 lost (used _ hd0) (used _ hl0) (hz.trans hg.le) (.inr ⟨rfl, rfl, rfl⟩) hdw2 (.inl ⟨e2, ql1 e3 (by omega)⟩) (Nat.le_refl _)
   ·have dc : decide (code = 0) = false := decide_eq_false hc
    simp -implicitDefEqProofs -dsimp only [go_sem, seval, p1, p2, p3, p4, p5, p6, ↓J2 _ _ q2n]
    refine can hC ?_
    simp -implicitDefEqProofs -dsimp only [go_sem, seval, dc, p1, p2, p3, p4, p5, p6, hws]
    exact ih (k + 1) hk' hlt (by omega) T0 Ta d' w' all [(q, cq), (q2, c2)] va sure true hd0 hl0 hz hg hdw2 (.inr ⟨e2, e3, e4, by rw [List.length_map]; omega⟩) (Nat.le_refl _)
  ·simp -implicitDefEqProofs -dsimp only [go_sem, seval, n0, n1, n2, n3, n4, n5, p1, p2, p3, p4, p5, p6, hws]
   exact ih (k + 1) hk' hlt (by omega) T0 Ta d w all hd va sure lost hd0 hl0 hz hg hdw (qcl hst (by omega)) hhd
end Go.Aw
