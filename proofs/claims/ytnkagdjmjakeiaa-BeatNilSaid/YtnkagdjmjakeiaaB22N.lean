import Derived.Test.YtnkagdjmjakeiaaB22M
namespace Go.Aw
open Go
open Go.Proofs.Try (prog)
set_option linter.all false
set_option maxHeartbeats 4000000

structure Ev where
  k : Int
  n : Int
  x : Be
def evC (e : Ev) : List AV := [.i .i64 e.k, .i .i64 e.n, .i .i64 e.x.a, .i .u64 e.x.b, .b e.x.c, .i .i64 e.x.d]
theorem evC_len (e : Ev) : (evC e).length = 6 := rfl
def stepW (lim : Int) (l : List Wr) (e : Ev) : List Wr := if e.k = 0 then l.map (tickR lim) else if e.k = 1 then heardW l e.n e.x else l
def watchW (lim : Int) (es : List Ev) : List Wr := es.foldl (stepW lim) wrs0

theorem tickR_ok {lim : Int} {w : Wr} (h1 : 1 ≤ lim) (h : 0 ≤ w.g ∧ w.g ≤ lim + 1) : 0 ≤ (tickR lim w).g ∧ (tickR lim w).g ≤ lim + 1 := by
  unfold tickR; split
  · simp only; omega
  · exact h
theorem WOk.tick {lim : Int} {l : List Wr} (h : WOk lim l) : WOk lim (l.map (tickR lim)) := ⟨by rw [List.length_map]; exact h.n, h.l1, h.l2, fun w hw => by
  obtain ⟨w0, h0, rfl⟩ := List.mem_map.1 hw
  exact tickR_ok h.l1 (h.g _ h0)⟩
theorem WOk.heard {lim : Int} {l : List Wr} (h : WOk lim l) (n : Int) (b : Be) : WOk lim (heardW l n b) := by
  unfold heardW; split
  · refine ⟨by rw [List.length_set]; exact h.n, h.l1, h.l2, fun w hw => ?_⟩
    rcases List.mem_or_eq_of_mem_set hw with h' | rfl
    · exact h.g _ h'
    · have := h.l1; simp only; omega
  · exact h
theorem WOk.step {lim : Int} {l : List Wr} (h : WOk lim l) (e : Ev) : WOk lim (stepW lim l e) := by
  unfold stepW; split
  · exact h.tick
  · split
    · exact h.heard _ _
    · exact h
theorem WOk.fold {lim : Int} : ∀ {es : List Ev} {l : List Wr}, WOk lim l → WOk lim (es.foldl (stepW lim) l)
  | [], _, h => h
  | e :: es, _, h => WOk.fold (es := es) (h.step e)

theorem lp_Watch {R : RPost} (hR : ExtR R) {id : Nat} {lim : Int} {es : List Ev} {cap : Option Nat} (hl : Len es.length) : ∀ (ys : List Ev) (k : Nat), es.drop k = ys → k ≤ es.length → ∀ (l : List Wr) (T : Tab), WOk lim l → Wt T id lim l →
    R (.exit 0) [(5, .ptr id 0), (10, .fz es.length (es.flatMap evC) cap), (11, .i .i64 es.length), (12, .i .i64 es.length), (13, .b false)] [] (T.put id (.row 49 (waC lim (ys.foldl (stepW lim) l)))) →
    AW prog sautoirlaw22_Watch_l0 R [(5, .ptr id 0), (10, .fz es.length (es.flatMap evC) cap), (11, .i .i64 es.length), (12, .i .i64 k)] [] T := by
  intro ys
  induction ys with
  | nil =>
    intro k hk hle l T hw hT h2
    have hk' := drop_nil hk hle
    rw [List.foldl_nil, Tab.put_self hT] at h2
    refine AW_loop hR ?_
    unfold sautoirlaw22_Watch_l0b
    simp -implicitDefEqProofs -dsimp only [go_sem, Nat.reduceEqDiff, Nat.reduceAdd, Nat.reduceMul, Nat.reduceSub, Nat.reduceLT, Nat.reduceLeDiff, Nat.reduceBEq, reduceIte, reduceCtorEq, Int.reduceLT, Int.reduceLE, Int.reduceEq, Int.reduceNeg, Int.reduceToNat, Int.reduceAdd, Int.reduceSub, hk', Int.lt_irrefl]
    rw [hk'] at h2
    exact h2
  | cons y ys ih =>
    intro k hk hle l T hw hT h2
    obtain ⟨hlt, hy, hk'⟩ := drop_lt hk
    have hcell := flat_at evC_len hy
    have hlen : k * 6 + 6 ≤ (es.flatMap evC).length := by rw [flat_length evC_len]; omega
    have hl' := hl
    unfold Len at hl
    have hws : IntKind.i64.wrap ((k : Int) + 1) = ((k + 1 : Nat) : Int) := wrap_succ (by omega)
    have hgo := fun l' T' (hw' : WOk lim l') (hT' : Wt T' id lim l') (he : T'.put id (.row 49 (waC lim (ys.foldl (stepW lim) l'))) = T.put id (.row 49 (waC lim (ys.foldl (stepW lim) l')))) (hs : stepW lim l y = l') => ih (k + 1) hk' hlt l' T' hw' hT' (by
      rw [he, ← hs]; exact h2)
    refine AW_loopD (l := sautoirlaw22_Watch_l0) rfl hR ?_
    unfold sautoirlaw22_Watch_l0b
    simp -implicitDefEqProofs -dsimp only [go_sem, Nat.reduceEqDiff, Nat.reduceAdd, Nat.reduceMul, Nat.reduceSub, Nat.reduceLT, Nat.reduceLeDiff, Nat.reduceBEq, reduceIte, reduceCtorEq, Int.reduceLT, Int.reduceLE, Int.reduceEq, Int.reduceNeg, Int.reduceToNat, Int.reduceAdd, Int.reduceSub, Int.ofNat_lt, hlt, Int.natCast_nonneg, Int.toNat_natCast, hcell, hlen, evC, List.cons_append, List.nil_append]
    refine br_split (fun h => ?_) (fun h => ?_)
    · have hk0 : y.k = 0 := of_decide_eq_true h
      simp -implicitDefEqProofs -dsimp only [go_sem, Nat.reduceEqDiff, Nat.reduceAdd, Nat.reduceMul, Nat.reduceSub, Nat.reduceLT, Nat.reduceLeDiff, Nat.reduceBEq, reduceIte, reduceCtorEq, Int.reduceLT, Int.reduceLE, Int.reduceEq, Int.reduceNeg, Int.reduceToNat, Int.reduceAdd, Int.reduceSub, h, ↓g_call _ _ c_beat_Watch_Tick]
      refine CallK.as (ac_bTick hT hw) (aft_nil ?_)
      simp -implicitDefEqProofs -dsimp only [go_sem, Nat.reduceEqDiff, Nat.reduceAdd, Nat.reduceMul, Nat.reduceSub, Nat.reduceLT, Nat.reduceLeDiff, Nat.reduceBEq, reduceIte, reduceCtorEq, Int.reduceLT, Int.reduceLE, Int.reduceEq, Int.reduceNeg, Int.reduceToNat, Int.reduceAdd, Int.reduceSub, hws]
      exact hgo _ _ hw.tick (Tab.put_same ..) (Tab.put_put ..) (by unfold stepW; rw [if_pos hk0])
    have hk0 : ¬ y.k = 0 := of_decide_eq_false h
    simp -implicitDefEqProofs -dsimp only [go_sem, Nat.reduceEqDiff, Nat.reduceAdd, Nat.reduceMul, Nat.reduceSub, Nat.reduceLT, Nat.reduceLeDiff, Nat.reduceBEq, reduceIte, reduceCtorEq, Int.reduceLT, Int.reduceLE, Int.reduceEq, Int.reduceNeg, Int.reduceToNat, Int.reduceAdd, Int.reduceSub, h]
    refine br_split (fun h => ?_) (fun h => ?_)
    · have hk1 : y.k = 1 := of_decide_eq_true h
      have hH := ac_bHeard hT hw y.n y.x
      simp only [Be.cells] at hH
      simp -implicitDefEqProofs -dsimp only [go_sem, Nat.reduceEqDiff, Nat.reduceAdd, Nat.reduceMul, Nat.reduceSub, Nat.reduceLT, Nat.reduceLeDiff, Nat.reduceBEq, reduceIte, reduceCtorEq, Int.reduceLT, Int.reduceLE, Int.reduceEq, Int.reduceNeg, Int.reduceToNat, Int.reduceAdd, Int.reduceSub, h, ↓g_call _ _ c_beat_Watch_Heard]
      refine CallK.as hH (aft_nil ?_)
      simp -implicitDefEqProofs -dsimp only [go_sem, Nat.reduceEqDiff, Nat.reduceAdd, Nat.reduceMul, Nat.reduceSub, Nat.reduceLT, Nat.reduceLeDiff, Nat.reduceBEq, reduceIte, reduceCtorEq, Int.reduceLT, Int.reduceLE, Int.reduceEq, Int.reduceNeg, Int.reduceToNat, Int.reduceAdd, Int.reduceSub, hws]
      exact hgo _ _ (hw.heard _ _) (Tab.put_same ..) (Tab.put_put ..) (by unfold stepW; rw [if_neg hk0, if_pos hk1])
    have hk1 : ¬ y.k = 1 := of_decide_eq_false h
    simp -implicitDefEqProofs -dsimp only [go_sem, Nat.reduceEqDiff, Nat.reduceAdd, Nat.reduceMul, Nat.reduceSub, Nat.reduceLT, Nat.reduceLeDiff, Nat.reduceBEq, reduceIte, reduceCtorEq, Int.reduceLT, Int.reduceLE, Int.reduceEq, Int.reduceNeg, Int.reduceToNat, Int.reduceAdd, Int.reduceSub, h, hws]
    exact hgo _ _ hw hT rfl (by unfold stepW; rw [if_neg hk0, if_neg hk1])

theorem ac_Watch {T : Tab} (es : List Ev) (cap : Option Nat) (n : Int) (hl : Len es.length) : ACalls prog f_sautoirlaw22_Watch [.fz es.length (es.flatMap evC) cap, .i .i64 n] T
    (fun r T' => ∃ id, r = .ptr id 0 ∧ T id = .unused ∧ T' = T.put id (.row 49 (waC (clampW n) (watchW (clampW n) es)))) := by
  refine acalls_of mixed t_sautoirlaw22_Watch (by simp) ?_
  unfold s_sautoirlaw22_Watch
  simp -implicitDefEqProofs -dsimp only [go_sem, Nat.reduceEqDiff, Nat.reduceAdd, Nat.reduceMul, Nat.reduceSub, Nat.reduceLT, Nat.reduceLeDiff, Nat.reduceBEq, reduceIte, reduceCtorEq, Int.reduceLT, Int.reduceLE, Int.reduceEq, Int.reduceNeg, Int.reduceToNat, Int.reduceAdd, Int.reduceSub, ↓g_call _ _ c_beat_New]
  refine CallK.of (ac_bNew n) (fun r T1 ⟨id, e1, hid, e2⟩ => aft_nil ?_)
  subst e1; subst e2
  simp -implicitDefEqProofs -dsimp only [go_sem, Nat.reduceEqDiff, Nat.reduceAdd, Nat.reduceMul, Nat.reduceSub, Nat.reduceLT, Nat.reduceLeDiff, Nat.reduceBEq, reduceIte, reduceCtorEq, Int.reduceLT, Int.reduceLE, Int.reduceEq, Int.reduceNeg, Int.reduceToNat, Int.reduceAdd, Int.reduceSub]
  refine lp_Watch (lim := clampW n) (by repeat' (first | exact finX_ext _ _ | assumption | apply blkR_ext | apply thenR_ext | apply AW_ext)) hl es 0 rfl (by omega) wrs0 _ (wok0 n) (Tab.put_same ..) ?_
  simp -implicitDefEqProofs -dsimp only [go_sem, Nat.reduceEqDiff, Nat.reduceAdd, Nat.reduceMul, Nat.reduceSub, Nat.reduceLT, Nat.reduceLeDiff, Nat.reduceBEq, reduceIte, reduceCtorEq, Int.reduceLT, Int.reduceLE, Int.reduceEq, Int.reduceNeg, Int.reduceToNat, Int.reduceAdd, Int.reduceSub]
  rw [Tab.put_put]
  exact finL_of _ (fun _ => .inr (.inl rfl)) ⟨id, rfl, hid, rfl⟩

/-! The reference. -/
def rlast (n : Int) (r : Be × Bool) (e : Ev) : Be × Bool := if e.k = 1 ∧ e.n = n ∧ 0 ≤ n ∧ n ≤ 7 then (e.x, true) else r
theorem lp_rLast {R : RPost} (hR : ExtR R) {T : Tab} {n : Int} {es : List Ev} {cap : Option Nat} {q : List AV} (hl : Len es.length) : ∀ (ys : List Ev) (k : Nat), es.drop k = ys → k ≤ es.length → ∀ (r : Be × Bool),
    R (.exit 0) [(1, .i .i64 n), (4, .lp 4 0), (6, .lp 6 0), (7, .b (ys.foldl (rlast n) r).2), (11, .fz es.length (es.flatMap evC) cap), (12, .i .i64 es.length), (13, .i .i64 es.length), (14, .b false)] [(4, q), (6, (ys.foldl (rlast n) r).1.cells)] T →
    AW prog sautoirref22_Last_l0 R [(1, .i .i64 n), (4, .lp 4 0), (6, .lp 6 0), (7, .b r.2), (11, .fz es.length (es.flatMap evC) cap), (12, .i .i64 es.length), (13, .i .i64 k)] [(4, q), (6, r.1.cells)] T := by
  intro ys
  induction ys with
  | nil =>
    intro k hk hle r h2
    have hk' := drop_nil hk hle
    refine AW_loop hR ?_
    unfold sautoirref22_Last_l0b
    simp -implicitDefEqProofs -dsimp only [go_sem, Nat.reduceEqDiff, Nat.reduceAdd, Nat.reduceMul, Nat.reduceSub, Nat.reduceLT, Nat.reduceLeDiff, Nat.reduceBEq, reduceIte, reduceCtorEq, Int.reduceLT, Int.reduceLE, Int.reduceEq, Int.reduceNeg, Int.reduceToNat, Int.reduceAdd, Int.reduceSub, hk', Int.lt_irrefl]
    rw [hk'] at h2
    exact h2
  | cons y ys ih =>
    intro k hk hle r h2
    obtain ⟨hlt, hy, hk'⟩ := drop_lt hk
    have hcell := flat_at evC_len hy
    have hlen : k * 6 + 6 ≤ (es.flatMap evC).length := by rw [flat_length evC_len]; omega
    have hl' := hl
    unfold Len at hl
    have hws : IntKind.i64.wrap ((k : Int) + 1) = ((k + 1 : Nat) : Int) := wrap_succ (by omega)
    have hno : ¬ (y.k = 1 ∧ y.n = n ∧ 0 ≤ n ∧ n ≤ 7) → _ := fun h => ih (k + 1) hk' hlt r (by
      rw [List.foldl_cons, rlast, if_neg h] at h2; exact h2)
    have hyes : (y.k = 1 ∧ y.n = n ∧ 0 ≤ n ∧ n ≤ 7) → _ := fun h => ih (k + 1) hk' hlt (y.x, true) (by
      rw [List.foldl_cons, rlast, if_pos h] at h2; exact h2)
    simp only [Be.cells] at hno hyes ⊢
    refine AW_loopD (l := sautoirref22_Last_l0) rfl hR ?_
    unfold sautoirref22_Last_l0b
    rcases d1 : decide (y.k = 1) with _ | _
    · simp -implicitDefEqProofs -dsimp only [go_sem, Nat.reduceEqDiff, Nat.reduceAdd, Nat.reduceMul, Nat.reduceSub, Nat.reduceLT, Nat.reduceLeDiff, Nat.reduceBEq, reduceIte, reduceCtorEq, Int.reduceLT, Int.reduceLE, Int.reduceEq, Int.reduceNeg, Int.reduceToNat, Int.reduceAdd, Int.reduceSub, Int.ofNat_lt, hlt, Int.natCast_nonneg, Int.toNat_natCast, hcell, hlen, evC, List.cons_append, List.nil_append, d1, hws]
      exact hno (fun h => of_decide_eq_false d1 h.1)
    rcases d2 : decide (y.n = n) with _ | _
    · simp -implicitDefEqProofs -dsimp only [go_sem, Nat.reduceEqDiff, Nat.reduceAdd, Nat.reduceMul, Nat.reduceSub, Nat.reduceLT, Nat.reduceLeDiff, Nat.reduceBEq, reduceIte, reduceCtorEq, Int.reduceLT, Int.reduceLE, Int.reduceEq, Int.reduceNeg, Int.reduceToNat, Int.reduceAdd, Int.reduceSub, Int.ofNat_lt, hlt, Int.natCast_nonneg, Int.toNat_natCast, hcell, hlen, evC, List.cons_append, List.nil_append, d1, d2, hws]
      exact hno (fun h => of_decide_eq_false d2 h.2.1)
    rcases d3 : decide (0 ≤ n) with _ | _
    · simp -implicitDefEqProofs -dsimp only [go_sem, Nat.reduceEqDiff, Nat.reduceAdd, Nat.reduceMul, Nat.reduceSub, Nat.reduceLT, Nat.reduceLeDiff, Nat.reduceBEq, reduceIte, reduceCtorEq, Int.reduceLT, Int.reduceLE, Int.reduceEq, Int.reduceNeg, Int.reduceToNat, Int.reduceAdd, Int.reduceSub, Int.ofNat_lt, hlt, Int.natCast_nonneg, Int.toNat_natCast, hcell, hlen, evC, List.cons_append, List.nil_append, d1, d2, d3, hws]
      exact hno (fun h => of_decide_eq_false d3 h.2.2.1)
    rcases d4 : decide (n ≤ 7) with _ | _
    · simp -implicitDefEqProofs -dsimp only [go_sem, Nat.reduceEqDiff, Nat.reduceAdd, Nat.reduceMul, Nat.reduceSub, Nat.reduceLT, Nat.reduceLeDiff, Nat.reduceBEq, reduceIte, reduceCtorEq, Int.reduceLT, Int.reduceLE, Int.reduceEq, Int.reduceNeg, Int.reduceToNat, Int.reduceAdd, Int.reduceSub, Int.ofNat_lt, hlt, Int.natCast_nonneg, Int.toNat_natCast, hcell, hlen, evC, List.cons_append, List.nil_append, d1, d2, d3, d4, hws]
      exact hno (fun h => of_decide_eq_false d4 h.2.2.2)
    simp -implicitDefEqProofs -dsimp only [go_sem, Nat.reduceEqDiff, Nat.reduceAdd, Nat.reduceMul, Nat.reduceSub, Nat.reduceLT, Nat.reduceLeDiff, Nat.reduceBEq, reduceIte, reduceCtorEq, Int.reduceLT, Int.reduceLE, Int.reduceEq, Int.reduceNeg, Int.reduceToNat, Int.reduceAdd, Int.reduceSub, Int.ofNat_lt, hlt, Int.natCast_nonneg, Int.toNat_natCast, hcell, hlen, evC, List.cons_append, List.nil_append, d1, d2, d3, d4, hws]
    exact hyes ⟨of_decide_eq_true d1, of_decide_eq_true d2, of_decide_eq_true d3, of_decide_eq_true d4⟩

theorem pc_rLast (es : List Ev) (cap : Option Nat) (n : Int) (hl : Len es.length) : PCalls prog f_sautoirref22_Last [.fz es.length (es.flatMap evC) cap, .i .i64 n] (beR (es.foldl (rlast n) (Be.nil, false))) := by
  refine pcalls_of mixed t_sautoirref22_Last (by simp) fun T => ?_
  unfold s_sautoirref22_Last
  simp -implicitDefEqProofs -dsimp only [go_sem, Nat.reduceEqDiff, Nat.reduceAdd, Nat.reduceMul, Nat.reduceSub, Nat.reduceLT, Nat.reduceLeDiff, Nat.reduceBEq, reduceIte, reduceCtorEq, Int.reduceLT, Int.reduceLE, Int.reduceEq, Int.reduceNeg, Int.reduceToNat, Int.reduceAdd, Int.reduceSub]
  have hgo := fun R hR => lp_rLast (R := R) (T := T) (n := n) (es := es) (cap := cap) (q := Be.nil.cells) hR hl es 0 rfl (by omega) (Be.nil, false)
  simp only [Be.cells, Be.nil] at hgo
  refine hgo _ (by repeat' (first | exact finX_ext _ _ | assumption | apply blkR_ext | apply thenR_ext | apply AW_ext)) ?_
  simp -implicitDefEqProofs -dsimp only [go_sem, Nat.reduceEqDiff, Nat.reduceAdd, Nat.reduceMul, Nat.reduceSub, Nat.reduceLT, Nat.reduceLeDiff, Nat.reduceBEq, reduceIte, reduceCtorEq, Int.reduceLT, Int.reduceLE, Int.reduceEq, Int.reduceNeg, Int.reduceToNat, Int.reduceAdd, Int.reduceSub]
  exact finL_pure rfl

def rcnt (n : Int) (c : Int) (e : Ev) : Int := if e.k = 1 ∧ e.n = n then 0 else if e.k = 0 then c + 1 else c
theorem lp_rSus {R : RPost} (hR : ExtR R) {T : Tab} {n m : Int} {es : List Ev} {cap : Option Nat} (hl : es.length ≤ 60) : ∀ (ys : List Ev) (k : Nat), es.drop k = ys → k ≤ es.length → ∀ (c : Int), 0 ≤ c → c ≤ k →
    R (.exit 0) [(1, .i .i64 m), (2, .i .i64 n), (7, .i .i64 (ys.foldl (rcnt n) c)), (14, .fz es.length (es.flatMap evC) cap), (15, .i .i64 es.length), (16, .i .i64 es.length), (17, .b false)] [] T →
    AW prog sautoirref22_Suspects_l0 R [(1, .i .i64 m), (2, .i .i64 n), (7, .i .i64 c), (14, .fz es.length (es.flatMap evC) cap), (15, .i .i64 es.length), (16, .i .i64 k)] [] T := by
  intro ys
  induction ys with
  | nil =>
    intro k hk hle c hc0 hck h2
    have hk' := drop_nil hk hle
    refine AW_loop hR ?_
    unfold sautoirref22_Suspects_l0b
    simp -implicitDefEqProofs -dsimp only [go_sem, Nat.reduceEqDiff, Nat.reduceAdd, Nat.reduceMul, Nat.reduceSub, Nat.reduceLT, Nat.reduceLeDiff, Nat.reduceBEq, reduceIte, reduceCtorEq, Int.reduceLT, Int.reduceLE, Int.reduceEq, Int.reduceNeg, Int.reduceToNat, Int.reduceAdd, Int.reduceSub, hk', Int.lt_irrefl]
    rw [hk'] at h2
    exact h2
  | cons y ys ih =>
    intro k hk hle c hc0 hck h2
    obtain ⟨hlt, hy, hk'⟩ := drop_lt hk
    have hcell := flat_at evC_len hy
    have hlen : k * 6 + 6 ≤ (es.flatMap evC).length := by rw [flat_length evC_len]; omega
    have hws : IntKind.i64.wrap ((k : Int) + 1) = ((k + 1 : Nat) : Int) := wrap_succ (by omega)
    have hwc : IntKind.i64.wrap (c + 1) = c + 1 := wrap_i64 (by unfold I64; omega)
    rw [List.foldl_cons] at h2
    refine AW_loopD (l := sautoirref22_Suspects_l0) rfl hR ?_
    unfold sautoirref22_Suspects_l0b
    rcases d0 : decide (y.k = 0) with _ | _
    · have n0 := of_decide_eq_false d0
      rcases d1 : decide (y.k = 1) with _ | _
      · have n1 := of_decide_eq_false d1
        rw [rcnt, if_neg (fun h => n1 h.1), if_neg n0] at h2
        simp -implicitDefEqProofs -dsimp only [go_sem, Nat.reduceEqDiff, Nat.reduceAdd, Nat.reduceMul, Nat.reduceSub, Nat.reduceLT, Nat.reduceLeDiff, Nat.reduceBEq, reduceIte, reduceCtorEq, Int.reduceLT, Int.reduceLE, Int.reduceEq, Int.reduceNeg, Int.reduceToNat, Int.reduceAdd, Int.reduceSub, Int.ofNat_lt, hlt, Int.natCast_nonneg, Int.toNat_natCast, hcell, hlen, evC, List.cons_append, List.nil_append, d0, d1, hws]
        exact ih (k + 1) hk' hlt _ hc0 (by omega) h2
      rcases d2 : decide (y.n = n) with _ | _
      · have n2 := of_decide_eq_false d2
        rw [rcnt, if_neg (fun h => n2 h.2), if_neg n0] at h2
        simp -implicitDefEqProofs -dsimp only [go_sem, Nat.reduceEqDiff, Nat.reduceAdd, Nat.reduceMul, Nat.reduceSub, Nat.reduceLT, Nat.reduceLeDiff, Nat.reduceBEq, reduceIte, reduceCtorEq, Int.reduceLT, Int.reduceLE, Int.reduceEq, Int.reduceNeg, Int.reduceToNat, Int.reduceAdd, Int.reduceSub, Int.ofNat_lt, hlt, Int.natCast_nonneg, Int.toNat_natCast, hcell, hlen, evC, List.cons_append, List.nil_append, d0, d1, d2, hws]
        exact ih (k + 1) hk' hlt _ hc0 (by omega) h2
      rw [rcnt, if_pos ⟨of_decide_eq_true d1, of_decide_eq_true d2⟩] at h2
      simp -implicitDefEqProofs -dsimp only [go_sem, Nat.reduceEqDiff, Nat.reduceAdd, Nat.reduceMul, Nat.reduceSub, Nat.reduceLT, Nat.reduceLeDiff, Nat.reduceBEq, reduceIte, reduceCtorEq, Int.reduceLT, Int.reduceLE, Int.reduceEq, Int.reduceNeg, Int.reduceToNat, Int.reduceAdd, Int.reduceSub, Int.ofNat_lt, hlt, Int.natCast_nonneg, Int.toNat_natCast, hcell, hlen, evC, List.cons_append, List.nil_append, d0, d1, d2, hws]
      exact ih (k + 1) hk' hlt _ (by omega) (by omega) h2
    have n0 := of_decide_eq_true d0
    have d1 : decide (y.k = 1) = false := decide_eq_false (by omega)
    rw [rcnt, if_neg (fun h => by omega), if_pos n0] at h2
    simp -implicitDefEqProofs -dsimp only [go_sem, Nat.reduceEqDiff, Nat.reduceAdd, Nat.reduceMul, Nat.reduceSub, Nat.reduceLT, Nat.reduceLeDiff, Nat.reduceBEq, reduceIte, reduceCtorEq, Int.reduceLT, Int.reduceLE, Int.reduceEq, Int.reduceNeg, Int.reduceToNat, Int.reduceAdd, Int.reduceSub, Int.ofNat_lt, hlt, Int.natCast_nonneg, Int.toNat_natCast, hcell, hlen, evC, List.cons_append, List.nil_append, d0, d1, hws, hwc]
    exact ih (k + 1) hk' hlt _ (by omega) (by omega) h2

def rsus (n lim : Int) (es : List Ev) : Bool := srvW n && decide (clampW lim < es.foldl (rcnt n) 0)
theorem pc_rSus (es : List Ev) (cap : Option Nat) (m n : Int) (hl : es.length ≤ 60) : PCalls prog f_sautoirref22_Suspects [.fz es.length (es.flatMap evC) cap, .i .i64 m, .i .i64 n] (.b (rsus n m es)) := by
  refine pcalls_of mixed t_sautoirref22_Suspects (by simp) fun T => ?_
  unfold s_sautoirref22_Suspects
  simp -implicitDefEqProofs -dsimp only [go_sem, Nat.reduceEqDiff, Nat.reduceAdd, Nat.reduceMul, Nat.reduceSub, Nat.reduceLT, Nat.reduceLeDiff, Nat.reduceBEq, reduceIte, reduceCtorEq, Int.reduceLT, Int.reduceLE, Int.reduceEq, Int.reduceNeg, Int.reduceToNat, Int.reduceAdd, Int.reduceSub]
  have hfin : ∀ (m' : Int) (R : RPost), ExtR R → m' = clampW m →
      R (.exit 0) [(1, .i .i64 m'), (2, .i .i64 n), (7, .i .i64 (es.foldl (rcnt n) 0)), (14, .fz es.length (es.flatMap evC) cap), (15, .i .i64 es.length), (16, .i .i64 es.length), (17, .b false)] [] T →
      AW prog sautoirref22_Suspects_l0 R [(1, .i .i64 m'), (2, .i .i64 n), (7, .i .i64 0), (14, .fz es.length (es.flatMap evC) cap), (15, .i .i64 es.length), (16, .i .i64 0)] [] T := fun m' R hR hm h => lp_rSus hR hl es 0 rfl (by omega) 0 (by omega) (by omega) h
  have d7 : decide (n ≤ 7) = decide (n < 8) := by rw [decide_eq_decide]; omega
  refine br_split (fun h => ?_) (fun h => ?_)
  case' refine_1 =>
    have h' := of_decide_eq_true h
    simp -implicitDefEqProofs -dsimp only [go_sem, Nat.reduceEqDiff, Nat.reduceAdd, Nat.reduceMul, Nat.reduceSub, Nat.reduceLT, Nat.reduceLeDiff, Nat.reduceBEq, reduceIte, reduceCtorEq, Int.reduceLT, Int.reduceLE, Int.reduceEq, Int.reduceNeg, Int.reduceToNat, Int.reduceAdd, Int.reduceSub, h]
    refine hfin 1 _ (by repeat' (first | exact finX_ext _ _ | assumption | apply blkR_ext | apply thenR_ext | apply AW_ext)) (by unfold clampW; rw [if_pos (show 1 > m by omega)]; rfl) ?_
    have e : (1 : Int) = clampW m := by unfold clampW; rw [if_pos (show 1 > m by omega)]; rfl
  case' refine_2 =>
    have h' := of_decide_eq_false h
    simp -implicitDefEqProofs -dsimp only [go_sem, Nat.reduceEqDiff, Nat.reduceAdd, Nat.reduceMul, Nat.reduceSub, Nat.reduceLT, Nat.reduceLeDiff, Nat.reduceBEq, reduceIte, reduceCtorEq, Int.reduceLT, Int.reduceLE, Int.reduceEq, Int.reduceNeg, Int.reduceToNat, Int.reduceAdd, Int.reduceSub, h]
    refine br_split (fun h => ?_) (fun h => ?_)
  case' refine_2.refine_1 =>
    have h2 := of_decide_eq_true h
    simp -implicitDefEqProofs -dsimp only [go_sem, Nat.reduceEqDiff, Nat.reduceAdd, Nat.reduceMul, Nat.reduceSub, Nat.reduceLT, Nat.reduceLeDiff, Nat.reduceBEq, reduceIte, reduceCtorEq, Int.reduceLT, Int.reduceLE, Int.reduceEq, Int.reduceNeg, Int.reduceToNat, Int.reduceAdd, Int.reduceSub, h]
    have e : (1000 : Int) = clampW m := by unfold clampW; rw [if_neg (show ¬ 1 > m by omega), if_pos (by omega)]
    refine hfin 1000 _ (by repeat' (first | exact finX_ext _ _ | assumption | apply blkR_ext | apply thenR_ext | apply AW_ext)) e ?_
  case' refine_2.refine_2 =>
    have h2 := of_decide_eq_false h
    simp -implicitDefEqProofs -dsimp only [go_sem, Nat.reduceEqDiff, Nat.reduceAdd, Nat.reduceMul, Nat.reduceSub, Nat.reduceLT, Nat.reduceLeDiff, Nat.reduceBEq, reduceIte, reduceCtorEq, Int.reduceLT, Int.reduceLE, Int.reduceEq, Int.reduceNeg, Int.reduceToNat, Int.reduceAdd, Int.reduceSub, h]
    have e : m = clampW m := by unfold clampW; rw [if_neg (show ¬ 1 > m by omega), if_neg (by omega)]
    refine hfin m _ (by repeat' (first | exact finX_ext _ _ | assumption | apply blkR_ext | apply thenR_ext | apply AW_ext)) e ?_
  all_goals
    rcases d1 : decide (0 ≤ n) with _ | _
    · simp -implicitDefEqProofs -dsimp only [go_sem, Nat.reduceEqDiff, Nat.reduceAdd, Nat.reduceMul, Nat.reduceSub, Nat.reduceLT, Nat.reduceLeDiff, Nat.reduceBEq, reduceIte, reduceCtorEq, Int.reduceLT, Int.reduceLE, Int.reduceEq, Int.reduceNeg, Int.reduceToNat, Int.reduceAdd, Int.reduceSub, d1]
      refine finL_pure ?_
      simp [rsus, srvW, d1]
    rcases d2 : decide (n < 8) with _ | _
    · simp -implicitDefEqProofs -dsimp only [go_sem, Nat.reduceEqDiff, Nat.reduceAdd, Nat.reduceMul, Nat.reduceSub, Nat.reduceLT, Nat.reduceLeDiff, Nat.reduceBEq, reduceIte, reduceCtorEq, Int.reduceLT, Int.reduceLE, Int.reduceEq, Int.reduceNeg, Int.reduceToNat, Int.reduceAdd, Int.reduceSub, d1, d7, d2]
      refine finL_pure ?_
      simp [rsus, srvW, d1, d2]
    simp -implicitDefEqProofs -dsimp only [go_sem, Nat.reduceEqDiff, Nat.reduceAdd, Nat.reduceMul, Nat.reduceSub, Nat.reduceLT, Nat.reduceLeDiff, Nat.reduceBEq, reduceIte, reduceCtorEq, Int.reduceLT, Int.reduceLE, Int.reduceEq, Int.reduceNeg, Int.reduceToNat, Int.reduceAdd, Int.reduceSub, d1, d7, d2]
    refine finL_pure ?_
    rw [rsus, srvW, d1, d2, ← e]; rfl
end Go.Aw
