import Derived.Test.YtfphinopblfacaaGreatDoorH21G21J
import Derived.Test.YtfphinopblfacaaGreatDoorH21R28X
import Derived.Test.YtfphinopblfacaaGreatDoorH21T16Q
namespace Go.Aw
open Go
open Go.Proofs.Tryz (prog)
set_option linter.all false
set_option maxHeartbeats 4000000

/-! The document's state. -/
def rfsC (l : List Rf) : List AV := l.flatMap fun c => c.cells none
theorem rfsC_length (l : List Rf) : (rfsC l).length = l.length * 4 := flat_length (f := fun c : Rf => c.cells none) (z := 4) (fun _ => rfl) l
theorem rfsC_at {l : List Rf} {k : Nat} {c : Rf} (h : l[k]? = some c) : (rfsC l).drop (k * 4) = c.cells none ++ rfsC (l.drop (k + 1)) := flat_at (f := fun c : Rf => c.cells none) (z := 4) (fun _ => rfl) h
theorem rfsC_set {l : List Rf} {k : Nat} (h : k < l.length) (c : Rf) : stCells (rfsC l) (k * 4) (c.cells none) = rfsC (l.set k c) := by
  induction l generalizing k with
  | nil => simp at h
  | cons a l ih =>
    have e : ∀ (a : Rf) (l : List Rf), rfsC (a :: l) = a.cells none ++ rfsC l := fun a l => by simp [rfsC]
    cases k with
    | zero => simp [e, stCells, Rf.cells]
    | succ k =>
      have := ih (k := k) (by simpa using h)
      simp only [stCells] at this ⊢
      rw [List.set_cons_succ, e, e, ← this]
      have e5 : (a.cells none).length = 4 := rfl
      rw [show (k + 1) * 4 = (a.cells none).length + k * 4 by omega, List.take_length_add_append, Nat.add_assoc, List.drop_length_add_append]
      simp only [List.append_assoc]
def Os.rL (o : Os) : List Rf := o.cs.map Cf.plain
theorem rL_len (o : Os) : o.rL.length = o.cs.length := by simp [Os.rL]
def RSt (T : Tab) (id idC : Nat) (o : Os) : Prop := T id = o.row idC ∧ T idC = .row 4 (rfsC o.rL)
theorem RSt.ne {T : Tab} {id idC : Nat} {o : Os} (h : RSt T id idC o) : id ≠ idC := fun e => by
  have := h.1; rw [e, h.2] at this; cases this

theorem celsR_wk {L : Nat} {f : AV → AV} (hf : ∀ k n, f (.i k n) = .i k n) : ∀ (ps : List AV) (k : Nat), (∀ a ∈ owsR L k ps, ∃ cap, f a.v = .fz a.n a.xs cap) → Wks ((celsR k ps).map f) (rfsC (((List.range ps.length).map fun i => cf0 L (k + i)).map Cf.plain))
  | [], k, _ => trivial
  | p :: ps, k, h => by
    have ih := celsR_wk hf ps (k + 1) (fun a ha => h a (by simp only [owsR]; exact List.mem_cons_of_mem _ ha))
    obtain ⟨c1, e1⟩ := h _ (by simp only [owsR]; exact List.mem_cons_self ..)
    simp only at e1
    have er : (List.range (p :: ps).length).map (fun i => cf0 L (k + i)) = cf0 L k :: (List.range ps.length).map (fun i => cf0 L (k + 1 + i)) := by
      rw [List.length_cons, List.range_succ_eq_map, List.map_cons, List.map_map, Nat.add_zero]
      congr 1
      apply List.map_congr_left
      intro i _
      simp only [Function.comp]
      rw [show k + (i + 1) = k + 1 + i by omega]
    have epl : (cf0 L k).plain.l = chr k L L := by
      show plainF (alls L) (chn k L L) 0 = chr k L L
      have h : ∀ (m n : Nat), plainF (alls L) ((List.range' n m).map fun (i : Nat) => (k : Int) * L + (i : Int)) n = (List.range' n m).map fun (i : Nat) => ((k : Int) * L + (i : Int), ((alls L)[i]?).getD false) := by
        intro m
        induction m with
        | zero => intro n; rfl
        | succ m ih => intro n; simp only [List.range'_succ, List.map_cons, plainF, ih]
      have h2 := h L 0
      rw [← List.range_eq_range'] at h2
      rw [chn, h2, chr]
      apply List.map_congr_left
      intro i hi
      have hi' := List.mem_range.1 hi
      simp [alls, hi']
    rw [er, List.map_cons]
    simp only [rfsC, List.flatMap_cons, celsR, List.map_append]
    refine Wks.append ?_ ih
    have ec : (cf0 L k).plain.cells none = [.i .u64 ((k : Int) + 1), .i .i64 k, .fz L (mem (chr k L L)) none, .i .i64 (-1)] := by
      rw [Rf.cells, epl, chr_len]; rfl
    rw [ec]
    simp only [celR, List.map_cons, List.map_nil, hf, e1]
    exact ⟨.refl _, .refl _, .fz, .refl _, trivial⟩
theorem ac_rNew2 {T0 : Tab} {S L : Nat} {v : Int} (h : sok S L v = true) : ACalls prog f_sautoirref21_New [.agg (stC S L v)] T0 (fun r T' => ∃ id idC, r = .ptr id 0 ∧ T0 id = .unused ∧ T0 idC = .unused ∧ id ≠ idC ∧ T' = (T0.put id ((os0 S L v).row idC)).put idC (.row 4 (rfsC (os0 S L v).rL))) := by
  refine acalls_of mixed t_sautoirref21_New (by simp) ?_
  have hh := of_decide_eq_true h
  have w1 : IntKind.u64.wrap (S : Int) = S := IntWalk.u64_in _ (by omega)
  unfold s_sautoirref21_New
  simp -implicitDefEqProofs -dsimp only [go_sem, Nat.reduceEqDiff, Nat.reduceAdd, Nat.reduceMul, Nat.reduceSub, Nat.reduceLT, Nat.reduceLeDiff, Nat.reduceBEq, reduceIte, reduceCtorEq, Int.reduceLT, Int.reduceLE, Int.reduceEq, Int.reduceNeg, Int.reduceToNat, Int.reduceAdd, Int.reduceSub, stC, w1]
  refine fun id hid => aft_nil ?_
  simp -implicitDefEqProofs -dsimp only [go_sem, Nat.reduceEqDiff, Nat.reduceAdd, Nat.reduceMul, Nat.reduceSub, Nat.reduceLT, Nat.reduceLeDiff, Nat.reduceBEq, reduceIte, reduceCtorEq, Int.reduceLT, Int.reduceLE, Int.reduceEq, Int.reduceNeg, Int.reduceToNat, Int.reduceAdd, Int.reduceSub]
  refine lp_rNew0 (T0 := T0) (id := id) (by repeat' (first | exact finX_ext _ _ | assumption | apply blkR_ext | apply thenR_ext | apply AW_ext)) hid (by omega) (by omega) (by omega) (by omega) S 0 (by omega) (.fz 0 [] (some 0)) [] _ rfl ?_ (fun vC ps T1 hps how => ?_)
  · exact ⟨_, rfl, .nil ..⟩
  simp -implicitDefEqProofs -dsimp only [go_sem, Nat.reduceEqDiff, Nat.reduceAdd, Nat.reduceMul, Nat.reduceSub, Nat.reduceLT, Nat.reduceLeDiff, Nat.reduceBEq, reduceIte, reduceCtorEq, Int.reduceLT, Int.reduceLE, Int.reduceEq, Int.reduceNeg, Int.reduceToNat, Int.reduceAdd, Int.reduceSub]
  obtain ⟨idC, e1, e2, e3⟩ := how.get (List.mem_cons_self ..) (by simp only; omega)
  simp only at e1 e2 e3
  subst e1
  have hne : idC ≠ id := fun e => by subst e; rw [Tab.put_same] at e3; cases e3
  refine gzS_tail how (by omega) (fun Sf h1 h2 h3 h4 => ⟨rfsC (os0 S L v).rL, ?_, ?_, ?_⟩)
  · have := celsR_wk (L := L) (f := frz1 T1 Sf) (fun _ _ => rfl) ps 0 h3
    simp only [Nat.zero_add, hps] at this
    exact this
  · have : ∀ (ps : List AV) (k : Nat), (celsR k ps).length = ps.length * 4 := fun ps => by
      induction ps with
      | nil => intro k; rfl
      | cons p ps ih => intro k; simp only [celsR, List.length_append, ih (k + 1), List.length_cons]; simp [celR]; omega
    rw [rfsC_length, this, hps, rL_len]; simp [os0, cfs0]
  have hidS : id ∉ Sf := fun hm => by have := h1 id hm; rw [Tab.put_same] at this; cases this
  simp only [frE, frX_lp, frX_out hidS, frX_i, frX_b]
  simp -implicitDefEqProofs -dsimp only [go_sem, Nat.reduceEqDiff, Nat.reduceAdd, Nat.reduceMul, Nat.reduceSub, Nat.reduceLT, Nat.reduceLeDiff, Nat.reduceBEq, reduceIte, reduceCtorEq, Int.reduceLT, Int.reduceLE, Int.reduceEq, Int.reduceNeg, Int.reduceToNat, Int.reduceAdd, Int.reduceSub]
  refine finL_of _ (fun _ => .inr (.inl rfl)) ⟨id, idC, rfl, hid, by rw [Tab.put_ne _ _ hne] at h4; exact h4, Ne.symm hne, ?_⟩
  simp [Os.row, os0, stR, cfs0]

/-! Which has a server? -/
def rhas (l : List Rf) (n : Int) : Bool := l.any fun c => decide (0 ≤ ixI n (c.l.map (·.1))) || decide (c.ln = n)
theorem lp_rHas {R : RPost} (hR : ExtR R) {T : Tab} {idC : Nat} {l : List Rf} {n : Int} (h0 : 0 ≤ n) (hC : T idC = .row 4 (rfsC l)) (hl : Len l.length) (hs : ∀ c ∈ l, Len c.l.length) : ∀ (ys : List Rf) (k : Nat), l.drop k = ys → k ≤ l.length →
    (rhas ys n = true → ∀ j : Nat, R .ret [(4, .i .i64 j)] [] T) →
    (rhas ys n = false → R (.exit 0) [(1, .i .i64 n), (10, .sl idC 0 l.length none), (11, .i .i64 l.length), (12, .i .i64 l.length), (13, .b false)] [] T) →
    AW prog sautoirref21_State_Has_l0 R [(1, .i .i64 n), (10, .sl idC 0 l.length none), (11, .i .i64 l.length), (12, .i .i64 k)] [] T := by
  unfold Len at hl
  intro ys
  induction ys with
  | nil =>
    intro k hk hle h1 h2
    have hk' := drop_nil hk hle
    refine AW_loop hR ?_
    unfold sautoirref21_State_Has_l0b
    have h2 := h2 rfl
    rw [hk'] at h2
    simp -implicitDefEqProofs -dsimp only [go_sem, Nat.reduceEqDiff, Nat.reduceAdd, Nat.reduceMul, Nat.reduceSub, Nat.reduceLT, Nat.reduceLeDiff, Nat.reduceBEq, reduceIte, reduceCtorEq, Int.reduceLT, Int.reduceLE, Int.reduceEq, Int.reduceNeg, Int.reduceToNat, Int.reduceAdd, Int.reduceSub, hk', Int.lt_irrefl]
    exact h2
  | cons y ys ih =>
    intro k hk hle h1 h2
    obtain ⟨hlt, hy, hk'⟩ := drop_lt hk
    have hws : IntKind.i64.wrap ((k : Int) + 1) = ((k + 1 : Nat) : Int) := wrap_succ (by omega)
    have hcell := rfsC_at hy
    have hlen : k * 4 + 4 ≤ (rfsC l).length := by rw [rfsC_length]; omega
    have cF := pc_Find y none n (hs y (List.mem_of_getElem? hy))
    simp only [Rf.cells] at cF
    have dn : decide (0 ≤ n) = true := decide_eq_true h0
    refine AW_loopD (l := sautoirref21_State_Has_l0) rfl hR ?_
    unfold sautoirref21_State_Has_l0b
    simp -implicitDefEqProofs -dsimp only [go_sem, Nat.reduceEqDiff, Nat.reduceAdd, Nat.reduceMul, Nat.reduceSub, Nat.reduceLT, Nat.reduceLeDiff, Nat.reduceBEq, reduceIte, reduceCtorEq, Int.reduceLT, Int.reduceLE, Int.reduceEq, Int.reduceNeg, Int.reduceToNat, Int.reduceAdd, Int.reduceSub, Int.ofNat_lt, hlt, Int.natCast_nonneg, Int.toNat_natCast, hC, hlen, hcell, Rf.cells, List.cons_append, List.nil_append, ↓g_call _ _ c_sautoirref16_Find]
    refine CallK.pure cF (aft_nil ?_)
    rcases hb : decide (0 ≤ ixI n (y.l.map (·.1))) with _ | _
    · rcases hb2 : decide (y.ln = n) with _ | _
      · simp -implicitDefEqProofs -dsimp only [go_sem, Nat.reduceEqDiff, Nat.reduceAdd, Nat.reduceMul, Nat.reduceSub, Nat.reduceLT, Nat.reduceLeDiff, Nat.reduceBEq, reduceIte, reduceCtorEq, Int.reduceLT, Int.reduceLE, Int.reduceEq, Int.reduceNeg, Int.reduceToNat, Int.reduceAdd, Int.reduceSub, hb, hb2, decide_true, hws]
        exact ih (k + 1) hk' hlt (fun h => h1 (by rw [rhas, List.any_cons, hb, hb2]; exact h)) (fun h => h2 (by rw [rhas, List.any_cons, hb, hb2]; exact h))
      · simp -implicitDefEqProofs -dsimp only [go_sem, Nat.reduceEqDiff, Nat.reduceAdd, Nat.reduceMul, Nat.reduceSub, Nat.reduceLT, Nat.reduceLeDiff, Nat.reduceBEq, reduceIte, reduceCtorEq, Int.reduceLT, Int.reduceLE, Int.reduceEq, Int.reduceNeg, Int.reduceToNat, Int.reduceAdd, Int.reduceSub, hb, hb2, dn, decide_true]
        exact h1 (by rw [rhas, List.any_cons, hb, hb2]; rfl) k
    · simp -implicitDefEqProofs -dsimp only [go_sem, Nat.reduceEqDiff, Nat.reduceAdd, Nat.reduceMul, Nat.reduceSub, Nat.reduceLT, Nat.reduceLeDiff, Nat.reduceBEq, reduceIte, reduceCtorEq, Int.reduceLT, Int.reduceLE, Int.reduceEq, Int.reduceNeg, Int.reduceToNat, Int.reduceAdd, Int.reduceSub, hb, decide_true]
      exact h1 (by rw [rhas, List.any_cons, hb]; rfl) k
theorem ac_rHas {T : Tab} {id idC : Nat} {o : Os} (hR : RSt T id idC o) (hl : Len o.cs.length) (hs : ∀ c ∈ o.cs, Len c.ch.length) {n : Int} (h0 : 0 ≤ n) : ACalls prog f_sautoirref21_State_Has [.ptr id 0, .i .i64 n] T (fun r T' => ∃ j : Int, r = .i .i64 j ∧ decide (0 ≤ j) = rhas o.rL n ∧ T' = T) := by
  obtain ⟨t1, t2⟩ := hR
  rw [Os.row] at t1
  refine acalls_of mixed t_sautoirref21_State_Has (by simp) ?_
  unfold s_sautoirref21_State_Has
  simp -implicitDefEqProofs -dsimp only [go_sem, Nat.reduceEqDiff, Nat.reduceAdd, Nat.reduceMul, Nat.reduceSub, Nat.reduceLT, Nat.reduceLeDiff, Nat.reduceBEq, reduceIte, reduceCtorEq, Int.reduceLT, Int.reduceLE, Int.reduceEq, Int.reduceNeg, Int.reduceToNat, Int.reduceAdd, Int.reduceSub, t1]
  have hlr : ∀ c ∈ o.rL, Len c.l.length := fun c hc => by
    obtain ⟨d, hd, rfl⟩ := List.mem_map.1 hc
    rw [d.plain_len]; exact hs d hd
  have key := fun (R : RPost) (hR : ExtR R) h1 h2 => lp_rHas (R := R) hR (T := T) (idC := idC) (l := o.rL) h0 t2 (by rw [rL_len]; exact hl) hlr o.rL 0 rfl (Nat.zero_le _) h1 h2
  rw [rL_len] at key
  refine key _ (by repeat' (first | exact finX_ext _ _ | assumption | apply blkR_ext | apply thenR_ext | apply AW_ext)) (fun h j => ?_) (fun h => ?_)
  · simp -implicitDefEqProofs -dsimp only [go_sem, Nat.reduceEqDiff, Nat.reduceAdd, Nat.reduceMul, Nat.reduceSub, Nat.reduceLT, Nat.reduceLeDiff, Nat.reduceBEq, reduceIte, reduceCtorEq, Int.reduceLT, Int.reduceLE, Int.reduceEq, Int.reduceNeg, Int.reduceToNat, Int.reduceAdd, Int.reduceSub]
    exact finL_of _ (fun _ => .inr (.inl rfl)) ⟨(j : Int), rfl, by rw [h]; exact decide_eq_true (by omega), rfl⟩
  · simp -implicitDefEqProofs -dsimp only [go_sem, Nat.reduceEqDiff, Nat.reduceAdd, Nat.reduceMul, Nat.reduceSub, Nat.reduceLT, Nat.reduceLeDiff, Nat.reduceBEq, reduceIte, reduceCtorEq, Int.reduceLT, Int.reduceLE, Int.reduceEq, Int.reduceNeg, Int.reduceToNat, Int.reduceAdd, Int.reduceSub]
    exact finL_of _ (fun _ => .inr (.inl rfl)) ⟨-1, rfl, by rw [h]; rfl, rfl⟩
theorem rhas_eq {o : Os} (hg : Good o) {n : Int} (h0 : 0 ≤ n) : rhas o.rL n = o.cs.any (·.has n) := by
  rw [rhas, Os.rL, List.any_map, Bool.eq_iff_iff, List.any_eq_true, List.any_eq_true]
  have hr : ∀ c ∈ o.cs, c.right = true := fun c hc => by
    obtain ⟨k, hk⟩ := List.mem_iff_getElem?.1 hc
    exact (hg.one k c hk).1
  constructor
  · rintro ⟨c, hc, h⟩
    refine ⟨c, hc, (has_iff (hr c hc) n).2 ⟨h0, ?_⟩⟩
    simp only [Function.comp, c.plain_fst, Bool.or_eq_true, decide_eq_true_eq] at h
    rcases h with h | h
    · right
      have : ctn c.ch n = true := decide_eq_true h
      rw [ctn_any] at this
      exact of_decide_eq_true this
    · exact .inl h.symm
  · rintro ⟨c, hc, h⟩
    refine ⟨c, hc, ?_⟩
    have h := ((has_iff (hr c hc) n).1 h).2
    simp only [Function.comp, c.plain_fst, Bool.or_eq_true, decide_eq_true_eq]
    rcases h with h | h
    · exact .inr h.symm
    · left
      have : ctn c.ch n = true := by rw [ctn_any]; exact decide_eq_true h
      exact of_decide_eq_true this
end Go.Aw
