import Derived.Test.YtjimaapiajldpaaR28L
namespace Go.Aw
open Go
open Go.Proofs.Try (prog)
set_option linter.all false
set_option maxHeartbeats 4000000

abbrev RfK := Rf × Option Nat
def rfC (x : RfK) : List AV := x.1.cells x.2
theorem rfC_len (x : RfK) : (rfC x).length = 4 := rfl
def RfOk (x : RfK) : Prop := Len x.1.l.length ∧ 0 ≤ x.1.ep

theorem ours_small {c : Rf} : Small c.ours := by
  unfold Small Rf.ours ourCh ourFu
  simp only [List.length_map, List.length_take]
  omega
theorem lrnd_small {l : List Cf} {c : Cf} (h : ∀ c ∈ l, Small c ∧ 0 ≤ c.ep) (hc : Small c ∧ 0 ≤ c.ep) : ∀ x ∈ lrnd l c, Small x ∧ 0 ≤ x.ep := by
  intro x hx
  unfold lrnd at hx
  split at hx
  · rcases List.mem_or_eq_of_mem_set hx with h' | rfl
    · exact h x h'
    · exact hc
  · exact h x hx
theorem lrnd_length (l : List Cf) (c : Cf) : (lrnd l c).length = l.length := by
  unfold lrnd; split <;> simp
theorem lrnd_at (l : List Cf) (c : Cf) : at? (lrnd l c) c.sh = if lrn l c = true then some c else at? l c.sh := by
  unfold lrnd
  split
  · rename_i h
    unfold lrn at h
    split at h
    · rename_i o ho
      unfold at? at ho ⊢
      split at ho
      · rename_i h0
        rw [if_pos h0]
        have := (List.getElem?_eq_some_iff.1 ho).1
        rw [List.getElem?_set_self this]
      · cases ho
    · cases h
  · rfl

theorem lp_Rises {R : RPost} (hR : ExtR R) {id idL : Nat} {l : List RfK} {cap : Option Nat} {T0 : Tab} (h0 : T0 idL = .unused) (hl : Len l.length) (hok : ∀ x ∈ l, RfOk x) : ∀ (ys : List RfK) (k : Nat), l.drop k = ys → k ≤ l.length → ∀ (m : List Cf) (T : Tab),
    Rt T id idL m → (∀ j, SlotLe (T0 j) (T j)) → (∀ c ∈ m, Small c ∧ 0 ≤ c.ep) →
    (∀ e L T, (∀ j, SlotLe (T0 j) (T j)) → R (.exit 0) e L T) →
    AW prog sautoirlaw28_RouteRises_l0 R [(5, .ptr id 0), (24, .fz l.length (l.flatMap rfC) cap), (25, .i .i64 l.length), (26, .i .i64 k)] [] T := by
  intro ys
  induction ys with
  | nil =>
    intro k hk hle m T hT hTl hm h2
    have hk' := drop_nil hk hle
    refine AW_loop hR ?_
    unfold sautoirlaw28_RouteRises_l0b
    simp -implicitDefEqProofs -dsimp only [go_sem, Nat.reduceEqDiff, Nat.reduceAdd, Nat.reduceMul, Nat.reduceSub, Nat.reduceLT, Nat.reduceLeDiff, Nat.reduceBEq, reduceIte, reduceCtorEq, Int.reduceLT, Int.reduceLE, Int.reduceEq, Int.reduceNeg, Int.reduceToNat, Int.reduceAdd, Int.reduceSub, hk', Int.lt_irrefl]
    exact h2 _ _ _ hTl
  | cons y ys ih =>
    intro k hk hle m T hT hTl hm h2
    obtain ⟨hlt, hy, hk'⟩ := drop_lt hk
    have hl' := hl
    unfold Len at hl
    have hcell := flat_at rfC_len hy
    have hlen : k * 4 + 4 ≤ (l.flatMap rfC).length := by rw [flat_length rfC_len]; omega
    have hyo : RfOk y := hok y (by rw [← List.getElem?_eq_some_iff.1 hy |>.2]; exact List.getElem_mem _)
    have hO := pc_Ours y.1 y.2 hyo.1
    simp only [Rf.cells] at hO
    refine AW_loopD (l := sautoirlaw28_RouteRises_l0) rfl hR ?_
    unfold sautoirlaw28_RouteRises_l0b
    simp -implicitDefEqProofs -dsimp only [go_sem, Nat.reduceEqDiff, Nat.reduceAdd, Nat.reduceMul, Nat.reduceSub, Nat.reduceLT, Nat.reduceLeDiff, Nat.reduceBEq, reduceIte, reduceCtorEq, Int.reduceLT, Int.reduceLE, Int.reduceEq, Int.reduceNeg, Int.reduceToNat, Int.reduceAdd, Int.reduceSub, Int.ofNat_lt, hlt, Int.natCast_nonneg, Int.toNat_natCast, hcell, hlen, rfC, Rf.cells, List.cons_append, List.nil_append]
    refine br_split (fun h => ?_) (fun h => ?_)
    · simp -implicitDefEqProofs -dsimp only [go_sem, Nat.reduceEqDiff, Nat.reduceAdd, Nat.reduceMul, Nat.reduceSub, Nat.reduceLT, Nat.reduceLeDiff, Nat.reduceBEq, reduceIte, reduceCtorEq, Int.reduceLT, Int.reduceLE, Int.reduceEq, Int.reduceNeg, Int.reduceToNat, Int.reduceAdd, Int.reduceSub, h]
      exact h2 _ _ _ hTl
    simp -implicitDefEqProofs -dsimp only [go_sem, Nat.reduceEqDiff, Nat.reduceAdd, Nat.reduceMul, Nat.reduceSub, Nat.reduceLT, Nat.reduceLeDiff, Nat.reduceBEq, reduceIte, reduceCtorEq, Int.reduceLT, Int.reduceLE, Int.reduceEq, Int.reduceNeg, Int.reduceToNat, Int.reduceAdd, Int.reduceSub, h, ↓g_call _ _ c_sautoirlaw16_Ours]
    refine CallK.pure hO (aft_nil ?_)
    have hms : ∀ c ∈ m, Small c := fun c hc => (hm c hc).1
    have hL := ac_Learn hT hms y.1.ours none none ours_small (fun c hc => (hm c hc).2)
    have hCR := pc_conf_Right y.1.ours none none (by unfold Len; have := ours_small (c := y.1) |>.1; omega)
    simp only [Cf.cells] at hL hCR
    simp -implicitDefEqProofs -dsimp only [go_sem, Nat.reduceEqDiff, Nat.reduceAdd, Nat.reduceMul, Nat.reduceSub, Nat.reduceLT, Nat.reduceLeDiff, Nat.reduceBEq, reduceIte, reduceCtorEq, Int.reduceLT, Int.reduceLE, Int.reduceEq, Int.reduceNeg, Int.reduceToNat, Int.reduceAdd, Int.reduceSub, Cf.cells, ↓g_call _ _ c_route_Route_Conf]
    refine CallK.as (ac_Conf hT hms y.1.ours.sh) (aft_nil ?_)
    have hT' : Rt (T.put idL (.row 5 (cfsC (lrnd m y.1.ours)))) id idL (lrnd m y.1.ours) := ⟨by rw [Tab.put_ne _ _ hT.ne, hT.1, lrnd_length], Tab.put_same ..⟩
    have hTl' : ∀ j, SlotLe (T0 j) ((T.put idL (.row 5 (cfsC (lrnd m y.1.ours)))) j) := fun j => by
      by_cases e : j = idL
      · subst e; exact .inl h0
      · rw [Tab.put_ne _ _ e]; exact hTl j
    have hm' := lrnd_small hm ⟨ours_small (c := y.1), hyo.2⟩
    have hC2 := ac_Conf hT' (fun c hc => (hm' c hc).1) y.1.ours.sh
    have hat2 := lrnd_at m y.1.ours
    have hlr : lrn m y.1.ours = match at? m y.1.ours.sh with
      | some o => y.1.ours.right && decide (o.ep < y.1.ours.ep)
      | none => false := rfl
    have hws : IntKind.i64.wrap ((k : Int) + 1) = ((k + 1 : Nat) : Int) := wrap_succ (by omega)
    have hgo : ∀ T, Rt T id idL (lrnd m y.1.ours) → (∀ j, SlotLe (T0 j) (T j)) → AW prog sautoirlaw28_RouteRises_l0 R [(5, .ptr id 0), (24, .fz l.length (l.flatMap rfC) cap), (25, .i .i64 l.length), (26, .i .i64 ((k + 1 : Nat) : Int))] [] T := fun T h hl => ih (k + 1) hk' hlt _ _ h hl hm' h2
    rcases hat : at? m y.1.ours.sh with _ | o
    · have hf : lrn m y.1.ours = false := by rw [hlr, hat]
      rw [hf, hat] at hat2
      rw [if_neg (by simp)] at hat2
      rw [hf] at hL
      have e1 : cfR m y.1.ours.sh = .tup [.agg (Cf.nil.cells (some 0) (some 0)), .b false] := by rw [cfR, hat]
      have e2 : cfR (lrnd m y.1.ours) y.1.ours.sh = .tup [.agg (Cf.nil.cells (some 0) (some 0)), .b false] := by rw [cfR, hat2]
      rw [e2] at hC2
      rw [e1]
      simp -implicitDefEqProofs -dsimp only [go_sem, Nat.reduceEqDiff, Nat.reduceAdd, Nat.reduceMul, Nat.reduceSub, Nat.reduceLT, Nat.reduceLeDiff, Nat.reduceBEq, reduceIte, reduceCtorEq, Int.reduceLT, Int.reduceLE, Int.reduceEq, Int.reduceNeg, Int.reduceToNat, Int.reduceAdd, Int.reduceSub, Cf.cells, Cf.nil, ↓g_gdc, ↓g_call _ _ c_route_Route_Learn]
      refine CallK.as hL (aft_nil ?_)
      simp -implicitDefEqProofs -dsimp only [go_sem, Nat.reduceEqDiff, Nat.reduceAdd, Nat.reduceMul, Nat.reduceSub, Nat.reduceLT, Nat.reduceLeDiff, Nat.reduceBEq, reduceIte, reduceCtorEq, Int.reduceLT, Int.reduceLE, Int.reduceEq, Int.reduceNeg, Int.reduceToNat, Int.reduceAdd, Int.reduceSub, ↓g_gdc, rcOk, true_and, decide_true, decide_false, Bool.not_true, Bool.not_false, ↓g_call _ _ c_route_Route_Conf]
      refine CallK.as hC2 (aft_nil ?_)
      simp -implicitDefEqProofs -dsimp only [go_sem, Nat.reduceEqDiff, Nat.reduceAdd, Nat.reduceMul, Nat.reduceSub, Nat.reduceLT, Nat.reduceLeDiff, Nat.reduceBEq, reduceIte, reduceCtorEq, Int.reduceLT, Int.reduceLE, Int.reduceEq, Int.reduceNeg, Int.reduceToNat, Int.reduceAdd, Int.reduceSub, Cf.cells, Cf.nil, hws]
      exact hgo _ hT' hTl'
    · have e1 : cfR m y.1.ours.sh = .tup [.agg (o.cells none none), .b true] := by rw [cfR, hat]
      have hf : lrn m y.1.ours = (y.1.ours.right && decide (o.ep < y.1.ours.ep)) := by rw [hlr, hat]
      rw [e1]
      simp -implicitDefEqProofs -dsimp only [go_sem, Nat.reduceEqDiff, Nat.reduceAdd, Nat.reduceMul, Nat.reduceSub, Nat.reduceLT, Nat.reduceLeDiff, Nat.reduceBEq, reduceIte, reduceCtorEq, Int.reduceLT, Int.reduceLE, Int.reduceEq, Int.reduceNeg, Int.reduceToNat, Int.reduceAdd, Int.reduceSub, Cf.cells, ↓g_call _ _ c_route_Route_Learn]
      refine CallK.as hL (aft_nil ?_)
      simp -implicitDefEqProofs -dsimp only [go_sem, Nat.reduceEqDiff, Nat.reduceAdd, Nat.reduceMul, Nat.reduceSub, Nat.reduceLT, Nat.reduceLeDiff, Nat.reduceBEq, reduceIte, reduceCtorEq, Int.reduceLT, Int.reduceLE, Int.reduceEq, Int.reduceNeg, Int.reduceToNat, Int.reduceAdd, Int.reduceSub, ↓g_gdc, rcOk, true_and, ↓g_call _ _ c_conf_Right]
      refine CallK.pure hCR (aft_nil ?_)
      rcases hb : lrn m y.1.ours with _ | _
      · rw [hb] at hat2 hf
        rw [if_neg (by simp), hat] at hat2
        have e2 : cfR (lrnd m y.1.ours) y.1.ours.sh = .tup [.agg (o.cells none none), .b true] := by rw [cfR, hat2]
        rw [e2] at hC2
        have hfin : ∀ {P : Prop}, (y.1.ours.right = false → P) → (y.1.ours.right = true → decide (o.ep < y.1.ours.ep) = false → P) → P := fun f g => by
          rcases hr : y.1.ours.right with _ | _
          · exact f hr
          · rw [hr, Bool.true_and] at hf
            exact g hr hf.symm
        have hirr : decide (o.ep < o.ep) = false := decide_eq_false (Int.lt_irrefl _)
        refine hfin (fun hr => ?_) (fun hr hd => ?_)
        · rw [hr]
          simp -implicitDefEqProofs -dsimp only [go_sem, Nat.reduceEqDiff, Nat.reduceAdd, Nat.reduceMul, Nat.reduceSub, Nat.reduceLT, Nat.reduceLeDiff, Nat.reduceBEq, reduceIte, reduceCtorEq, Int.reduceLT, Int.reduceLE, Int.reduceEq, Int.reduceNeg, Int.reduceToNat, Int.reduceAdd, Int.reduceSub, ↓g_gdc, rcOk, true_and, decide_true, decide_false, Bool.not_true, Bool.not_false, ↓g_call _ _ c_route_Route_Conf]
          refine CallK.as hC2 (aft_nil ?_)
          simp -implicitDefEqProofs -dsimp only [go_sem, Nat.reduceEqDiff, Nat.reduceAdd, Nat.reduceMul, Nat.reduceSub, Nat.reduceLT, Nat.reduceLeDiff, Nat.reduceBEq, reduceIte, reduceCtorEq, Int.reduceLT, Int.reduceLE, Int.reduceEq, Int.reduceNeg, Int.reduceToNat, Int.reduceAdd, Int.reduceSub, Cf.cells, Cf.nil, hws, hirr]
          exact hgo _ hT' hTl'
        · rw [hr]
          simp -implicitDefEqProofs -dsimp only [go_sem, Nat.reduceEqDiff, Nat.reduceAdd, Nat.reduceMul, Nat.reduceSub, Nat.reduceLT, Nat.reduceLeDiff, Nat.reduceBEq, reduceIte, reduceCtorEq, Int.reduceLT, Int.reduceLE, Int.reduceEq, Int.reduceNeg, Int.reduceToNat, Int.reduceAdd, Int.reduceSub, ↓g_gdc, rcOk, true_and, decide_true, decide_false, Bool.not_true, Bool.not_false, hd, ↓g_call _ _ c_route_Route_Conf]
          refine CallK.as hC2 (aft_nil ?_)
          simp -implicitDefEqProofs -dsimp only [go_sem, Nat.reduceEqDiff, Nat.reduceAdd, Nat.reduceMul, Nat.reduceSub, Nat.reduceLT, Nat.reduceLeDiff, Nat.reduceBEq, reduceIte, reduceCtorEq, Int.reduceLT, Int.reduceLE, Int.reduceEq, Int.reduceNeg, Int.reduceToNat, Int.reduceAdd, Int.reduceSub, Cf.cells, Cf.nil, hws, hirr]
          exact hgo _ hT' hTl'
      · rw [hb] at hat2 hf
        rw [if_pos rfl] at hat2
        have hf' := hf.symm
        rw [Bool.and_eq_true] at hf'
        obtain ⟨hr, hd⟩ := hf'
        have e2 : cfR (lrnd m y.1.ours) y.1.ours.sh = .tup [.agg (y.1.ours.cells none none), .b true] := by rw [cfR, hat2]
        rw [e2] at hC2
        have hirr : decide (y.1.ours.ep < o.ep) = false := decide_eq_false (by have := of_decide_eq_true hd; omega)
        rw [hr]
        simp -implicitDefEqProofs -dsimp only [go_sem, Nat.reduceEqDiff, Nat.reduceAdd, Nat.reduceMul, Nat.reduceSub, Nat.reduceLT, Nat.reduceLeDiff, Nat.reduceBEq, reduceIte, reduceCtorEq, Int.reduceLT, Int.reduceLE, Int.reduceEq, Int.reduceNeg, Int.reduceToNat, Int.reduceAdd, Int.reduceSub, ↓g_gdc, rcOk, true_and, decide_true, decide_false, Bool.not_true, Bool.not_false, hd, ↓g_call _ _ c_route_Route_Conf]
        refine CallK.as hC2 (aft_nil ?_)
        simp -implicitDefEqProofs -dsimp only [go_sem, Nat.reduceEqDiff, Nat.reduceAdd, Nat.reduceMul, Nat.reduceSub, Nat.reduceLT, Nat.reduceLeDiff, Nat.reduceBEq, reduceIte, reduceCtorEq, Int.reduceLT, Int.reduceLE, Int.reduceEq, Int.reduceNeg, Int.reduceToNat, Int.reduceAdd, Int.reduceSub, Cf.cells, Cf.nil, hws, hirr]
        exact hgo _ hT' hTl'

theorem cfs0_small {S L : Nat} (hL : L ≤ 8) : ∀ c ∈ cfs0 L S, Small c ∧ 0 ≤ c.ep := by
  intro c hc
  simp only [cfs0, List.mem_map, List.mem_range] at hc
  obtain ⟨k, _, rfl⟩ := hc
  simp only [cf0, Small, chn_len, alls_len]
  omega

theorem pc_RouteRises (s l v : Int) (xs : List RfK) (cap : Option Nat) (hl : Len xs.length) (hok : ∀ x ∈ xs, RfOk x) : PCalls prog f_sautoirlaw28_RouteRises [.agg (stC s l v), .fz xs.length (xs.flatMap rfC) cap] (.b true) := by
  refine pcalls_of mixed t_sautoirlaw28_RouteRises (by simp) fun T => ?_
  have hS := pc_Setup s l v
  have hS2 := pc_refSetup s l v
  simp only [stC] at hS hS2
  unfold s_sautoirlaw28_RouteRises
  rcases hb : sok s l v with _ | _
  · have hN := pc_route_New0 hb
    rw [hb] at hS2
    simp only [stC] at hN
    simp -implicitDefEqProofs -dsimp only [go_sem, Nat.reduceEqDiff, Nat.reduceAdd, Nat.reduceMul, Nat.reduceSub, Nat.reduceLT, Nat.reduceLeDiff, Nat.reduceBEq, reduceIte, reduceCtorEq, Int.reduceLT, Int.reduceLE, Int.reduceEq, Int.reduceNeg, Int.reduceToNat, Int.reduceAdd, Int.reduceSub, stC, ↓g_call _ _ c_sautoirlaw21_Setup]
    refine CallK.pure hS (aft_nil ?_)
    simp -implicitDefEqProofs -dsimp only [go_sem, Nat.reduceEqDiff, Nat.reduceAdd, Nat.reduceMul, Nat.reduceSub, Nat.reduceLT, Nat.reduceLeDiff, Nat.reduceBEq, reduceIte, reduceCtorEq, Int.reduceLT, Int.reduceLE, Int.reduceEq, Int.reduceNeg, Int.reduceToNat, Int.reduceAdd, Int.reduceSub, ↓g_call _ _ c_route_New]
    refine CallK.pure hN (aft_nil ?_)
    simp -implicitDefEqProofs -dsimp only [go_sem, Nat.reduceEqDiff, Nat.reduceAdd, Nat.reduceMul, Nat.reduceSub, Nat.reduceLT, Nat.reduceLeDiff, Nat.reduceBEq, reduceIte, reduceCtorEq, Int.reduceLT, Int.reduceLE, Int.reduceEq, Int.reduceNeg, Int.reduceToNat, Int.reduceAdd, Int.reduceSub, ↓g_call _ _ c_sautoirref21_RightSetup]
    refine CallK.pure hS2 (aft_nil ?_)
    simp -implicitDefEqProofs -dsimp only [go_sem, Nat.reduceEqDiff, Nat.reduceAdd, Nat.reduceMul, Nat.reduceSub, Nat.reduceLT, Nat.reduceLeDiff, Nat.reduceBEq, reduceIte, reduceCtorEq, Int.reduceLT, Int.reduceLE, Int.reduceEq, Int.reduceNeg, Int.reduceToNat, Int.reduceAdd, Int.reduceSub, ↓g_gdc, Bool.not_false, ↓g_call _ _ c_sautoirlaw28_awake]
    refine CallK.pure pc_awake (aft_nil ?_)
    simp -implicitDefEqProofs -dsimp only [go_sem, Nat.reduceEqDiff, Nat.reduceAdd, Nat.reduceMul, Nat.reduceSub, Nat.reduceLT, Nat.reduceLeDiff, Nat.reduceBEq, reduceIte, reduceCtorEq, Int.reduceLT, Int.reduceLE, Int.reduceEq, Int.reduceNeg, Int.reduceToNat, Int.reduceAdd, Int.reduceSub]
    exact finL_pure rfl
  · have hh := of_decide_eq_true hb
    obtain ⟨S, rfl⟩ : ∃ S : Nat, s = S := ⟨s.toNat, by omega⟩
    obtain ⟨L, rfl⟩ : ∃ L : Nat, l = L := ⟨l.toNat, by omega⟩
    have hN := ac_route_New (T := T) hb
    simp only [stC] at hN
    simp -implicitDefEqProofs -dsimp only [go_sem, Nat.reduceEqDiff, Nat.reduceAdd, Nat.reduceMul, Nat.reduceSub, Nat.reduceLT, Nat.reduceLeDiff, Nat.reduceBEq, reduceIte, reduceCtorEq, Int.reduceLT, Int.reduceLE, Int.reduceEq, Int.reduceNeg, Int.reduceToNat, Int.reduceAdd, Int.reduceSub, stC, ↓g_call _ _ c_sautoirlaw21_Setup]
    refine CallK.pure hS (aft_nil ?_)
    simp -implicitDefEqProofs -dsimp only [go_sem, Nat.reduceEqDiff, Nat.reduceAdd, Nat.reduceMul, Nat.reduceSub, Nat.reduceLT, Nat.reduceLeDiff, Nat.reduceBEq, reduceIte, reduceCtorEq, Int.reduceLT, Int.reduceLE, Int.reduceEq, Int.reduceNeg, Int.reduceToNat, Int.reduceAdd, Int.reduceSub, ↓g_call _ _ c_route_New]
    refine CallK.of hN (fun r T1 ⟨id, idL, e1, hR, hu, hle⟩ => aft_nil ?_)
    subst e1
    simp -implicitDefEqProofs -dsimp only [go_sem, Nat.reduceEqDiff, Nat.reduceAdd, Nat.reduceMul, Nat.reduceSub, Nat.reduceLT, Nat.reduceLeDiff, Nat.reduceBEq, reduceIte, reduceCtorEq, Int.reduceLT, Int.reduceLE, Int.reduceEq, Int.reduceNeg, Int.reduceToNat, Int.reduceAdd, Int.reduceSub]
    refine lp_Rises (T0 := T) (l := xs) (by repeat' (first | exact finX_ext _ _ | assumption | apply blkR_ext | apply thenR_ext | apply AW_ext)) hu hl hok xs 0 rfl (by omega) _ _ hR hle (cfs0_small (by omega)) (fun e L T2 hle2 => ?_)
    simp -implicitDefEqProofs -dsimp only [go_sem, Nat.reduceEqDiff, Nat.reduceAdd, Nat.reduceMul, Nat.reduceSub, Nat.reduceLT, Nat.reduceLeDiff, Nat.reduceBEq, reduceIte, reduceCtorEq, Int.reduceLT, Int.reduceLE, Int.reduceEq, Int.reduceNeg, Int.reduceToNat, Int.reduceAdd, Int.reduceSub, ↓g_call _ _ c_sautoirlaw28_awake]
    refine CallK.pure pc_awake (aft_nil ?_)
    simp -implicitDefEqProofs -dsimp only [go_sem, Nat.reduceEqDiff, Nat.reduceAdd, Nat.reduceMul, Nat.reduceSub, Nat.reduceLT, Nat.reduceLeDiff, Nat.reduceBEq, reduceIte, reduceCtorEq, Int.reduceLT, Int.reduceLE, Int.reduceEq, Int.reduceNeg, Int.reduceToNat, Int.reduceAdd, Int.reduceSub]
    exact finL_of T hle2 ⟨rfl, rfl⟩
end Go.Aw
