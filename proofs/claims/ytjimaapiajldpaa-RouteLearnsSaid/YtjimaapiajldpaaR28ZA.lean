import Derived.Test.YtjimaapiajldpaaR28Z
import Derived.Test.YtjimaapiajldpaaAwD
namespace Go.Aw
open Go
open Go.Proofs.Try (prog)
set_option linter.all false
set_option maxHeartbeats 4000000

theorem plain_cells (c : Cf) (k : Option Nat) : c.plain.cells k = [.i .u64 c.ep, .i .i64 c.sh, .fz c.ch.length (mem c.plain.l) k, .i .i64 c.ln] := by rw [Rf.cells, c.plain_len]; rfl
theorem cfR_at {m : List Cf} {k : Nat} {c : Cf} (h : m[k]? = some c) : cfR m k = .tup [.agg (c.cells none none), .b true] := by
  unfold cfR at?
  rw [if_pos (Int.natCast_nonneg _), Int.toNat_natCast, h]

theorem ac_Same {T : Tab} {c : Cf} {v : AV} (hv : SlV T v c.ch.length (mem c.plain.l)) (hl : Len c.ch.length) : ACalls prog f_sautoirref16_Same [.agg (c.plain.cells none), .agg [.i .u64 c.ep, .i .i64 c.sh, v, .i .i64 c.ln]] T (fun r T' => r = .b true ∧ T' = T) := by
  have hS := fun k => pc_Same c.plain none k (by rw [c.plain_len]; exact hl)
  simp only [plain_cells] at hS ⊢
  rcases hv with ⟨cap, rfl⟩ | ⟨i, rfl, hi⟩
  · exact hS cap T
  · refine ACalls.borrow (S := [i]) (by simp) (fun id hid => by simp at hid; subst hid; rw [hi]; simp) ?_ .b
    have e : c.plain.l.length = c.ch.length := c.plain_len
    have := hS none
    simp only [List.map_cons, List.map_nil, frzv, frz1, List.mem_cons, List.not_mem_nil, or_false, if_true, hi, Nat.zero_add, List.drop_zero]
    rw [if_pos (by rw [mem_length, e]; omega), List.take_of_length_le (by rw [mem_length, e]; omega)]
    exact this

theorem lp_Learns1 {R : RPost} (hR : ExtR R) {T : Tab} {id idL rid rL : Nat} {m : List Cf} {l : List (Cf × AV)} {key : Bs} {t : Int} {cc : List AV} {cap0 : Option Nat} {n : Nat} {q : Int} {t1 t2 : List AV} (hT : Rt T id idL m) (hm : RtOk m) (hlm : l.map (·.1) = m)
    (h2 : T rL = .row 4 (l.flatMap rvC)) (h3 : ∀ x ∈ l, SlV T x.2 x.1.ch.length (mem x.1.plain.l)) : ∀ (ys : List (Cf × AV)) (k : Nat), l.drop k = ys → k ≤ l.length →
    (R (.exit 2) ([(2, .s key), (3, .i .i64 t), (11, .ptr id 0), (12, .ptr rid 0), (13, .lp 13 0), (14, .lp 14 0), (48, .fz n cc cap0), (49, .i .i64 n), (50, .i .i64 q)] ++ [(70, .sl rL 0 l.length none), (71, .i .i64 l.length), (72, .i .i64 l.length), (73, .b false)]) [(13, t1), (14, t2)] T) →
    AW prog sautoirlaw28_RouteLearns_l1 R ([(2, .s key), (3, .i .i64 t), (11, .ptr id 0), (12, .ptr rid 0), (13, .lp 13 0), (14, .lp 14 0), (48, .fz n cc cap0), (49, .i .i64 n), (50, .i .i64 q)] ++ [(70, .sl rL 0 l.length none), (71, .i .i64 l.length), (72, .i .i64 k)]) [(13, t1), (14, t2)] T := by
  intro ys
  have hn4 : l.length ≤ 4 := by have := hm.n.2; rw [← hlm, List.length_map] at this; exact this
  induction ys with
  | nil =>
    intro k hk hle h4
    have hk' := drop_nil hk hle
    refine AW_loop hR ?_
    unfold sautoirlaw28_RouteLearns_l1b
    simp -implicitDefEqProofs -dsimp only [go_sem, Nat.reduceEqDiff, Nat.reduceAdd, Nat.reduceMul, Nat.reduceSub, Nat.reduceLT, Nat.reduceLeDiff, Nat.reduceBEq, reduceIte, reduceCtorEq, Int.reduceLT, Int.reduceLE, Int.reduceEq, Int.reduceNeg, Int.reduceToNat, Int.reduceAdd, Int.reduceSub, hk', Int.lt_irrefl, List.cons_append, List.nil_append]
    rw [hk'] at h4
    exact h4
  | cons y ys ih =>
    intro k hk hle h4
    obtain ⟨hlt, hy, hk'⟩ := drop_lt hk
    have hcell := flat_at rvC_len hy
    have hlen : k * 4 + 4 ≤ (l.flatMap rvC).length := by rw [flat_length rvC_len]; omega
    have hmem : y ∈ l := List.mem_of_getElem? hy
    have hmk : m[k]? = some y.1 := by rw [← hlm, List.getElem?_map, hy]; rfl
    have hcr := hm.c _ _ hmk
    have hcl := right_len hcr.1
    have hws : IntKind.i64.wrap ((k : Int) + 1) = ((k + 1 : Nat) : Int) := wrap_succ (by omega)
    have hC := ac_Conf hT hm.small k
    rw [cfR_at hmk] at hC
    have hP := pc_Plain y.1 none none (by omega)
    have hS := ac_Same (h3 y hmem) (by unfold Len; omega)
    obtain ⟨c, v⟩ := y
    simp only at hC hP hS hcl hcr
    simp only [plain_cells] at hS hP
    simp only [Cf.cells] at hP
    have hgo := ih (k + 1) hk' hlt h4
    refine AW_loopD (l := sautoirlaw28_RouteLearns_l1) rfl hR ?_
    unfold sautoirlaw28_RouteLearns_l1b
    rcases h3 _ hmem with ⟨cap, e⟩ | ⟨i, e, hi⟩
    all_goals
      simp only at e
      subst e
      simp -implicitDefEqProofs -dsimp only [go_sem, Nat.reduceEqDiff, Nat.reduceAdd, Nat.reduceMul, Nat.reduceSub, Nat.reduceLT, Nat.reduceLeDiff, Nat.reduceBEq, reduceIte, reduceCtorEq, Int.reduceLT, Int.reduceLE, Int.reduceEq, Int.reduceNeg, Int.reduceToNat, Int.reduceAdd, Int.reduceSub, Int.ofNat_lt, hlt, Int.natCast_nonneg, Int.toNat_natCast, h2, hcell, hlen, rvC, List.cons_append, List.nil_append, ↓g_call _ _ c_route_Route_Conf]
      refine CallK.as hC (aft_nil ?_)
      simp -implicitDefEqProofs -dsimp only [go_sem, Nat.reduceEqDiff, Nat.reduceAdd, Nat.reduceMul, Nat.reduceSub, Nat.reduceLT, Nat.reduceLeDiff, Nat.reduceBEq, reduceIte, reduceCtorEq, Int.reduceLT, Int.reduceLE, Int.reduceEq, Int.reduceNeg, Int.reduceToNat, Int.reduceAdd, Int.reduceSub, Cf.cells, ↓g_gdc, rcOk, true_and, Bool.not_true, ↓g_call _ _ c_sautoirlaw16_Plain]
      refine CallK.pure hP (aft_nil ?_)
      simp -implicitDefEqProofs -dsimp only [go_sem, Nat.reduceEqDiff, Nat.reduceAdd, Nat.reduceMul, Nat.reduceSub, Nat.reduceLT, Nat.reduceLeDiff, Nat.reduceBEq, reduceIte, reduceCtorEq, Int.reduceLT, Int.reduceLE, Int.reduceEq, Int.reduceNeg, Int.reduceToNat, Int.reduceAdd, Int.reduceSub, ↓g_gdc, rcOk, true_and, ↓g_call _ _ c_sautoirref16_Same]
      refine CallK.as hS (aft_nil ?_)
      simp -implicitDefEqProofs -dsimp only [go_sem, Nat.reduceEqDiff, Nat.reduceAdd, Nat.reduceMul, Nat.reduceSub, Nat.reduceLT, Nat.reduceLeDiff, Nat.reduceBEq, reduceIte, reduceCtorEq, Int.reduceLT, Int.reduceLE, Int.reduceEq, Int.reduceNeg, Int.reduceToNat, Int.reduceAdd, Int.reduceSub, Bool.not_true, hws]
      exact hgo

theorem rt_keep {T0 T T' : Tab} {id : Nat} (h : TabLe T0 T) (hid : T0 id = .unused) (hk : ∀ j, j ≠ id → T j ≠ .unused → T' j = T j) : TabLe T0 T' := fun j => by
  by_cases e : j = id
  · subst e; exact .inl hid
  · by_cases u : T j = .unused
    · exact .inl (h.unused u)
    · rw [hk j e u]; exact h j

theorem lp_Learns0 {R : RPost} (hR : ExtR R) {T0 : Tab} {id idL rid S : Nat} {xs : List RfK} {cap : Option Nat} {key : Bs} {t : Int} {t1 t2 : List AV} (h0 : T0 idL = .unused) (h0r : T0 rid = .unused) (hne : id ≠ rid) (hl : Len xs.length) (hok : ∀ x ∈ xs, RfOk x) : ∀ (ys : List RfK) (k : Nat), xs.drop k = ys → k ≤ xs.length → ∀ (m : List Cf) (l : List (Cf × AV)) (T : Tab),
    Rt T id idL m → RRt T rid l → l.map (·.1) = m → RtOk m → m.length = S → TabLe T0 T →
    (∀ m l T e L, Rt T id idL m → RRt T rid l → l.map (·.1) = m → RtOk m → m.length = S → TabLe T0 T →
      (∃ q, e = [(2, .s key), (3, .i .i64 t), (11, .ptr id 0), (12, .ptr rid 0), (13, .lp 13 0), (14, .lp 14 0), (48, .fz xs.length (xs.flatMap rfC) cap), (49, .i .i64 xs.length), (50, q), (51, .b false)] ∧ L = [(13, t1), (14, t2)]) ∨
      (∃ q c, e = [(2, .s key), (3, .i .i64 t), (11, .ptr id 0), (12, .ptr rid 0), (13, .lp 13 0), (14, .lp 14 0), (16, .lp 16 0), (48, .fz xs.length (xs.flatMap rfC) cap), (49, .i .i64 xs.length), (50, .i .i64 q), (56, .b true)] ∧ L = [(13, t1), (14, t2), (16, c)]) → R (.exit 0) e L T) →
    AW prog sautoirlaw28_RouteLearns_l0 R [(2, .s key), (3, .i .i64 t), (11, .ptr id 0), (12, .ptr rid 0), (13, .lp 13 0), (14, .lp 14 0), (48, .fz xs.length (xs.flatMap rfC) cap), (49, .i .i64 xs.length), (50, .i .i64 k)] [(13, t1), (14, t2)] T := by
  intro ys
  induction ys with
  | nil =>
    intro k hk hle m l T hT hr hlm hm hS hle' h2
    have hk' := drop_nil hk hle
    refine AW_loop hR ?_
    unfold sautoirlaw28_RouteLearns_l0b
    simp -implicitDefEqProofs -dsimp only [go_sem, Nat.reduceEqDiff, Nat.reduceAdd, Nat.reduceMul, Nat.reduceSub, Nat.reduceLT, Nat.reduceLeDiff, Nat.reduceBEq, reduceIte, reduceCtorEq, Int.reduceLT, Int.reduceLE, Int.reduceEq, Int.reduceNeg, Int.reduceToNat, Int.reduceAdd, Int.reduceSub, hk', Int.lt_irrefl]
    rw [hk'] at h2
    exact h2 _ _ _ _ _ hT hr hlm hm hS hle' (.inl ⟨_, rfl, rfl⟩)
  | cons y ys ih =>
    intro k hk hle m l T hT hr hlm hm hS hle' h2
    obtain ⟨hlt, hy, hk'⟩ := drop_lt hk
    have hl' := hl
    unfold Len at hl
    have hcell := flat_at rfC_len hy
    have hlen : k * 4 + 4 ≤ (xs.flatMap rfC).length := by rw [flat_length rfC_len]; omega
    have hyo : RfOk y := hok y (List.mem_of_getElem? hy)
    have hO := pc_Ours y.1 y.2 hyo.1
    simp only [Rf.cells] at hO
    have hws : IntKind.i64.wrap ((k : Int) + 1) = ((k + 1 : Nat) : Int) := wrap_succ (by omega)
    refine AW_loopD (l := sautoirlaw28_RouteLearns_l0) rfl hR ?_
    unfold sautoirlaw28_RouteLearns_l0b
    simp -implicitDefEqProofs -dsimp only [go_sem, Nat.reduceEqDiff, Nat.reduceAdd, Nat.reduceMul, Nat.reduceSub, Nat.reduceLT, Nat.reduceLeDiff, Nat.reduceBEq, reduceIte, reduceCtorEq, Int.reduceLT, Int.reduceLE, Int.reduceEq, Int.reduceNeg, Int.reduceToNat, Int.reduceAdd, Int.reduceSub, Int.ofNat_lt, hlt, Int.natCast_nonneg, Int.toNat_natCast, hcell, hlen, rfC, Rf.cells, List.cons_append, List.nil_append]
    refine br_split (fun h => ?_) (fun h => ?_)
    · simp -implicitDefEqProofs -dsimp only [go_sem, Nat.reduceEqDiff, Nat.reduceAdd, Nat.reduceMul, Nat.reduceSub, Nat.reduceLT, Nat.reduceLeDiff, Nat.reduceBEq, reduceIte, reduceCtorEq, Int.reduceLT, Int.reduceLE, Int.reduceEq, Int.reduceNeg, Int.reduceToNat, Int.reduceAdd, Int.reduceSub, h]
      exact h2 _ _ _ _ _ hT hr hlm hm hS hle' (.inr ⟨_, _, rfl, rfl⟩)
    · simp -implicitDefEqProofs -dsimp only [go_sem, Nat.reduceEqDiff, Nat.reduceAdd, Nat.reduceMul, Nat.reduceSub, Nat.reduceLT, Nat.reduceLeDiff, Nat.reduceBEq, reduceIte, reduceCtorEq, Int.reduceLT, Int.reduceLE, Int.reduceEq, Int.reduceNeg, Int.reduceToNat, Int.reduceAdd, Int.reduceSub, h, ↓g_call _ _ c_sautoirlaw16_Ours]
      refine CallK.pure hO (aft_nil ?_)
      have hL := ac_Learn hT hm.small y.1.ours none none ours_small hm.ep
      have hsm := ours_small (c := y.1)
      have hP := pc_Plain y.1.ours none none (by have := hsm.1; unfold Rf.ours ourCh; simp only [List.length_map, List.length_take]; omega)
      simp only [plain_cells] at hP
      simp only [Cf.cells] at hL hP
      simp -implicitDefEqProofs -dsimp only [go_sem, Nat.reduceEqDiff, Nat.reduceAdd, Nat.reduceMul, Nat.reduceSub, Nat.reduceLT, Nat.reduceLeDiff, Nat.reduceBEq, reduceIte, reduceCtorEq, Int.reduceLT, Int.reduceLE, Int.reduceEq, Int.reduceNeg, Int.reduceToNat, Int.reduceAdd, Int.reduceSub, Cf.cells, ↓g_call _ _ c_route_Route_Learn]
      refine CallK.as hL (aft_nil ?_)
      simp -implicitDefEqProofs -dsimp only [go_sem, Nat.reduceEqDiff, Nat.reduceAdd, Nat.reduceMul, Nat.reduceSub, Nat.reduceLT, Nat.reduceLeDiff, Nat.reduceBEq, reduceIte, reduceCtorEq, Int.reduceLT, Int.reduceLE, Int.reduceEq, Int.reduceNeg, Int.reduceToNat, Int.reduceAdd, Int.reduceSub, ↓g_call _ _ c_sautoirlaw16_Plain]
      refine CallK.pure hP (aft_nil ?_)
      simp -implicitDefEqProofs -dsimp only [go_sem, Nat.reduceEqDiff, Nat.reduceAdd, Nat.reduceMul, Nat.reduceSub, Nat.reduceLT, Nat.reduceLeDiff, Nat.reduceBEq, reduceIte, reduceCtorEq, Int.reduceLT, Int.reduceLE, Int.reduceEq, Int.reduceNeg, Int.reduceToNat, Int.reduceAdd, Int.reduceSub, ↓g_call _ _ c_sautoirref28_Route_Learn]
      have hfu : y.1.ours.fu.length = y.1.ours.ch.length := by simp [Rf.ours, ourCh, ourFu]
      have hT1 : Rt (T.put idL (.row 5 (cfsC (lrnd m y.1.ours)))) id idL (lrnd m y.1.ours) := ⟨by rw [Tab.put_ne _ _ hT.ne, hT.1, lrnd_length], Tab.put_same ..⟩
      have hr1 : RRt (T.put idL (.row 5 (cfsC (lrnd m y.1.ours)))) rid l := hr.keep fun j z xs hj hz => Tab.put_ne _ _ (fun e => by subst e; rw [hT.2] at hj; injection hj; omega)
      have hle1 : TabLe T0 (T.put idL (.row 5 (cfsC (lrnd m y.1.ours)))) := hle'.put h0
      have hln : l.length = m.length := by rw [← hlm, List.length_map]
      have hmn := hm.n
      have hRL := ac_RLearn hr1 y.1.ours none hfu (by unfold Len; have := hsm.1; omega) (by omega)
      simp only [plain_cells, hlm] at hRL
      refine CallK.of hRL (fun r T2 ⟨e, ⟨l2, hr2, hlm2⟩, hk2⟩ => aft_nil ?_)
      subst e
      have hT2 : Rt T2 id idL (lrnd m y.1.ours) := by
        obtain ⟨rL, g1, _⟩ := hr1
        have hne2 : idL ≠ rid := fun e => by rw [← e, hT1.2] at g1; cases g1
        exact ⟨by rw [hk2 _ hne (by rw [hT1.1]; simp), hT1.1], by rw [hk2 idL hne2 (by rw [hT1.2]; simp), hT1.2]⟩
      have hle2 : TabLe T0 T2 := rt_keep hle1 h0r hk2
      have hm2 := lrnd_ok hm (c := y.1.ours) hyo.2
      have hr2' := hr2
      obtain ⟨rL, g1, g2, g3⟩ := hr2'
      simp -implicitDefEqProofs -dsimp only [go_sem, Nat.reduceEqDiff, Nat.reduceAdd, Nat.reduceMul, Nat.reduceSub, Nat.reduceLT, Nat.reduceLeDiff, Nat.reduceBEq, reduceIte, reduceCtorEq, Int.reduceLT, Int.reduceLE, Int.reduceEq, Int.reduceNeg, Int.reduceToNat, Int.reduceAdd, Int.reduceSub, g1]
      refine lp_Learns1 (by repeat' (first | exact finX_ext _ _ | assumption | apply blkR_ext | apply thenR_ext | apply AW_ext)) hT2 hm2 hlm2 g2 g3 l2 0 rfl (by omega) ?_
      simp -implicitDefEqProofs -dsimp only [go_sem, Nat.reduceEqDiff, Nat.reduceAdd, Nat.reduceMul, Nat.reduceSub, Nat.reduceLT, Nat.reduceLeDiff, Nat.reduceBEq, reduceIte, reduceCtorEq, Int.reduceLT, Int.reduceLE, Int.reduceEq, Int.reduceNeg, Int.reduceToNat, Int.reduceAdd, Int.reduceSub, List.cons_append, List.nil_append, hws]
      exact ih (k + 1) hk' hlt _ _ _ hT2 hr2 hlm2 hm2 (by rw [lrnd_length, hS]) hle2 h2
end Go.Aw
