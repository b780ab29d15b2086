import Derived.Test.YtjimaapiajldpaaR28S
namespace Go.Aw
open Go
open Go.Proofs.Try (prog)
set_option linter.all false
set_option maxHeartbeats 4000000

theorem lp_Asks {R : RPost} (hR : ExtR R) {id idL S : Nat} {l : List RfK} {cap : Option Nat} {T0 : Tab} {s lv v : Int} {key : Bs} {t : Int} (h0 : T0 idL = .unused) (hl : Len l.length) (hok : ∀ x ∈ l, RfOk x) : ∀ (ys : List RfK) (k : Nat), l.drop k = ys → k ≤ l.length → ∀ (m : List Cf) (T : Tab),
    Rt T id idL m → (∀ j, SlotLe (T0 j) (T j)) → RtOk m → m.length = S →
    (∀ m b T, Rt T id idL m → (∀ j, SlotLe (T0 j) (T j)) → RtOk m → m.length = S → R (.exit 0) [(2, .s key), (3, .i .i64 t), (4, .lp 4 0), (9, .ptr id 0), (30, .fz l.length (l.flatMap rfC) cap), (31, .i .i64 l.length), (32, b), (33, .b false)] [(4, stC s lv v)] T) →
    AW prog sautoirlaw28_RouteAsks_l0 R [(2, .s key), (3, .i .i64 t), (4, .lp 4 0), (9, .ptr id 0), (30, .fz l.length (l.flatMap rfC) cap), (31, .i .i64 l.length), (32, .i .i64 k)] [(4, stC s lv v)] T := by
  intro ys
  induction ys with
  | nil =>
    intro k hk hle m T hT hTl hm hS h2
    have hk' := drop_nil hk hle
    refine AW_loop hR ?_
    unfold sautoirlaw28_RouteAsks_l0b
    simp -implicitDefEqProofs -dsimp only [go_sem, Nat.reduceEqDiff, Nat.reduceAdd, Nat.reduceMul, Nat.reduceSub, Nat.reduceLT, Nat.reduceLeDiff, Nat.reduceBEq, reduceIte, reduceCtorEq, Int.reduceLT, Int.reduceLE, Int.reduceEq, Int.reduceNeg, Int.reduceToNat, Int.reduceAdd, Int.reduceSub, hk', Int.lt_irrefl]
    rw [hk'] at h2
    exact h2 _ _ _ hT hTl hm hS
  | cons y ys ih =>
    intro k hk hle m T hT hTl hm hS h2
    obtain ⟨hlt, hy, hk'⟩ := drop_lt hk
    have hl' := hl
    unfold Len at hl
    have hcell := flat_at rfC_len hy
    have hlen : k * 4 + 4 ≤ (l.flatMap rfC).length := by rw [flat_length rfC_len]; omega
    have hyo : RfOk y := hok y (by rw [← List.getElem?_eq_some_iff.1 hy |>.2]; exact List.getElem_mem _)
    have hO := pc_Ours y.1 y.2 hyo.1
    simp only [Rf.cells] at hO
    have hws : IntKind.i64.wrap ((k : Int) + 1) = ((k + 1 : Nat) : Int) := wrap_succ (by omega)
    refine AW_loopD (l := sautoirlaw28_RouteAsks_l0) rfl hR ?_
    unfold sautoirlaw28_RouteAsks_l0b
    simp -implicitDefEqProofs -dsimp only [go_sem, Nat.reduceEqDiff, Nat.reduceAdd, Nat.reduceMul, Nat.reduceSub, Nat.reduceLT, Nat.reduceLeDiff, Nat.reduceBEq, reduceIte, reduceCtorEq, Int.reduceLT, Int.reduceLE, Int.reduceEq, Int.reduceNeg, Int.reduceToNat, Int.reduceAdd, Int.reduceSub, Int.ofNat_lt, hlt, Int.natCast_nonneg, Int.toNat_natCast, hcell, hlen, rfC, Rf.cells, stC, List.cons_append, List.nil_append]
    refine br_split (fun h => ?_) (fun h => ?_)
    · simp -implicitDefEqProofs -dsimp only [go_sem, Nat.reduceEqDiff, Nat.reduceAdd, Nat.reduceMul, Nat.reduceSub, Nat.reduceLT, Nat.reduceLeDiff, Nat.reduceBEq, reduceIte, reduceCtorEq, Int.reduceLT, Int.reduceLE, Int.reduceEq, Int.reduceNeg, Int.reduceToNat, Int.reduceAdd, Int.reduceSub, h, ↓g_call _ _ c_sautoirlaw16_Ours]
      refine CallK.pure hO (aft_nil ?_)
      have hL := ac_Learn hT hm.small y.1.ours none none ours_small hm.ep
      simp only [Cf.cells] at hL
      have hT' : Rt (T.put idL (.row 5 (cfsC (lrnd m y.1.ours)))) id idL (lrnd m y.1.ours) := ⟨by rw [Tab.put_ne _ _ hT.ne, hT.1, lrnd_length], Tab.put_same ..⟩
      have hTl' : ∀ j, SlotLe (T0 j) ((T.put idL (.row 5 (cfsC (lrnd m y.1.ours)))) j) := fun j => by
        by_cases e : j = idL
        · subst e; exact .inl h0
        · rw [Tab.put_ne _ _ e]; exact hTl j
      simp -implicitDefEqProofs -dsimp only [go_sem, Nat.reduceEqDiff, Nat.reduceAdd, Nat.reduceMul, Nat.reduceSub, Nat.reduceLT, Nat.reduceLeDiff, Nat.reduceBEq, reduceIte, reduceCtorEq, Int.reduceLT, Int.reduceLE, Int.reduceEq, Int.reduceNeg, Int.reduceToNat, Int.reduceAdd, Int.reduceSub, Cf.cells, ↓g_call _ _ c_route_Route_Learn]
      refine CallK.as hL (aft_nil ?_)
      simp -implicitDefEqProofs -dsimp only [go_sem, Nat.reduceEqDiff, Nat.reduceAdd, Nat.reduceMul, Nat.reduceSub, Nat.reduceLT, Nat.reduceLeDiff, Nat.reduceBEq, reduceIte, reduceCtorEq, Int.reduceLT, Int.reduceLE, Int.reduceEq, Int.reduceNeg, Int.reduceToNat, Int.reduceAdd, Int.reduceSub, hws]
      exact ih (k + 1) hk' hlt _ _ hT' hTl' (lrnd_ok hm hyo.2) (by rw [lrnd_length, hS]) h2
    · simp -implicitDefEqProofs -dsimp only [go_sem, Nat.reduceEqDiff, Nat.reduceAdd, Nat.reduceMul, Nat.reduceSub, Nat.reduceLT, Nat.reduceLeDiff, Nat.reduceBEq, reduceIte, reduceCtorEq, Int.reduceLT, Int.reduceLE, Int.reduceEq, Int.reduceNeg, Int.reduceToNat, Int.reduceAdd, Int.reduceSub, h, hws]
      exact ih (k + 1) hk' hlt _ _ hT hTl hm hS h2

theorem ixF_mem {x : Int} : ∀ {l : List Int} {k : Nat}, x ∈ l → ∃ j, ixF x l k = some j
  | y :: l, k, h => by
    simp only [ixF]
    split
    · exact ⟨_, rfl⟩
    · rename_i hn
      exact ixF_mem ((List.mem_cons.1 h).resolve_left hn)
theorem ixI_mem {x : Int} {l : List Int} (h : x ∈ l) : 0 ≤ ixI x l := by
  obtain ⟨j, hj⟩ := ixF_mem (k := 0) h
  simp only [ixI, hj]; omega
theorem shards1 {key : Bs} {n : Nat} : shardsOf [key] n = [(shardOf key n : Int)] := by
  have h := shardOf_lt key (n : Int)
  have h4 : shardOf key (n : Int) = 0 ∨ shardOf key (n : Int) = 1 ∨ shardOf key (n : Int) = 2 ∨ shardOf key (n : Int) = 3 := by omega
  rcases h4 with h | h | h | h <;> simp [shardsOf, seenL, hasS, idxs, h]
def txP (key : Bs) : Tx := ⟨0, 1, true, [], [⟨key, [], false⟩]⟩
theorem txP_ok (key : Bs) : txOk (txP key) = keyOk key := by
  simp [txOk, txP, idOk, onceF, wOk, valOk, sgn]

theorem pc_RouteAsks (s l v : Int) (xs : List RfK) (cap : Option Nat) (key : Bs) (t : Int) (hl : Len xs.length) (hok : ∀ x ∈ xs, RfOk x) (hkl : Len key.length) : PCalls prog f_sautoirlaw28_RouteAsks [.agg (stC s l v), .fz xs.length (xs.flatMap rfC) cap, .s key, .i .i64 t] (.b true) := by
  refine pcalls_of mixed t_sautoirlaw28_RouteAsks (by simp) fun T => ?_
  have hS := pc_Setup s l v
  have hS2 := pc_refSetup s l v
  simp only [stC] at hS hS2
  unfold s_sautoirlaw28_RouteAsks
  rcases hb : sok s l v with _ | _
  · have hN := pc_route_New0 hb
    rw [hb] at hS2
    simp only [stC] at hN
    simp -implicitDefEqProofs -dsimp only [go_sem, Nat.reduceEqDiff, Nat.reduceAdd, Nat.reduceMul, Nat.reduceSub, Nat.reduceLT, Nat.reduceLeDiff, Nat.reduceBEq, reduceIte, reduceCtorEq, Int.reduceLT, Int.reduceLE, Int.reduceEq, Int.reduceNeg, Int.reduceToNat, Int.reduceAdd, Int.reduceSub, stC, ↓g_call _ _ c_sautoirlaw21_Setup]
    refine CallK.pure hS (aft_nil ?_)
    simp -implicitDefEqProofs -dsimp only [go_sem, Nat.reduceEqDiff, Nat.reduceAdd, Nat.reduceMul, Nat.reduceSub, Nat.reduceLT, Nat.reduceLeDiff, Nat.reduceBEq, reduceIte, reduceCtorEq, Int.reduceLT, Int.reduceLE, Int.reduceEq, Int.reduceNeg, Int.reduceToNat, Int.reduceAdd, Int.reduceSub, ↓g_call _ _ c_route_New]
    refine CallK.pure hN (aft_nil ?_)
    simp -implicitDefEqProofs -dsimp only [go_sem, Nat.reduceEqDiff, Nat.reduceAdd, Nat.reduceMul, Nat.reduceSub, Nat.reduceLT, Nat.reduceLeDiff, Nat.reduceBEq, reduceIte, reduceCtorEq, Int.reduceLT, Int.reduceLE, Int.reduceEq, Int.reduceNeg, Int.reduceToNat, Int.reduceAdd, Int.reduceSub, ↓g_call _ _ c_sautoirref21_RightSetup]
    refine CallK.pure hS2 (aft_nil ?_)
    simp -implicitDefEqProofs -dsimp only [go_sem, Nat.reduceEqDiff, Nat.reduceAdd, Nat.reduceMul, Nat.reduceSub, Nat.reduceLT, Nat.reduceLeDiff, Nat.reduceBEq, reduceIte, reduceCtorEq, Int.reduceLT, Int.reduceLE, Int.reduceEq, Int.reduceNeg, Int.reduceToNat, Int.reduceAdd, Int.reduceSub, ↓g_gdc, Bool.not_false, ↓g_call _ _ c_sautoirlaw28_awake]
    refine CallK.pure pc_awake (aft_nil ?_)
    simp -implicitDefEqProofs -dsimp only [go_sem, Nat.reduceEqDiff, Nat.reduceAdd, Nat.reduceMul, Nat.reduceSub, Nat.reduceLT, Nat.reduceLeDiff, Nat.reduceBEq, reduceIte, reduceCtorEq, Int.reduceLT, Int.reduceLE, Int.reduceEq, Int.reduceNeg, Int.reduceToNat, Int.reduceAdd, Int.reduceSub]
    exact finL_pure rfl
  have hh := of_decide_eq_true hb
  obtain ⟨S, rfl⟩ : ∃ S : Nat, s = S := ⟨s.toNat, by omega⟩
  obtain ⟨L, rfl⟩ : ∃ L : Nat, l = L := ⟨l.toNat, by omega⟩
  have hN := ac_route_New (T := T) hb
  simp only [stC] at hN
  simp -implicitDefEqProofs -dsimp only [go_sem, Nat.reduceEqDiff, Nat.reduceAdd, Nat.reduceMul, Nat.reduceSub, Nat.reduceLT, Nat.reduceLeDiff, Nat.reduceBEq, reduceIte, reduceCtorEq, Int.reduceLT, Int.reduceLE, Int.reduceEq, Int.reduceNeg, Int.reduceToNat, Int.reduceAdd, Int.reduceSub, stC, ↓g_call _ _ c_sautoirlaw21_Setup]
  refine CallK.pure hS (aft_nil ?_)
  simp -implicitDefEqProofs -dsimp only [go_sem, Nat.reduceEqDiff, Nat.reduceAdd, Nat.reduceMul, Nat.reduceSub, Nat.reduceLT, Nat.reduceLeDiff, Nat.reduceBEq, reduceIte, reduceCtorEq, Int.reduceLT, Int.reduceLE, Int.reduceEq, Int.reduceNeg, Int.reduceToNat, Int.reduceAdd, Int.reduceSub, ↓g_call _ _ c_route_New]
  refine CallK.of hN (fun r T1 ⟨id, idL, e1, hR, hu, hle⟩ => aft_nil ?_)
  subst e1
  simp -implicitDefEqProofs -dsimp only [go_sem, Nat.reduceEqDiff, Nat.reduceAdd, Nat.reduceMul, Nat.reduceSub, Nat.reduceLT, Nat.reduceLeDiff, Nat.reduceBEq, reduceIte, reduceCtorEq, Int.reduceLT, Int.reduceLE, Int.reduceEq, Int.reduceNeg, Int.reduceToNat, Int.reduceAdd, Int.reduceSub]
  have hgo := fun R hR' => lp_Asks (R := R) (T0 := T) (S := S) (s := S) (lv := L) (v := v) (key := key) (t := t) (l := xs) (cap := cap) hR' hu hl hok xs 0 rfl (by omega) _ _ hR hle (cfs0_ok hb) (by simp [cfs0])
  simp only [stC] at hgo
  refine hgo _ (by repeat' (first | exact finX_ext _ _ | assumption | apply blkR_ext | apply thenR_ext | apply AW_ext)) (fun m b T2 hR hle hm hmS => ?_)
  clear hgo
  have hp := txP_ok key
  have hlr : (txP key).Fine := ⟨by simp [txP], by simp [txP], by simp [txP], by simpa [txP] using hkl, by simp [txP, Len]⟩
  obtain ⟨c, hc⟩ : ∃ c, m[shardOf key m.length]? = some c := ⟨_, List.getElem?_eq_getElem (shardOf_len hm.n)⟩
  have hcr := hm.c _ _ hc
  have hcl := right_len hcr.1
  obtain ⟨x, hx⟩ : ∃ x, c.ch[rdx t c.ch.length]? = some x := ⟨_, List.getElem?_eq_getElem (rdx_facts ⟨hcl.1, hcl.2.1⟩).2.2.2.2⟩
  have a1 := ac_Reader hR hm key hkl t c x hc hx
  have a2 := ac_Writer hR hm (txP key) (some 0) (some 1) hlr (by simp [txP]) (by simp [txP]) (shardOf key m.length) c (fun _ => by
    show (shardsOf [key] (m.length : Int))[0]? = _
    rw [shards1]; rfl) hc
  have a3 := pc_RightTxn (txP key) (some 0) (some 1) hlr
  have a4 := pc_tShards (txP key) (some 0) (some 1) m.length hlr (by simp [txP]) (by simp [txP])
  have e4 : shardsOf (txP key).keys m.length = [(shardOf key m.length : Int)] := shards1
  rw [e4, hmS] at a4
  have hpl : (c.place x) = ixI x c.ch := by unfold Cf.place; rw [if_pos hcr.1]
  have hix : 0 ≤ ixI x c.ch := ixI_mem (List.mem_of_getElem? hx)
  rcases hk : keyOk key with _ | _
  · rw [hk] at hp
    simp only [hk, hp, Bool.false_eq_true, if_false] at a1 a2 a3
    simp only [txP, Tx.cells, List.flatMap_nil, List.flatMap_cons, List.append_nil, wtC, List.length_cons, List.length_nil, Nat.zero_add] at a2 a3 a4
    simp -implicitDefEqProofs -dsimp only [go_sem, Nat.reduceEqDiff, Nat.reduceAdd, Nat.reduceMul, Nat.reduceSub, Nat.reduceLT, Nat.reduceLeDiff, Nat.reduceBEq, reduceIte, reduceCtorEq, Int.reduceLT, Int.reduceLE, Int.reduceEq, Int.reduceNeg, Int.reduceToNat, Int.reduceAdd, Int.reduceSub, ↓g_call _ _ c_route_Route_Reader]
    refine CallK.as a1 (aft_nil ?_)
    simp -implicitDefEqProofs -dsimp only [go_sem, Nat.reduceEqDiff, Nat.reduceAdd, Nat.reduceMul, Nat.reduceSub, Nat.reduceLT, Nat.reduceLeDiff, Nat.reduceBEq, reduceIte, reduceCtorEq, Int.reduceLT, Int.reduceLE, Int.reduceEq, Int.reduceNeg, Int.reduceToNat, Int.reduceAdd, Int.reduceSub, ↓g_call _ _ c_route_Route_Writer]
    refine CallK.as a2 (aft_nil ?_)
    simp -implicitDefEqProofs -dsimp only [go_sem, Nat.reduceEqDiff, Nat.reduceAdd, Nat.reduceMul, Nat.reduceSub, Nat.reduceLT, Nat.reduceLeDiff, Nat.reduceBEq, reduceIte, reduceCtorEq, Int.reduceLT, Int.reduceLE, Int.reduceEq, Int.reduceNeg, Int.reduceToNat, Int.reduceAdd, Int.reduceSub, ↓g_call _ _ c_entry_RightTxn]
    refine CallK.pure a3 (aft_nil ?_)
    simp -implicitDefEqProofs -dsimp only [go_sem, Nat.reduceEqDiff, Nat.reduceAdd, Nat.reduceMul, Nat.reduceSub, Nat.reduceLT, Nat.reduceLeDiff, Nat.reduceBEq, reduceIte, reduceCtorEq, Int.reduceLT, Int.reduceLE, Int.reduceEq, Int.reduceNeg, Int.reduceToNat, Int.reduceAdd, Int.reduceSub, ↓g_gdc, rcOk, true_and, Bool.not_false, Bool.not_true, ↓g_call _ _ c_sautoirlaw28_awake]
    refine CallK.pure pc_awake (aft_nil ?_)
    simp -implicitDefEqProofs -dsimp only [go_sem, Nat.reduceEqDiff, Nat.reduceAdd, Nat.reduceMul, Nat.reduceSub, Nat.reduceLT, Nat.reduceLeDiff, Nat.reduceBEq, reduceIte, reduceCtorEq, Int.reduceLT, Int.reduceLE, Int.reduceEq, Int.reduceNeg, Int.reduceToNat, Int.reduceAdd, Int.reduceSub]
    exact finL_of T hle ⟨rfl, rfl⟩
  rw [hk] at hp
  simp only [hk, hp, if_true] at a1 a2 a3
  simp only [txP, Tx.cells, List.flatMap_nil, List.flatMap_cons, List.append_nil, wtC, List.length_cons, List.length_nil, Nat.zero_add] at a2 a3 a4
  simp -implicitDefEqProofs -dsimp only [go_sem, Nat.reduceEqDiff, Nat.reduceAdd, Nat.reduceMul, Nat.reduceSub, Nat.reduceLT, Nat.reduceLeDiff, Nat.reduceBEq, reduceIte, reduceCtorEq, Int.reduceLT, Int.reduceLE, Int.reduceEq, Int.reduceNeg, Int.reduceToNat, Int.reduceAdd, Int.reduceSub, ↓g_call _ _ c_route_Route_Reader]
  refine CallK.as a1 (aft_nil ?_)
  simp -implicitDefEqProofs -dsimp only [go_sem, Nat.reduceEqDiff, Nat.reduceAdd, Nat.reduceMul, Nat.reduceSub, Nat.reduceLT, Nat.reduceLeDiff, Nat.reduceBEq, reduceIte, reduceCtorEq, Int.reduceLT, Int.reduceLE, Int.reduceEq, Int.reduceNeg, Int.reduceToNat, Int.reduceAdd, Int.reduceSub, ↓g_call _ _ c_route_Route_Writer]
  refine CallK.as a2 (aft_nil ?_)
  simp -implicitDefEqProofs -dsimp only [go_sem, Nat.reduceEqDiff, Nat.reduceAdd, Nat.reduceMul, Nat.reduceSub, Nat.reduceLT, Nat.reduceLeDiff, Nat.reduceBEq, reduceIte, reduceCtorEq, Int.reduceLT, Int.reduceLE, Int.reduceEq, Int.reduceNeg, Int.reduceToNat, Int.reduceAdd, Int.reduceSub, ↓g_call _ _ c_entry_RightTxn]
  refine CallK.pure a3 (aft_nil ?_)
  simp -implicitDefEqProofs -dsimp only [go_sem, Nat.reduceEqDiff, Nat.reduceAdd, Nat.reduceMul, Nat.reduceSub, Nat.reduceLT, Nat.reduceLeDiff, Nat.reduceBEq, reduceIte, reduceCtorEq, Int.reduceLT, Int.reduceLE, Int.reduceEq, Int.reduceNeg, Int.reduceToNat, Int.reduceAdd, Int.reduceSub, ↓g_gdc, rcOk, true_and, Bool.not_false, Bool.not_true, ↓g_call _ _ c_entry_Txn_Shards]
  refine CallK.pure a4 (aft_nil ?_)
  have a5 := ac_Conf hR hm.small (shardOf key S)
  have e5 : cfR m (shardOf key S) = .tup [.agg (c.cells none none), .b true] := by
    rw [hmS] at hc
    unfold cfR at?
    rw [if_pos (Int.natCast_nonneg _), Int.toNat_natCast, hc]
  rw [e5] at a5
  simp -implicitDefEqProofs -dsimp only [go_sem, Nat.reduceEqDiff, Nat.reduceAdd, Nat.reduceMul, Nat.reduceSub, Nat.reduceLT, Nat.reduceLeDiff, Nat.reduceBEq, reduceIte, reduceCtorEq, Int.reduceLT, Int.reduceLE, Int.reduceEq, Int.reduceNeg, Int.reduceToNat, Int.reduceAdd, Int.reduceSub, ints, List.map_cons, List.map_nil, show ((1 : Nat) : Int) = 1 from rfl, ↓g_call _ _ c_route_Route_Conf]
  refine CallK.as a5 (aft_nil ?_)
  have a6 := pc_Place c none none x (by unfold Len; omega)
  have a7 := pc_Head c none none (by unfold Len; omega)
  rw [hpl] at a6
  simp only [Cf.cells] at a6 a7
  have d6 : decide (0 ≤ ixI x c.ch) = true := decide_eq_true hix
  simp -implicitDefEqProofs -dsimp only [go_sem, Nat.reduceEqDiff, Nat.reduceAdd, Nat.reduceMul, Nat.reduceSub, Nat.reduceLT, Nat.reduceLeDiff, Nat.reduceBEq, reduceIte, reduceCtorEq, Int.reduceLT, Int.reduceLE, Int.reduceEq, Int.reduceNeg, Int.reduceToNat, Int.reduceAdd, Int.reduceSub, Cf.cells, ↓g_gdc, rcOk, true_and, ↓g_call _ _ c_conf_Conf_Place]
  refine CallK.pure a6 (aft_nil ?_)
  simp -implicitDefEqProofs -dsimp only [go_sem, Nat.reduceEqDiff, Nat.reduceAdd, Nat.reduceMul, Nat.reduceSub, Nat.reduceLT, Nat.reduceLeDiff, Nat.reduceBEq, reduceIte, reduceCtorEq, Int.reduceLT, Int.reduceLE, Int.reduceEq, Int.reduceNeg, Int.reduceToNat, Int.reduceAdd, Int.reduceSub, d6, ↓g_gdc, rcOk, true_and, ↓g_call _ _ c_conf_Conf_Head]
  refine CallK.pure a7 (aft_nil ?_)
  simp -implicitDefEqProofs -dsimp only [go_sem, Nat.reduceEqDiff, Nat.reduceAdd, Nat.reduceMul, Nat.reduceSub, Nat.reduceLT, Nat.reduceLeDiff, Nat.reduceBEq, reduceIte, reduceCtorEq, Int.reduceLT, Int.reduceLE, Int.reduceEq, Int.reduceNeg, Int.reduceToNat, Int.reduceAdd, Int.reduceSub, decide_true, ↓g_gdc, rcOk, true_and, ↓g_call _ _ c_sautoirlaw28_awake]
  refine CallK.pure pc_awake (aft_nil ?_)
  simp -implicitDefEqProofs -dsimp only [go_sem, Nat.reduceEqDiff, Nat.reduceAdd, Nat.reduceMul, Nat.reduceSub, Nat.reduceLT, Nat.reduceLeDiff, Nat.reduceBEq, reduceIte, reduceCtorEq, Int.reduceLT, Int.reduceLE, Int.reduceEq, Int.reduceNeg, Int.reduceToNat, Int.reduceAdd, Int.reduceSub]
  exact finL_of T hle ⟨rfl, rfl⟩
end Go.Aw
