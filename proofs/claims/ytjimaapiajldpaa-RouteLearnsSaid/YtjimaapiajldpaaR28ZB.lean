import Derived.Test.YtjimaapiajldpaaR28ZA
import Derived.Test.YtjimaapiajldpaaR28M
namespace Go.Aw
open Go
open Go.Proofs.Try (prog)
set_option linter.all false
set_option maxHeartbeats 8000000

theorem idxs_ne : ∀ {bs : List Bool} {k j : Nat}, bs[j]? = some true → idxs k bs ≠ []
  | [], k, j, h => by simp at h
  | true :: bs, k, j, h => by simp [idxs]
  | false :: bs, k, 0, h => by simp at h
  | false :: bs, k, j + 1, h => by
    have := idxs_ne (bs := bs) (k := k + 1) (j := j) (by simpa using h)
    simpa [idxs] using this
theorem seenL_at {l : List Bs} {n : Int} {j : Nat} (h : (seenL l n)[j]? = some true) : ∃ k ∈ l, shardOf k n = j := by
  have hj : j < 4 := (List.getElem?_eq_some_iff.1 h).1
  have h4 : j = 0 ∨ j = 1 ∨ j = 2 ∨ j = 3 := by omega
  rcases h4 with rfl | rfl | rfl | rfl <;> simpa [seenL, hasS] using h
theorem shards_head {l : List Bs} {n : Nat} (hl : l ≠ []) (hn : 1 ≤ n ∧ n ≤ 4) : ∃ x : Nat, (shardsOf l n)[0]? = some (x : Int) ∧ x < n := by
  obtain ⟨k0, ks, rfl⟩ := List.exists_cons_of_ne_nil hl
  have h4 := shardOf_lt k0 (n : Int)
  have hs : (seenL (k0 :: ks) n)[shardOf k0 n]? = some true := by
    have h5 : shardOf k0 (n : Int) = 0 ∨ shardOf k0 (n : Int) = 1 ∨ shardOf k0 (n : Int) = 2 ∨ shardOf k0 (n : Int) = 3 := by omega
    rcases h5 with h | h | h | h <;> simp [seenL, hasS, h]
  obtain ⟨x, xs, e⟩ := List.exists_cons_of_ne_nil (idxs_ne (k := 0) hs)
  obtain ⟨j, h1, h2⟩ := mem_idxs (seenL (k0 :: ks) n) 0 x (by rw [e]; exact List.mem_cons_self ..)
  obtain ⟨k, _, h3⟩ := seenL_at h1
  refine ⟨j, by unfold shardsOf; rw [e, h2]; simp, ?_⟩
  rw [← h3]; exact shardOf_len hn
theorem txOk_keys {t : Tx} (h : txOk t = true) : t.keys ≠ [] := by
  intro e
  have e1 : t.rs.length = 0 ∧ t.ws.length = 0 := by
    have := congrArg List.length e
    simp [Tx.keys] at this
    simp [this.1, this.2]
  simp [txOk, e1.1, e1.2] at h

theorem right_srv {c : Cf} (h : c.right = true) : ∀ y ∈ c.ch, 0 ≤ y := by
  simp only [Cf.right, Bool.and_eq_true] at h
  exact fun y hy => (new_srv _ _ h.2 y hy).1

theorem pc_RouteLearns (s lv v : Int) (xs : List RfK) (cap : Option Nat) (key : Bs) (t : Int) (tx : Tx) (k1 k2 : Option Nat) (hl : Len xs.length) (hok : ∀ x ∈ xs, RfOk x) (hkl : Len key.length) (htx : tx.Wide) (hsq : 0 ≤ tx.sq) :
    PCalls prog f_sautoirlaw28_RouteLearns [.agg (stC s lv v), .fz xs.length (xs.flatMap rfC) cap, .s key, .i .i64 t, .agg (tx.cells k1 k2)] (.b true) := by
  refine pcalls_of mixed t_sautoirlaw28_RouteLearns (by simp) fun T => ?_
  have hS := pc_Setup s lv v
  have hS2 := pc_refSetup s lv v
  simp only [stC] at hS hS2
  unfold s_sautoirlaw28_RouteLearns
  rcases hb : sok s lv v with _ | _
  · have hN := pc_route_New0 hb
    rw [hb] at hS2
    simp only [stC] at hN
    simp -implicitDefEqProofs -dsimp only [go_sem, Nat.reduceEqDiff, Nat.reduceAdd, Nat.reduceMul, Nat.reduceSub, Nat.reduceLT, Nat.reduceLeDiff, Nat.reduceBEq, reduceIte, reduceCtorEq, Int.reduceLT, Int.reduceLE, Int.reduceEq, Int.reduceNeg, Int.reduceToNat, Int.reduceAdd, Int.reduceSub, stC, Tx.cells, ↓g_call _ _ c_sautoirlaw21_Setup]
    refine CallK.pure hS (aft_nil ?_)
    simp -implicitDefEqProofs -dsimp only [go_sem, Nat.reduceEqDiff, Nat.reduceAdd, Nat.reduceMul, Nat.reduceSub, Nat.reduceLT, Nat.reduceLeDiff, Nat.reduceBEq, reduceIte, reduceCtorEq, Int.reduceLT, Int.reduceLE, Int.reduceEq, Int.reduceNeg, Int.reduceToNat, Int.reduceAdd, Int.reduceSub, ↓g_call _ _ c_route_New]
    refine CallK.pure hN (aft_nil ?_)
    simp -implicitDefEqProofs -dsimp only [go_sem, Nat.reduceEqDiff, Nat.reduceAdd, Nat.reduceMul, Nat.reduceSub, Nat.reduceLT, Nat.reduceLeDiff, Nat.reduceBEq, reduceIte, reduceCtorEq, Int.reduceLT, Int.reduceLE, Int.reduceEq, Int.reduceNeg, Int.reduceToNat, Int.reduceAdd, Int.reduceSub, ↓g_call _ _ c_sautoirref21_RightSetup]
    refine CallK.pure hS2 (aft_nil ?_)
    simp -implicitDefEqProofs -dsimp only [go_sem, Nat.reduceEqDiff, Nat.reduceAdd, Nat.reduceMul, Nat.reduceSub, Nat.reduceLT, Nat.reduceLeDiff, Nat.reduceBEq, reduceIte, reduceCtorEq, Int.reduceLT, Int.reduceLE, Int.reduceEq, Int.reduceNeg, Int.reduceToNat, Int.reduceAdd, Int.reduceSub, ↓g_gdc, rcOk, true_and, Bool.not_false, ↓g_call _ _ c_sautoirlaw28_awake]
    refine CallK.pure pc_awake (aft_nil ?_)
    simp -implicitDefEqProofs -dsimp only [go_sem, Nat.reduceEqDiff, Nat.reduceAdd, Nat.reduceMul, Nat.reduceSub, Nat.reduceLT, Nat.reduceLeDiff, Nat.reduceBEq, reduceIte, reduceCtorEq, Int.reduceLT, Int.reduceLE, Int.reduceEq, Int.reduceNeg, Int.reduceToNat, Int.reduceAdd, Int.reduceSub]
    exact finL_pure rfl
  have hh := of_decide_eq_true hb
  obtain ⟨S, rfl⟩ : ∃ S : Nat, s = S := ⟨s.toNat, by omega⟩
  obtain ⟨L, rfl⟩ : ∃ L : Nat, lv = L := ⟨lv.toNat, by omega⟩
  rw [hb] at hS2
  have hN := ac_route_New (T := T) hb
  simp only [stC] at hN
  simp -implicitDefEqProofs -dsimp only [go_sem, Nat.reduceEqDiff, Nat.reduceAdd, Nat.reduceMul, Nat.reduceSub, Nat.reduceLT, Nat.reduceLeDiff, Nat.reduceBEq, reduceIte, reduceCtorEq, Int.reduceLT, Int.reduceLE, Int.reduceEq, Int.reduceNeg, Int.reduceToNat, Int.reduceAdd, Int.reduceSub, stC, Tx.cells, ↓g_call _ _ c_sautoirlaw21_Setup]
  refine CallK.pure hS (aft_nil ?_)
  simp -implicitDefEqProofs -dsimp only [go_sem, Nat.reduceEqDiff, Nat.reduceAdd, Nat.reduceMul, Nat.reduceSub, Nat.reduceLT, Nat.reduceLeDiff, Nat.reduceBEq, reduceIte, reduceCtorEq, Int.reduceLT, Int.reduceLE, Int.reduceEq, Int.reduceNeg, Int.reduceToNat, Int.reduceAdd, Int.reduceSub, ↓g_call _ _ c_route_New]
  refine CallK.of hN (fun r T1 ⟨id, idL, e1, hR, hu, hle⟩ => aft_nil ?_)
  subst e1
  simp -implicitDefEqProofs -dsimp only [go_sem, Nat.reduceEqDiff, Nat.reduceAdd, Nat.reduceMul, Nat.reduceSub, Nat.reduceLT, Nat.reduceLeDiff, Nat.reduceBEq, reduceIte, reduceCtorEq, Int.reduceLT, Int.reduceLE, Int.reduceEq, Int.reduceNeg, Int.reduceToNat, Int.reduceAdd, Int.reduceSub, ↓g_call _ _ c_sautoirref21_RightSetup]
  refine CallK.pure hS2 (aft_nil ?_)
  simp -implicitDefEqProofs -dsimp only [go_sem, Nat.reduceEqDiff, Nat.reduceAdd, Nat.reduceMul, Nat.reduceSub, Nat.reduceLT, Nat.reduceLeDiff, Nat.reduceBEq, reduceIte, reduceCtorEq, Int.reduceLT, Int.reduceLE, Int.reduceEq, Int.reduceNeg, Int.reduceToNat, Int.reduceAdd, Int.reduceSub, Bool.not_true]
  have hN2 := ac_rRNew (T := T1) hb
  have hO := pc_OurTxn tx k1 k2 htx
  have hP := pc_PlainTxn tx.our none none htx.our
  simp only [stC] at hN2
  simp only [Tx.cells] at hO hP
  refine br_split (fun h => ?_) (fun h => ?_)
  case' refine_1 =>
    have h' := of_decide_eq_true h
    have h40 : 40 ≤ key.length := by omega
    simp -implicitDefEqProofs -dsimp only [go_sem, Nat.reduceEqDiff, Nat.reduceAdd, Nat.reduceMul, Nat.reduceSub, Nat.reduceLT, Nat.reduceLeDiff, Nat.reduceBEq, reduceIte, reduceCtorEq, Int.reduceLT, Int.reduceLE, Int.reduceEq, Int.reduceNeg, Int.reduceToNat, Int.reduceAdd, Int.reduceSub, h, h40, ↓g_call _ _ c_sautoirref28_New]
    have hk2 : Len (key.take 40).length := by unfold Len; rw [List.length_take]; omega
    generalize key.take 40 = key2 at hk2 ⊢
  case' refine_2 =>
    simp -implicitDefEqProofs -dsimp only [go_sem, Nat.reduceEqDiff, Nat.reduceAdd, Nat.reduceMul, Nat.reduceSub, Nat.reduceLT, Nat.reduceLeDiff, Nat.reduceBEq, reduceIte, reduceCtorEq, Int.reduceLT, Int.reduceLE, Int.reduceEq, Int.reduceNeg, Int.reduceToNat, Int.reduceAdd, Int.reduceSub, h, ↓g_call _ _ c_sautoirref28_New]
    have hk2 : Len key.length := hkl
    generalize key = key2 at hk2 ⊢
  all_goals
    refine CallK.of hN2 (fun r T2 ⟨rid, l0, e2, hru, hr, hlm, hle2, hkp⟩ => aft_nil ?_)
    subst e2
    have hR2 : Rt T2 id idL (cfs0 L S) := ⟨by rw [hkp _ (by rw [hR.1]; simp), hR.1], by rw [hkp _ (by rw [hR.2]; simp), hR.2]⟩
    have hne : id ≠ rid := fun e => by subst e; rw [hR.1] at hru; cases hru
    have hleA : TabLe T T2 := TabLe.trans hle hle2
    have hruT : T rid = .unused := TabLe.unused hle hru
    simp -implicitDefEqProofs -dsimp only [go_sem, Nat.reduceEqDiff, Nat.reduceAdd, Nat.reduceMul, Nat.reduceSub, Nat.reduceLT, Nat.reduceLeDiff, Nat.reduceBEq, reduceIte, reduceCtorEq, Int.reduceLT, Int.reduceLE, Int.reduceEq, Int.reduceNeg, Int.reduceToNat, Int.reduceAdd, Int.reduceSub, ↓g_call _ _ c_sautoirlaw12_OurTxn]
    refine CallK.pure hO (aft_nil ?_)
    simp -implicitDefEqProofs -dsimp only [go_sem, Nat.reduceEqDiff, Nat.reduceAdd, Nat.reduceMul, Nat.reduceSub, Nat.reduceLT, Nat.reduceLeDiff, Nat.reduceBEq, reduceIte, reduceCtorEq, Int.reduceLT, Int.reduceLE, Int.reduceEq, Int.reduceNeg, Int.reduceToNat, Int.reduceAdd, Int.reduceSub, ↓g_call _ _ c_sautoirlaw12_PlainTxn]
    refine CallK.pure hP (aft_nil ?_)
    simp -implicitDefEqProofs -dsimp only [go_sem, Nat.reduceEqDiff, Nat.reduceAdd, Nat.reduceMul, Nat.reduceSub, Nat.reduceLT, Nat.reduceLeDiff, Nat.reduceBEq, reduceIte, reduceCtorEq, Int.reduceLT, Int.reduceLE, Int.reduceEq, Int.reduceNeg, Int.reduceToNat, Int.reduceAdd, Int.reduceSub]
    refine lp_Learns0 (T0 := T) (S := S) (by repeat' (first | exact finX_ext _ _ | assumption | apply blkR_ext | apply thenR_ext | apply AW_ext)) hu hruT hne hl hok xs 0 rfl (by omega) _ _ _ hR2 hr hlm (cfs0_ok hb) (by simp [cfs0]) hleA (fun m l T3 e L' hT hr hlm hm hmS hle3 hform => ?_)
    obtain ⟨c, hc⟩ : ∃ c, m[shardOf key2 m.length]? = some c := ⟨_, List.getElem?_eq_getElem (shardOf_len hm.n)⟩
    have hcr := hm.c _ _ hc
    have hcl := right_len hcr.1
    obtain ⟨x, hx⟩ : ∃ x, c.ch[rdx t c.ch.length]? = some x := ⟨_, List.getElem?_eq_getElem (rdx_facts ⟨hcl.1, hcl.2.1⟩).2.2.2.2⟩
    have hx0 := right_srv hcr.1 x (List.mem_of_getElem? hx)
    have hln : l.length = m.length := by rw [← hlm, List.length_map]
    obtain ⟨w, hw⟩ : ∃ w, l[shardOf key2 m.length]? = some (c, w) := by
      rw [← hlm, List.getElem?_map] at hc
      cases hq : l[shardOf key2 (l.map (·.1)).length]? with
      | none => rw [hq] at hc; cases hc
      | some p => rw [hq] at hc; simp only [Option.map_some, Option.some.injEq] at hc; exact ⟨p.2, by rw [← hlm, hq, ← hc]⟩
    have a1 := ac_Reader hT hm key2 hk2 t c x hc hx
    have a2 := ac_RReader hr key2 hk2 t c w x (by rw [hln]; exact hw) hx hcr.1 (by have := hm.n; omega)
    obtain ⟨z, hz1, hz2⟩ : ∃ z, (if keyOk key2 = true then AV.tup [.i .i64 x, .b true] else .tup [.i .i64 (-1), .b false]) = .tup [.i .i64 z, .b (decide (0 ≤ z))] ∧ (if keyOk key2 = true then x else -1) = z := by
      rcases keyOk key2 with _ | _
      · exact ⟨-1, by simp, by simp⟩
      · exact ⟨x, by simp [hx0], by simp⟩
    rw [hz1] at a1
    rw [hz2] at a2
    obtain ⟨sx, hsx, hsl⟩ : ∃ sx : Nat, (txOk tx.our = true → (shardsOf tx.our.keys m.length)[0]? = some (sx : Int)) ∧ sx < m.length := by
      rcases ht : txOk tx.our with _ | _
      · exact ⟨0, by simp, by have := hm.n; omega⟩
      · obtain ⟨sx, q1, q2⟩ := shards_head (txOk_keys ht) hm.n
        exact ⟨sx, fun _ => q1, q2⟩
    obtain ⟨d, hd⟩ : ∃ d, m[sx]? = some d := ⟨_, List.getElem?_eq_getElem hsl⟩
    have hdr := hm.c _ _ hd
    have hdl := right_len hdr.1
    obtain ⟨y, hy⟩ : ∃ y, d.ch[0]? = some y := ⟨_, List.getElem?_eq_getElem (by omega)⟩
    have hy0 := right_srv hdr.1 y (List.mem_of_getElem? hy)
    have hat : d.at 0 = y := by unfold Cf.at; rw [if_pos ⟨hdr.1, by omega, by omega⟩]; simp [hy]
    obtain ⟨w2, hw2⟩ : ∃ w, l[sx]? = some (d, w) := by
      rw [← hlm, List.getElem?_map] at hd
      cases hq : l[sx]? with
      | none => rw [hq] at hd; cases hd
      | some p => rw [hq] at hd; simp only [Option.map_some, Option.some.injEq] at hd; exact ⟨p.2, by rw [← hd]⟩
    have hfo := htx.our
    have hro : tx.our.rs.length ≤ 400000000 := by simp [Tx.our]; omega
    have hwo : tx.our.ws.length ≤ 400000000 := by simp [Tx.our]; omega
    have a3 := ac_Writer hT hm tx.our none none hfo hro hwo sx d hsx hd
    have a4 := ac_RWriter hr tx.our none none hfo hsq hro hwo sx d w2 y (by rw [hln]; exact hsx) hw2 hy
    rw [hat] at a3
    obtain ⟨u, hu1, hu2⟩ : ∃ u, (if txOk tx.our = true then AV.tup [.i .i64 y, .b true] else .tup [.i .i64 (-1), .b false]) = .tup [.i .i64 u, .b (decide (0 ≤ u))] ∧ (if txOk tx.our = true then y else -1) = u := by
      rcases txOk tx.our with _ | _
      · exact ⟨-1, by simp, by simp⟩
      · exact ⟨y, by simp [hy0], by simp⟩
    rw [hu1] at a3
    rw [hu2] at a4
    simp only [Tx.cells] at a3 a4
    rcases hform with ⟨q, rfl, rfl⟩ | ⟨q, cc, rfl, rfl⟩
    all_goals
      simp -implicitDefEqProofs -dsimp only [go_sem, Nat.reduceEqDiff, Nat.reduceAdd, Nat.reduceMul, Nat.reduceSub, Nat.reduceLT, Nat.reduceLeDiff, Nat.reduceBEq, reduceIte, reduceCtorEq, Int.reduceLT, Int.reduceLE, Int.reduceEq, Int.reduceNeg, Int.reduceToNat, Int.reduceAdd, Int.reduceSub, ↓g_call _ _ c_route_Route_Reader]
      refine CallK.as a1 (aft_nil ?_)
      simp -implicitDefEqProofs -dsimp only [go_sem, Nat.reduceEqDiff, Nat.reduceAdd, Nat.reduceMul, Nat.reduceSub, Nat.reduceLT, Nat.reduceLeDiff, Nat.reduceBEq, reduceIte, reduceCtorEq, Int.reduceLT, Int.reduceLE, Int.reduceEq, Int.reduceNeg, Int.reduceToNat, Int.reduceAdd, Int.reduceSub, ↓g_call _ _ c_route_Route_Writer]
      refine CallK.as a3 (aft_nil ?_)
      simp -implicitDefEqProofs -dsimp only [go_sem, Nat.reduceEqDiff, Nat.reduceAdd, Nat.reduceMul, Nat.reduceSub, Nat.reduceLT, Nat.reduceLeDiff, Nat.reduceBEq, reduceIte, reduceCtorEq, Int.reduceLT, Int.reduceLE, Int.reduceEq, Int.reduceNeg, Int.reduceToNat, Int.reduceAdd, Int.reduceSub, ↓g_call _ _ c_sautoirref28_Route_Reader]
      refine CallK.as a2 (aft_nil ?_)
      simp -implicitDefEqProofs -dsimp only [go_sem, Nat.reduceEqDiff, Nat.reduceAdd, Nat.reduceMul, Nat.reduceSub, Nat.reduceLT, Nat.reduceLeDiff, Nat.reduceBEq, reduceIte, reduceCtorEq, Int.reduceLT, Int.reduceLE, Int.reduceEq, Int.reduceNeg, Int.reduceToNat, Int.reduceAdd, Int.reduceSub, eq_self, decide_true, beq_self_eq_true, ↓g_gdc, rcOk, true_and, ↓g_call _ _ c_sautoirref28_Route_Writer]
      refine CallK.as a4 (aft_nil ?_)
      simp -implicitDefEqProofs -dsimp only [go_sem, Nat.reduceEqDiff, Nat.reduceAdd, Nat.reduceMul, Nat.reduceSub, Nat.reduceLT, Nat.reduceLeDiff, Nat.reduceBEq, reduceIte, reduceCtorEq, Int.reduceLT, Int.reduceLE, Int.reduceEq, Int.reduceNeg, Int.reduceToNat, Int.reduceAdd, Int.reduceSub, eq_self, decide_true, beq_self_eq_true, ↓g_gdc, rcOk, true_and, ↓g_call _ _ c_sautoirlaw28_awake]
      refine CallK.pure pc_awake (aft_nil ?_)
      simp -implicitDefEqProofs -dsimp only [go_sem, Nat.reduceEqDiff, Nat.reduceAdd, Nat.reduceMul, Nat.reduceSub, Nat.reduceLT, Nat.reduceLeDiff, Nat.reduceBEq, reduceIte, reduceCtorEq, Int.reduceLT, Int.reduceLE, Int.reduceEq, Int.reduceNeg, Int.reduceToNat, Int.reduceAdd, Int.reduceSub]
      exact finL_of T hle3 ⟨rfl, rfl⟩
end Go.Aw
