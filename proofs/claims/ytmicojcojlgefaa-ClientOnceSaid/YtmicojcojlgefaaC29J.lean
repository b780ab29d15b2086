import Derived.Test.YtmicojcojlgefaaC29I
namespace Go.Aw
open Go
open Go.Proofs.Try (prog)
set_option linter.all false
set_option maxHeartbeats 8000000
set_option maxRecDepth 8000

theorem Fr.wide {fp fp' : List Nat} {T T' : Tab} (h : Fr fp [] T T') (hs : ∀ j ∈ fp, j ∈ fp') {new : List Nat} (hn : ∀ j ∈ new, j ∈ fp') : Fr fp' new T T' :=
  ⟨fun j h1 h2 => h.1 j h1 fun e => h2 (hs j e), fun j hj => .inl (hn j hj)⟩
theorem ac_Hear {T : Tab} {id r l w x : Nat} {c : Cl} (h : Ct T id r l w x c) (hk : c.Ok) (m : Lt Cf) (hm : m.Small) (ht : m.t.Fine) (hlen : m.cs.length < 1000000) (hc : ∀ c ∈ m.cs, Small c ∧ 0 ≤ c.ep) :
    ACalls prog f_client_Client_Hear [.ptr id 0, .agg m.cc] T (fun v T' => v = .b (hearF c m).2 ∧ ∃ w' x', Ct T' id r l w' x' (hearF c m).1 ∧ Fr [id, l, w, x] [w', x'] T T') := by
  refine acalls_of mixed t_client_Client_Hear (by simp) ?_
  have hT := h.cr
  simp only [clRow] at hT
  have cR := pc_lRight m hm ht
  have hself : Fr [id, l, w, x] [w, x] T T := Fr.wide (Fr.refl [] T) (fun _ h => by cases h) (fun j hj => by simp only [List.mem_cons, List.not_mem_nil, or_false] at hj ⊢; rcases hj with h | h <;> simp [h])
  unfold s_client_Client_Hear hearF mine
  rcases hr : lrF m with _ | _
  · rw [hr] at cR
    simp only [Bool.false_and, if_true]
    simp -implicitDefEqProofs -dsimp only [go_sem, seval, cc_len, cc_take, eqAv, ↓g_gdc, rcOk, true_and, ↓g_call _ _ c_letter_Right]
    refine CallK.pure cR (aft_nil ?_)
    simp -implicitDefEqProofs -dsimp only [go_sem, seval, ↓g_gdc, rcOk, true_and]
    exact finL_of _ (fun _ => .inr (.inl rfl)) ⟨rfl, w, x, h, hself⟩
  rw [hr] at cR
  simp only [Bool.true_and]
  rcases hmn : (decide (m.tk = 3) && decide (m.tn = c.me)) with _ | _
  · simp only [if_true]
    simp -implicitDefEqProofs -dsimp only [go_sem, seval, cc_len, cc_take, eqAv, ↓g_gdc, rcOk, true_and, ↓g_call _ _ c_letter_Right]
    refine CallK.pure cR (aft_nil ?_)
    simp -implicitDefEqProofs -dsimp only [go_sem, seval, hT, cc_len, cc_ta, aggEq, scalarEq, Bool.and_true, hmn, ↓g_gdc, rcOk, true_and]
    exact finL_of _ (fun _ => .inr (.inl rfl)) ⟨rfl, w, x, h, hself⟩
  simp only [Bool.true_eq_false, if_false]
  rcases hcf : (decide (m.k = 2) && decide (m.fk = 1)) with _ | _
  case true =>
    simp only [Bool.and_eq_true] at hcf
    obtain ⟨k2, f1⟩ := hcf
    simp only [if_true]
    simp -implicitDefEqProofs -dsimp only [go_sem, seval, cc_len, cc_take, eqAv, ↓g_gdc, rcOk, true_and, ↓g_call _ _ c_letter_Right]
    refine CallK.pure cR (aft_nil ?_)
    simp -implicitDefEqProofs -dsimp only [go_sem, seval, hT, cc_len, cc_take, cc_ta, cc_k, cc_fk, cc_i, cc_cs, cc_n, cc_co, cc_v, cc_q, aggEq, scalarEq, Bool.and_true, hmn, k2, f1, eqAv, ↓g_gdc, rcOk, true_and]
    refine lp_Hear (T0 := T) (by repeat' (first | exact finX_ext _ _ | assumption | apply blkR_ext | apply thenR_ext | apply AW_ext)) hlen hc m.cs 0 rfl (Nat.zero_le _) c T hk.l h (Fr.refl _ _) (fun T1 h1 hf => ?_)
    simp -implicitDefEqProofs -dsimp only [go_sem, seval]
    exact finL_of _ (fun _ => .inr (.inl rfl)) ⟨rfl, w, x, h1, Fr.wide hf (fun j hj => by simp only [List.mem_singleton] at hj; subst hj; simp) (fun j hj => by simp only [List.mem_cons, List.not_mem_nil, or_false] at hj ⊢; rcases hj with h | h <;> simp [h])⟩
  simp only [Bool.false_eq_true, if_false]
  have quit : ansd c m = false → finL (.b false) (fun v T' => v = .b (if ansd c m = true then (({ c with w := none, la := some (rsOf m) } : Cl), true) else (c, false)).2 ∧ ∃ w' x', Ct T' id r l w' x' (if ansd c m = true then (({ c with w := none, la := some (rsOf m) } : Cl), true) else (c, false)).1 ∧ Fr [id, l, w, x] [w', x'] T T') T := fun e => by
    rw [e]
    exact finL_of _ (fun _ => .inr (.inl rfl)) ⟨rfl, w, x, h, hself⟩
  rcases k2 : decide (m.k = 2) with _ | _
  case true =>
    have f1 : decide (m.fk = 1) = false := by rw [k2, Bool.true_and] at hcf; exact hcf
    have k21 : decide (m.k = 21) = false := by have := of_decide_eq_true k2; exact decide_eq_false (by omega)
    simp -implicitDefEqProofs -dsimp only [go_sem, seval, cc_len, cc_take, eqAv, ↓g_gdc, rcOk, true_and, ↓g_call _ _ c_letter_Right]
    refine CallK.pure cR (aft_nil ?_)
    simp -implicitDefEqProofs -dsimp only [go_sem, seval, hT, cc_len, cc_take, cc_ta, cc_k, cc_fk, cc_i, cc_cs, cc_n, cc_co, cc_v, cc_q, aggEq, scalarEq, Bool.and_true, hmn, k2, f1, k21, eqAv, ↓g_gdc, rcOk, true_and]
    exact quit (by simp only [ansd, k21, Bool.false_and])
  rcases k21 : decide (m.k = 21) with _ | _
  · simp -implicitDefEqProofs -dsimp only [go_sem, seval, cc_len, cc_take, eqAv, ↓g_gdc, rcOk, true_and, ↓g_call _ _ c_letter_Right]
    refine CallK.pure cR (aft_nil ?_)
    simp -implicitDefEqProofs -dsimp only [go_sem, seval, hT, cc_len, cc_take, cc_ta, cc_k, cc_fk, cc_i, cc_cs, cc_n, cc_co, cc_v, cc_q, aggEq, scalarEq, Bool.and_true, hmn, k2, k21, eqAv, ↓g_gdc, rcOk, true_and]
    exact quit (by simp only [ansd, k21, Bool.false_and])
  rcases f2 : decide (m.fk = 2) with _ | _
  · simp -implicitDefEqProofs -dsimp only [go_sem, seval, cc_len, cc_take, eqAv, ↓g_gdc, rcOk, true_and, ↓g_call _ _ c_letter_Right]
    refine CallK.pure cR (aft_nil ?_)
    simp -implicitDefEqProofs -dsimp only [go_sem, seval, hT, cc_len, cc_take, cc_ta, cc_k, cc_fk, cc_i, cc_cs, cc_n, cc_co, cc_v, cc_q, aggEq, scalarEq, Bool.and_true, hmn, k2, k21, f2, eqAv, ↓g_gdc, rcOk, true_and]
    exact quit (by simp only [ansd, f2, Bool.and_false, Bool.false_and])
  rcases hw : c.w with _ | o
  · rw [hw, ptO_none] at hT
    simp -implicitDefEqProofs -dsimp only [go_sem, seval, cc_len, cc_take, eqAv, ↓g_gdc, rcOk, true_and, ↓g_call _ _ c_letter_Right]
    refine CallK.pure cR (aft_nil ?_)
    simp -implicitDefEqProofs -dsimp only [go_sem, seval, hT, cc_len, cc_take, cc_ta, cc_k, cc_fk, cc_i, cc_cs, cc_n, cc_co, cc_v, cc_q, aggEq, scalarEq, Bool.and_true, hmn, k2, k21, f2, eqAv, ↓g_gdc, rcOk, true_and]
    have := quit (by simp only [ansd, hw, Option.isSome_none, Bool.false_and, Bool.and_false])
    exact this
  have hW := h.cw _ hw
  simp only [wRow] at hW
  rw [hw, ptO_some] at hT
  rcases hid : (decide (m.cl = c.me) && decide (m.sq = (c.sq : Int))) with _ | _
  · simp -implicitDefEqProofs -dsimp only [go_sem, seval, cc_len, cc_take, eqAv, ↓g_gdc, rcOk, true_and, ↓g_call _ _ c_letter_Right]
    refine CallK.pure cR (aft_nil ?_)
    simp -implicitDefEqProofs -dsimp only [go_sem, seval, hT, cc_len, cc_take, cc_ta, cc_k, cc_fk, cc_i, cc_cs, cc_n, cc_co, cc_v, cc_q, aggEq, scalarEq, Bool.and_true, hmn, k2, k21, f2, hW, hid, eqAv, ↓g_gdc, rcOk, true_and]
    have := quit (by simp only [ansd, hid, Bool.and_false])
    exact this
  have ha : ansd c m = true := by simp only [ansd, k21, f2, hw, hid, Option.isSome_some, Bool.and_self]
  simp only [ha, if_true]
  simp -implicitDefEqProofs -dsimp only [go_sem, seval, cc_len, cc_take, eqAv, ↓g_gdc, rcOk, true_and, ↓g_call _ _ c_letter_Right]
  refine CallK.pure cR (aft_nil ?_)
  simp -implicitDefEqProofs -dsimp only [go_sem, seval, hT, cc_len, cc_take, cc_ta, cc_k, cc_fk, cc_i, cc_cs, cc_n, cc_co, cc_v, cc_q, aggEq, scalarEq, Bool.and_true, hmn, k2, k21, f2, hW, hid, eqAv, ↓g_gdc, rcOk, true_and]
  refine stS_row hT rfl rfl (by simp) (aft_nil ?_)
  have hT1 : (T.put id (.row 6 [.i .i64 c.me, .i .i64 c.ma, .ptr r 0, .i .u64 c.sq, .nilptr, ptO c.la x])) id = .row 6 [.i .i64 c.me, .i .i64 c.ma, .ptr r 0, .i .u64 c.sq, .nilptr, ptO c.la x] := Tab.put_same ..
  simp -implicitDefEqProofs -dsimp only [go_sem, seval]
  intro x' hx'
  refine aft_nil ?_
  obtain ⟨n1, hx'⟩ := Tab.unused_put hx'
  have hT2 : ((T.put id (.row 6 [.i .i64 c.me, .i .i64 c.ma, .ptr r 0, .i .u64 c.sq, .nilptr, ptO c.la x])).put x' (rRow (rsOf m))) id = .row 6 [.i .i64 c.me, .i .i64 c.ma, .ptr r 0, .i .u64 c.sq, .nilptr, ptO c.la x] := by
    rw [Tab.put_ne _ _ (Ne.symm n1)]; exact hT1
  simp -implicitDefEqProofs -dsimp only [go_sem, seval]
  refine stS_row hT2 rfl rfl (by simp) (aft_nil ?_)
  have hput : ∀ j, j ≠ id → T j ≠ .unused → ∀ A B C, (((T.put id A).put x' B).put id C) j = T j := fun j h1 h2 A B C => by
    rw [Tab.put_ne _ _ h1, Tab.put_ne _ _ (fun e => by subst e; exact h2 hx'), Tab.put_ne _ _ h1]
  have hct : Ct (((T.put id (.row 6 [.i .i64 c.me, .i .i64 c.ma, .ptr r 0, .i .u64 c.sq, .nilptr, ptO c.la x])).put x' (rRow (rsOf m))).put id (clRow { c with w := none, la := some (rsOf m) } r w x')) id r l w x' { c with w := none, la := some (rsOf m) } := by
    refine ⟨Tab.put_same .., ⟨?_, ?_⟩, ?_, ?_⟩
    · rw [hput r (Ne.symm h.id_r) (by rw [h.rt.1]; simp)]; exact h.rt.1
    · rw [hput l (Ne.symm h.id_l) (by rw [h.rt.2]; simp)]; exact h.rt.2
    · intro q hq; cases hq
    · intro y hy
      injection hy with hy
      subst hy
      exact ⟨by rw [Tab.put_ne _ _ n1]; exact Tab.put_same .., Ne.symm n1⟩
  have hF : Fr [id, l, w, x] [w, x'] T (((T.put id (.row 6 [.i .i64 c.me, .i .i64 c.ma, .ptr r 0, .i .u64 c.sq, .nilptr, ptO c.la x])).put x' (rRow (rsOf m))).put id (clRow { c with w := none, la := some (rsOf m) } r w x')) := by
    refine ⟨fun j h1 h2 => hput j (fun e => h2 (by simp [e])) h1 _ _ _, fun j hj => ?_⟩
    simp only [List.mem_cons, List.not_mem_nil, or_false] at hj
    rcases hj with rfl | rfl
    · exact .inl (by simp)
    · exact .inr hx'
  simp -implicitDefEqProofs -dsimp only [go_sem, seval]
  exact finL_of _ (fun _ => .inr (.inl rfl)) ⟨rfl, w, x', hct, hF⟩
end Go.Aw

