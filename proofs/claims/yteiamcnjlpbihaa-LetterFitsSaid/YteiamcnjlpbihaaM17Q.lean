import Derived.Test.YteiamcnjlpbihaaM17P
namespace Go.Aw
open Go
open Go.Proofs.Try (prog)
set_option linter.all false
set_option maxHeartbeats 8000000
set_option maxRecDepth 8000

section
variable (l : Lt Cf)
theorem enS_115 : enS l 115 = enc l.sh.toNat := by simp only [enS, Int.reduceEq, if_true, if_false]
theorem enS_101 : enS l 101 = enc l.ep.toNat := by simp only [enS, Int.reduceEq, if_true, if_false]
theorem enS_110 : enS l 110 = enc l.n.toNat := by simp only [enS, Int.reduceEq, if_true, if_false]
theorem enS_109 : enS l 109 = enc l.m.toNat := by simp only [enS, Int.reduceEq, if_true, if_false]
theorem enS_111 : enS l 111 = enc l.nd.toNat := by simp only [enS, Int.reduceEq, if_true, if_false]
theorem enS_102 : enS l 102 = enc (if l.fl = true then 1 else 0) := by simp only [enS, Int.reduceEq, if_true, if_false]
theorem enS_98 : enS l 98 = enc l.br.toNat ++ enc l.bn.toNat := by simp only [enS, Int.reduceEq, if_true, if_false]
theorem enS_118 : enS l 118 = enc l.vs.length ++ l.vs.flatMap encV := by simp only [enS, Int.reduceEq, if_true, if_false]
theorem enS_99 : enS l 99 = enc l.cs.length ++ l.cs.flatMap encC := by simp only [enS, Int.reduceEq, if_true, if_false]
theorem enS_108 : enS l 108 = enc l.es.length ++ l.es.flatMap encE := by simp only [enS, Int.reduceEq, if_true, if_false]
theorem enS_120 : enS l 120 = encTx l.t := by simp only [enS, Int.reduceEq, if_true, if_false]
theorem enS_105 : enS l 105 = enc l.cl.toNat ++ enc l.sq.toNat := by simp only [enS, Int.reduceEq, if_true, if_false]
theorem enS_116 : enS l 116 = encT l.v := by simp only [enS, Int.reduceEq, if_true, if_false]
theorem enS_113 : enS l 113 = enc l.q.toNat := by simp only [enS, Int.reduceEq, if_true, if_false]
theorem enS_114 : enS l 114 = enc l.co.toNat := by simp only [enS, Int.reduceEq, if_true, if_false]
end

theorem pc_lput (l : Lt Cf) (b : Bs) (c : Option Nat) (s : Int) (hb : b.length ≤ 90000) (hr : l.Rng) (ht : l.t.Fine) (hs : s = 115 ∨ s = 101 ∨ s = 110 ∨ s = 109 ∨ s = 111 ∨ s = 102 ∨ s = 98 ∨ s = 118 ∨ s = 99 ∨ s = 108 ∨ s = 120 ∨ s = 105 ∨ s = 116 ∨ s = 113 ∨ s = 114) (hm : maF l s = true) :
    PCalls prog f_letter_Letter_put [.agg l.cc, bts b c, .i .u8 s] (bts (b ++ enS l s) none) := by
  refine pcalls_of mixed t_letter_Letter_put (by simp) fun T => ?_
  unfold s_letter_Letter_put
  rcases hs with rfl | rfl | rfl | rfl | rfl | rfl | rfl | rfl | rfl | rfl | rfl | rfl | rfl | rfl | rfl
  · have h : (decide (0 ≤ l.sh) && decide (l.sh < 4)) = true := hm
    simp only [shOk, baOk, idOk, Bool.and_eq_true, decide_eq_true_eq] at h
    have hw : IntKind.u64.wrap l.sh = l.sh := IntWalk.u64_in _ (by omega)
    have pc := pc_oPut b c l.sh.toNat (by omega) (by omega)
    rw [Int.toNat_of_nonneg (by omega)] at pc
    simp -implicitDefEqProofs -dsimp only [go_sem, seval, cc_len, cc_take, cc_sh, cc_ep, cc_n, cc_m, cc_nd, cc_fl, cc_b, cc_x, cc_i, cc_v, cc_q, cc_co, decide_true, decide_false, hw, ↓g_call _ _ c_octet_Put]
    refine CallK.pure pc (aft_nil ?_)
    simp -implicitDefEqProofs -dsimp only [go_sem, seval]
    exact finL_pure (by rw [enS_115])
  · have h := hr.ep
    have pc := pc_oPut b c l.ep.toNat (by omega) (by omega)
    rw [Int.toNat_of_nonneg (by omega)] at pc
    simp -implicitDefEqProofs -dsimp only [go_sem, seval, cc_len, cc_take, cc_sh, cc_ep, cc_n, cc_m, cc_nd, cc_fl, cc_b, cc_x, cc_i, cc_v, cc_q, cc_co, decide_true, decide_false, ↓g_call _ _ c_octet_Put]
    refine CallK.pure pc (aft_nil ?_)
    simp -implicitDefEqProofs -dsimp only [go_sem, seval]
    exact finL_pure (by rw [enS_101])
  · have h : shOk l.n = true := hm
    simp only [shOk, baOk, idOk, Bool.and_eq_true, decide_eq_true_eq] at h
    have hw : IntKind.u64.wrap l.n = l.n := IntWalk.u64_in _ (by omega)
    have pc := pc_oPut b c l.n.toNat (by omega) (by omega)
    rw [Int.toNat_of_nonneg (by omega)] at pc
    simp -implicitDefEqProofs -dsimp only [go_sem, seval, cc_len, cc_take, cc_sh, cc_ep, cc_n, cc_m, cc_nd, cc_fl, cc_b, cc_x, cc_i, cc_v, cc_q, cc_co, decide_true, decide_false, hw, ↓g_call _ _ c_octet_Put]
    refine CallK.pure pc (aft_nil ?_)
    simp -implicitDefEqProofs -dsimp only [go_sem, seval]
    exact finL_pure (by rw [enS_110])
  · have h : shOk l.m = true := hm
    simp only [shOk, baOk, idOk, Bool.and_eq_true, decide_eq_true_eq] at h
    have hw : IntKind.u64.wrap l.m = l.m := IntWalk.u64_in _ (by omega)
    have pc := pc_oPut b c l.m.toNat (by omega) (by omega)
    rw [Int.toNat_of_nonneg (by omega)] at pc
    simp -implicitDefEqProofs -dsimp only [go_sem, seval, cc_len, cc_take, cc_sh, cc_ep, cc_n, cc_m, cc_nd, cc_fl, cc_b, cc_x, cc_i, cc_v, cc_q, cc_co, decide_true, decide_false, hw, ↓g_call _ _ c_octet_Put]
    refine CallK.pure pc (aft_nil ?_)
    simp -implicitDefEqProofs -dsimp only [go_sem, seval]
    exact finL_pure (by rw [enS_109])
  · have h : (decide (0 ≤ l.nd) && decide (l.nd < 8)) = true := hm
    simp only [shOk, baOk, idOk, Bool.and_eq_true, decide_eq_true_eq] at h
    have hw : IntKind.u64.wrap l.nd = l.nd := IntWalk.u64_in _ (by omega)
    have pc := pc_oPut b c l.nd.toNat (by omega) (by omega)
    rw [Int.toNat_of_nonneg (by omega)] at pc
    simp -implicitDefEqProofs -dsimp only [go_sem, seval, cc_len, cc_take, cc_sh, cc_ep, cc_n, cc_m, cc_nd, cc_fl, cc_b, cc_x, cc_i, cc_v, cc_q, cc_co, decide_true, decide_false, hw, ↓g_call _ _ c_octet_Put]
    refine CallK.pure pc (aft_nil ?_)
    simp -implicitDefEqProofs -dsimp only [go_sem, seval]
    exact finL_pure (by rw [enS_111])
  · have e : (if l.fl = true then (1 : Nat) else 0) < 18446744073709551616 := by split <;> omega
    simp -implicitDefEqProofs -dsimp only [go_sem, seval, cc_len, cc_take, cc_sh, cc_ep, cc_n, cc_m, cc_nd, cc_fl, cc_b, cc_x, cc_i, cc_v, cc_q, cc_co, decide_true, decide_false, ↓g_call _ _ c_letter_flag]
    refine CallK.pure (pc_lflag l.fl) (aft_nil ?_)
    generalize hg : (if l.fl = true then (1 : Nat) else 0) = g at *
    simp -implicitDefEqProofs -dsimp only [go_sem, seval, ↓g_call _ _ c_octet_Put]
    refine CallK.pure (pc_oPut b c g (by omega) e) (aft_nil ?_)
    simp -implicitDefEqProofs -dsimp only [go_sem, seval]
    exact finL_pure (by rw [enS_102, hg])
  · have h : baOk l.bn = true := hm
    have h2 := hr.br
    have pc := pc_bPut b c l.br.toNat l.bn (by omega) (by omega) h
    rw [Int.toNat_of_nonneg (by omega)] at pc
    simp -implicitDefEqProofs -dsimp only [go_sem, seval, cc_len, cc_take, cc_sh, cc_ep, cc_n, cc_m, cc_nd, cc_fl, cc_b, cc_x, cc_i, cc_v, cc_q, cc_co, decide_true, decide_false, ↓g_call _ _ c_ballot_Put]
    refine CallK.pure pc (aft_nil ?_)
    simp -implicitDefEqProofs -dsimp only [go_sem, seval]
    exact finL_pure (by rw [enS_98])
  · have pc := pc_putList l b c 118 hb hr (.inl ⟨rfl, hm⟩)
    simp -implicitDefEqProofs -dsimp only [go_sem, seval, cc_len, cc_take, cc_sh, cc_ep, cc_n, cc_m, cc_nd, cc_fl, cc_b, cc_x, cc_i, cc_v, cc_q, cc_co, decide_true, decide_false, ↓g_call _ _ c_letter_Letter_putList]
    refine CallK.pure pc (aft_nil ?_)
    simp -implicitDefEqProofs -dsimp only [go_sem, seval]
    exact finL_pure rfl
  · have pc := pc_putList l b c 99 hb hr (.inr (.inl ⟨rfl, hm⟩))
    simp -implicitDefEqProofs -dsimp only [go_sem, seval, cc_len, cc_take, cc_sh, cc_ep, cc_n, cc_m, cc_nd, cc_fl, cc_b, cc_x, cc_i, cc_v, cc_q, cc_co, decide_true, decide_false, ↓g_call _ _ c_letter_Letter_putList]
    refine CallK.pure pc (aft_nil ?_)
    simp -implicitDefEqProofs -dsimp only [go_sem, seval]
    exact finL_pure rfl
  · have pc := pc_putList l b c 108 hb hr (.inr (.inr ⟨rfl, hm⟩))
    simp -implicitDefEqProofs -dsimp only [go_sem, seval, cc_len, cc_take, cc_sh, cc_ep, cc_n, cc_m, cc_nd, cc_fl, cc_b, cc_x, cc_i, cc_v, cc_q, cc_co, decide_true, decide_false, ↓g_call _ _ c_letter_Letter_putList]
    refine CallK.pure pc (aft_nil ?_)
    simp -implicitDefEqProofs -dsimp only [go_sem, seval]
    exact finL_pure rfl
  · have h : txOk l.t = true := hm
    have pc := pc_tBytes l.t none none b c (good_of_ok h hr.tsq hr.tr) (by omega)
    simp -implicitDefEqProofs -dsimp only [go_sem, seval, cc_len, cc_take, cc_sh, cc_ep, cc_n, cc_m, cc_nd, cc_fl, cc_b, cc_x, cc_i, cc_v, cc_q, cc_co, tx_len, decide_true, decide_false, ↓g_call _ _ c_entry_Txn_Bytes]
    refine CallK.pure pc (aft_nil ?_)
    simp -implicitDefEqProofs -dsimp only [go_sem, seval]
    exact finL_pure (by rw [enS_120])
  · have h : idOk l.cl l.sq = true := hm
    simp only [idOk, Bool.and_eq_true, decide_eq_true_eq] at h
    have h2 := hr.sq
    have l1 := enc_len10 (m := l.cl.toNat) (by omega)
    have hw : IntKind.u64.wrap l.cl = l.cl := IntWalk.u64_in _ (by omega)
    have pc := pc_oPut b c l.cl.toNat (by omega) (by omega)
    rw [Int.toNat_of_nonneg (by omega)] at pc
    have pc2 := pc_oPut (b ++ enc l.cl.toNat) none l.sq.toNat (by simp; omega) (by omega)
    rw [Int.toNat_of_nonneg (a := l.sq) (by omega)] at pc2
    have hcl : (l.cells cfC)[21]? = some (.i .i64 l.cl) := rfl
    have hsq : (l.cells cfC)[22]? = some (.i .u64 l.sq) := rfl
    simp -implicitDefEqProofs -dsimp only [go_sem, seval, cc_len, cc_take, cc_sh, cc_ep, cc_n, cc_m, cc_nd, cc_fl, cc_b, cc_x, cc_i, cc_v, cc_q, cc_co, hcl, hsq, decide_true, decide_false, hw, ↓g_call _ _ c_octet_Put]
    refine CallK.pure pc (aft_nil ?_)
    simp -implicitDefEqProofs -dsimp only [go_sem, seval, ↓g_call _ _ c_octet_Put]
    refine CallK.pure pc2 (aft_nil ?_)
    simp -implicitDefEqProofs -dsimp only [go_sem, seval]
    exact finL_pure (by rw [enS_105, List.append_assoc])
  · have h : decide ((l.v.length : Int) ≤ 64) = true := hm
    have h := of_decide_eq_true h
    simp -implicitDefEqProofs -dsimp only [go_sem, seval, cc_len, cc_take, cc_sh, cc_ep, cc_n, cc_m, cc_nd, cc_fl, cc_b, cc_x, cc_i, cc_v, cc_q, cc_co, decide_true, decide_false, ↓g_call _ _ c_octet_Text]
    refine CallK.pure (pc_oText b c l.v (by omega) (by omega)) (aft_nil ?_)
    simp -implicitDefEqProofs -dsimp only [go_sem, seval]
    exact finL_pure (by rw [enS_116])
  · have h := hr.q
    have pc := pc_oPut b c l.q.toNat (by omega) (by omega)
    rw [Int.toNat_of_nonneg (by omega)] at pc
    simp -implicitDefEqProofs -dsimp only [go_sem, seval, cc_len, cc_take, cc_sh, cc_ep, cc_n, cc_m, cc_nd, cc_fl, cc_b, cc_x, cc_i, cc_v, cc_q, cc_co, decide_true, decide_false, ↓g_call _ _ c_octet_Put]
    refine CallK.pure pc (aft_nil ?_)
    simp -implicitDefEqProofs -dsimp only [go_sem, seval]
    exact finL_pure (by rw [enS_113])
  · have h : (decide (0 ≤ l.co) && decide (l.co ≤ 99)) = true := hm
    simp only [shOk, baOk, idOk, Bool.and_eq_true, decide_eq_true_eq] at h
    have hw : IntKind.u64.wrap l.co = l.co := IntWalk.u64_in _ (by omega)
    have pc := pc_oPut b c l.co.toNat (by omega) (by omega)
    rw [Int.toNat_of_nonneg (by omega)] at pc
    simp -implicitDefEqProofs -dsimp only [go_sem, seval, cc_len, cc_take, cc_sh, cc_ep, cc_n, cc_m, cc_nd, cc_fl, cc_b, cc_x, cc_i, cc_v, cc_q, cc_co, decide_true, decide_false, hw, ↓g_call _ _ c_octet_Put]
    refine CallK.pure pc (aft_nil ?_)
    simp -implicitDefEqProofs -dsimp only [go_sem, seval]
    exact finL_pure (by rw [enS_114])
end Go.Aw
