import Derived.Test.YteiamcnjlpbihaaM17U
namespace Go.Aw
open Go
open Go.Proofs.Try (prog)
set_option linter.all false
set_option maxHeartbeats 8000000
set_option maxRecDepth 8000

theorem putW_len {l : Lt Cf} (hr : l.Rng) (h : lrF l = true) : decide ((65542 : Int) < ((frm (encLt l)).length : Int)) = false := by
  have := (encLt_len hr h).2
  rw [frm_len]
  exact decide_eq_false (by omega)
theorem prom_wk {N : Nat} {v : Vt} {c : Option Nat} : Wks (zl 1 5 (.fz N ((List.replicate N v).flatMap vtC) c) (.fz 0 [] (some 0)) (.fz 0 [] (some 0))) (promL N v).cc := by
  have e : Wk (.fz N ((List.replicate N v).flatMap vtC) c) (.fz (List.replicate N v).length ((List.replicate N v).flatMap vtC) none) := by
    rw [List.length_replicate]; exact Wk.fz
  exact ⟨.refl _, .refl _, .refl _, .refl _, .refl _, .refl _, .refl _, .refl _, .refl _, .refl _, .refl _, .refl _, .refl _, e, .fz, .fz, .refl _, .refl _, .refl _, .fz, .fz, .refl _, .refl _, .refl _, .refl _, .refl _, trivial⟩
theorem push_wk {t : Tx} {c : Option Nat} : Wks (zl 2 12 (.fz 0 [] (some 0)) (.fz 0 [] (some 0)) (.fz 8 ((List.replicate 8 (pushE t)).flatMap enC) c)) (pushL t).cc :=
  ⟨.refl _, .refl _, .refl _, .refl _, .refl _, .refl _, .refl _, .refl _, .refl _, .refl _, .refl _, .refl _, .refl _, .fz, .fz, .fz, .refl _, .refl _, .refl _, .fz, .fz, .refl _, .refl _, .refl _, .refl _, .refl _, trivial⟩
theorem pc_LetterFits (v : Vt) (hv : v.Arg) (l : Lt Rf) (h : l.Arg) (n : Nat) (hn : n < 65536) : PCalls prog f_sautoirlaw17_LetterFits [.agg (vtC v), .agg l.rc, .i .u16 n] (.b true) := by
  obtain ⟨N, hN⟩ : ∃ N, N = n % 401 := ⟨_, rfl⟩
  have hN5 : N ≤ 500 := by omega
  have hf : l.t.our.Fine := h.t.w.our
  have hr2 : (pushL l.t.our).Rng := push_rng hf h.t.sq.2 fun r hr => h.t.r r (List.mem_of_mem_take hr)
  have ps := prom_small (v := v) hN5
  have pr := prom_rng (N := N) hv
  have hbb : ∀ b : Bool, decide (b = b) = true := fun b => decide_eq_true rfl
  have hbf : decide (false = true) = false := rfl
  have hbt : decide (true = false) = false := rfl
  have htx := pc_OurTxn l.t none none h.t.w
  have hrt := pc_RightTxn l.t.our none none hf
  refine pcalls_of mixed t_sautoirlaw17_LetterFits (by simp) fun T => ?_
  unfold s_sautoirlaw17_LetterFits
  refine AW_cut True [(2, .i .u16 n), (3, .lp 3 0), (4, .lp 4 0)] [(3, vtC v), (4, l.cells rfL)] T (fun K hK => by simp -implicitDefEqProofs -dsimp only [go_sem, seval]; exact hK trivial) fun _ => ?_
  refine AW_cut True [(2, .i .u16 n), (3, .lp 3 0), (4, .lp 4 0), (7, .lp 7 0)] [(3, vtC v), (4, l.cells rfL), (7, zl 1 5 (.fz 0 [] (some 0)) (.fz 0 [] (some 0)) (.fz 0 [] (some 0)))] T (fun K hK => by simp -implicitDefEqProofs -dsimp only [go_sem, seval]; exact hK trivial) fun _ => ?_
  simp -implicitDefEqProofs -dsimp only [go_sem, seval]
  refine lp_F0 (T := T) (v := v) (tc := l.cells rfL) (N := N) (n := n) (by repeat' (first | exact finX_ext _ _ | assumption | apply blkR_ext | apply thenR_ext | apply AW_ext)) hN hn N 0 (by omega) _ T (.nil T 4) (fun x T1 ho => ?_)
  simp -implicitDefEqProofs -dsimp only [go_sem, seval, zl_len, zl_take, ↓g_call _ _ c_letter_Put]
  have hfz : ∀ S, (∀ a ∈ [(⟨4, x, N, (List.replicate N v).flatMap vtC⟩ : Ow)], ∃ cap, frz1 T1 S a.v = .fz a.n a.xs cap) → Wks ([AV.agg (zl 1 5 x (.fz 0 [] (some 0)) (.fz 0 [] (some 0)))].map (frzv T1 S)) [.agg (promL N v).cc] := fun S hS => by
    obtain ⟨c, hc⟩ := hS _ (List.mem_cons_self ..)
    simp only at hc
    simp only [List.map_cons, List.map_nil, frzv, zl, frz1_i, frz1_b, frz1_s, frz1_fz, hc]
    exact Wks.one (Wk.agg prom_wk)
  refine CallK.borrow (Owns.one ho) (fun S hS => PCalls.wk (hfz S hS) (pc_lPutW (promL N v) ps zT_fine pr)) (putW_indep _) (aft_nil ?_)
  have hri : ∀ (K : AV → Tab → Prop), K (.b (lrF (promL N v))) T1 → CallK prog f_letter_Right [.agg (zl 1 5 x (.fz 0 [] (some 0)) (.fz 0 [] (some 0)))] T1 K := fun K hK =>
    CallK.borrow (Owns.one ho) (fun S hS => PCalls.wk (hfz S hS) (pc_lRight (promL N v) ps zT_fine)) Indep.b hK
  have hle := ho.tabLe
  rcases hb : lrF (promL N v) with _ | _
  · rw [hb] at hri
    have hp : putW (promL N v) = .tup [.fz 0 [] none, .i .i64 1] := by rw [putW, hb]; rfl
    rw [hp]
    simp -implicitDefEqProofs -dsimp only [go_sem, seval, zl_len, zl_take, ↓g_call _ _ c_letter_Right]
    refine hri _ (aft_nil ?_)
    simp -implicitDefEqProofs -dsimp only [go_sem, seval, hbb, hbf, hbt]
    refine lp_F1 (T := T1) (l := l) (by repeat' (first | exact finX_ext _ _ | assumption | apply blkR_ext | apply thenR_ext | apply AW_ext)) h.t.w 8 0 rfl _ T1 (.nil T1 10) (fun y T2 ho2 => ?_)
    simp -implicitDefEqProofs -dsimp only [go_sem, seval, zl_len, zl_take, ↓g_call _ _ c_letter_Put]
    have hfz2 : ∀ S, (∀ a ∈ [(⟨10, y, 8, (List.replicate 8 (pushE l.t.our)).flatMap enC⟩ : Ow)], ∃ cap, frz1 T2 S a.v = .fz a.n a.xs cap) → Wks ([AV.agg (zl 2 12 (.fz 0 [] (some 0)) (.fz 0 [] (some 0)) y)].map (frzv T2 S)) [.agg (pushL l.t.our).cc] := fun S hS => by
      obtain ⟨c, hc⟩ := hS _ (List.mem_cons_self ..)
      simp only at hc
      simp only [List.map_cons, List.map_nil, frzv, zl, frz1_i, frz1_b, frz1_s, frz1_fz, hc]
      exact Wks.one (Wk.agg push_wk)
    refine CallK.borrow (Owns.one ho2) (fun S hS => PCalls.wk (hfz2 S hS) (pc_lPutW (pushL l.t.our) (push_small hf) zT_fine hr2)) (putW_indep _) (aft_nil ?_)
    have hx := push_right l.t.our
    have hle2 := hle.trans ho2.tabLe
    rcases hq : txOk l.t.our with _ | _
    · rw [hq] at hx hrt
      rw [show putW (pushL l.t.our) = .tup [.fz 0 [] none, .i .i64 1] from by rw [putW, hx]; rfl]
      simp -implicitDefEqProofs -dsimp only [go_sem, seval, cc_len, cc_x, ↓g_call _ _ c_sautoirlaw12_OurTxn]
      refine CallK.pure htx (aft_nil ?_)
      simp -implicitDefEqProofs -dsimp only [go_sem, seval, ↓g_call _ _ c_entry_RightTxn]
      refine CallK.pure hrt (aft_nil ?_)
      simp -implicitDefEqProofs -dsimp only [go_sem, seval, hbb, hbf, hbt, ↓g_call _ _ c_sautoirlaw17_awake]
      refine CallK.pure pc_awake17 (aft_nil ?_)
      simp -implicitDefEqProofs -dsimp only [go_sem, seval]
      exact hle2.fin
    · rw [hq] at hx hrt
      rw [show putW (pushL l.t.our) = .tup [.fz (frm (encLt (pushL l.t.our))).length [] none, .i .i64 0] from by rw [putW, hx]; rfl]
      simp -implicitDefEqProofs -dsimp only [go_sem, seval, cc_len, cc_x, ↓g_call _ _ c_sautoirlaw12_OurTxn]
      refine CallK.pure htx (aft_nil ?_)
      simp -implicitDefEqProofs -dsimp only [go_sem, seval, ↓g_call _ _ c_entry_RightTxn]
      refine CallK.pure hrt (aft_nil ?_)
      simp -implicitDefEqProofs -dsimp only [go_sem, seval, hbb, hbf, hbt, ↓g_call _ _ c_sautoirlaw17_awake]
      refine CallK.pure pc_awake17 (aft_nil ?_)
      simp -implicitDefEqProofs -dsimp only [go_sem, seval]
      exact hle2.fin
  · rw [hb] at hri
    have hp : putW (promL N v) = .tup [.fz (frm (encLt (promL N v))).length [] none, .i .i64 0] := by rw [putW, hb]; rfl
    have hl := putW_len pr hb
    rw [hp]
    generalize (frm (encLt (promL N v))).length = F at hl
    simp -implicitDefEqProofs -dsimp only [go_sem, seval, zl_len, zl_take, ↓g_call _ _ c_letter_Right]
    refine hri _ (aft_nil ?_)
    simp -implicitDefEqProofs -dsimp only [go_sem, seval, hbb, hbf, hbt, hl]
    refine lp_F1 (T := T1) (l := l) (by repeat' (first | exact finX_ext _ _ | assumption | apply blkR_ext | apply thenR_ext | apply AW_ext)) h.t.w 8 0 rfl _ T1 (.nil T1 10) (fun y T2 ho2 => ?_)
    simp -implicitDefEqProofs -dsimp only [go_sem, seval, zl_len, zl_take, ↓g_call _ _ c_letter_Put]
    have hfz2 : ∀ S, (∀ a ∈ [(⟨10, y, 8, (List.replicate 8 (pushE l.t.our)).flatMap enC⟩ : Ow)], ∃ cap, frz1 T2 S a.v = .fz a.n a.xs cap) → Wks ([AV.agg (zl 2 12 (.fz 0 [] (some 0)) (.fz 0 [] (some 0)) y)].map (frzv T2 S)) [.agg (pushL l.t.our).cc] := fun S hS => by
      obtain ⟨c, hc⟩ := hS _ (List.mem_cons_self ..)
      simp only at hc
      simp only [List.map_cons, List.map_nil, frzv, zl, frz1_i, frz1_b, frz1_s, frz1_fz, hc]
      exact Wks.one (Wk.agg push_wk)
    refine CallK.borrow (Owns.one ho2) (fun S hS => PCalls.wk (hfz2 S hS) (pc_lPutW (pushL l.t.our) (push_small hf) zT_fine hr2)) (putW_indep _) (aft_nil ?_)
    have hx := push_right l.t.our
    have hle2 := hle.trans ho2.tabLe
    rcases hq : txOk l.t.our with _ | _
    · rw [hq] at hx hrt
      rw [show putW (pushL l.t.our) = .tup [.fz 0 [] none, .i .i64 1] from by rw [putW, hx]; rfl]
      simp -implicitDefEqProofs -dsimp only [go_sem, seval, cc_len, cc_x, ↓g_call _ _ c_sautoirlaw12_OurTxn]
      refine CallK.pure htx (aft_nil ?_)
      simp -implicitDefEqProofs -dsimp only [go_sem, seval, ↓g_call _ _ c_entry_RightTxn]
      refine CallK.pure hrt (aft_nil ?_)
      simp -implicitDefEqProofs -dsimp only [go_sem, seval, hbb, hbf, hbt, ↓g_call _ _ c_sautoirlaw17_awake]
      refine CallK.pure pc_awake17 (aft_nil ?_)
      simp -implicitDefEqProofs -dsimp only [go_sem, seval]
      exact hle2.fin
    · rw [hq] at hx hrt
      rw [show putW (pushL l.t.our) = .tup [.fz (frm (encLt (pushL l.t.our))).length [] none, .i .i64 0] from by rw [putW, hx]; rfl]
      simp -implicitDefEqProofs -dsimp only [go_sem, seval, cc_len, cc_x, ↓g_call _ _ c_sautoirlaw12_OurTxn]
      refine CallK.pure htx (aft_nil ?_)
      simp -implicitDefEqProofs -dsimp only [go_sem, seval, ↓g_call _ _ c_entry_RightTxn]
      refine CallK.pure hrt (aft_nil ?_)
      simp -implicitDefEqProofs -dsimp only [go_sem, seval, hbb, hbf, hbt, ↓g_call _ _ c_sautoirlaw17_awake]
      refine CallK.pure pc_awake17 (aft_nil ?_)
      simp -implicitDefEqProofs -dsimp only [go_sem, seval]
      exact hle2.fin
end Go.Aw
