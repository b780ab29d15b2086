import Derived.Test.YtmicojcojlgefaaC29Y
namespace Go.Aw
open Go
open Go.Proofs.Try (prog)
set_option linter.all false
set_option maxHeartbeats 8000000
set_option maxRecDepth 8000

def c0Op : Cp := ⟨0, [], [], [], []⟩
def c0Cr : Cr := ⟨0, 0, 0, 0, [], 0⟩
theorem pc_ClientOnce (s l0 v : Int) (evs : List Ev) (hl : Len evs.length) (hx : ∀ e ∈ evs, e.Arg) : PCalls prog f_sautoirlaw29_ClientOnce [.agg (stC s l0 v), .fz evs.length (evs.flatMap evC) none] (.b true) := by
  refine pcalls_of mixed t_sautoirlaw29_ClientOnce (by simp) fun T => ?_
  have cS := pc_Setup s l0 v
  have cA := pc_awake29
  have cR := pc_refSetup s l0 v
  have hke : cOk 0 3 s l0 v = sok s l0 v := by
    simp only [cOk]
    rw [decide_eq_true (by omega), decide_eq_true (by omega), decide_eq_true (by omega), decide_eq_true (by omega)]
    rfl
  simp only [stC] at cS cR
  unfold s_sautoirlaw29_ClientOnce
  rcases hs : sok s l0 v with _ | _
  · rw [hs] at hke cR
    have cN := pc_cNew0 hke
    simp only [stC] at cN
    simp -implicitDefEqProofs -dsimp only [go_sem, seval, stC, ↓g_call _ _ c_sautoirlaw21_Setup]
    refine CallK.pure cS (aft_nil ?_)
    simp -implicitDefEqProofs -dsimp only [go_sem, seval, ↓g_call _ _ c_client_New]
    refine CallK.pure cN (aft_nil ?_)
    simp -implicitDefEqProofs -dsimp only [go_sem, seval, eqAv, ↓g_call _ _ c_sautoirref21_RightSetup]
    refine CallK.pure cR (aft_nil ?_)
    simp -implicitDefEqProofs -dsimp only [go_sem, seval, ↓g_gdc, rcOk, true_and, ↓g_call _ _ c_sautoirlaw29_awake]
    refine CallK.pure cA (aft_nil ?_)
    simp -implicitDefEqProofs -dsimp only [go_sem, seval]
    exact finL_pure rfl
  · rw [hs] at hke
    have hss := of_decide_eq_true hs
    obtain ⟨S, rfl⟩ := Int.eq_ofNat_of_zero_le (show 0 ≤ s by omega)
    obtain ⟨L, rfl⟩ := Int.eq_ofNat_of_zero_le (show 0 ≤ l0 by omega)
    have cN := ac_cNew (T := T) hke
    have hat := cl0_at hke
    simp only [stC] at cN
    simp -implicitDefEqProofs -dsimp only [go_sem, seval, stC, ↓g_call _ _ c_sautoirlaw21_Setup]
    refine CallK.pure cS (aft_nil ?_)
    simp -implicitDefEqProofs -dsimp only [go_sem, seval, ↓g_call _ _ c_client_New]
    refine CallK.of cN fun a T1 hv => aft_nil ?_
    obtain ⟨id, r, l, rfl, h0, hF⟩ := hv
    have cN2 := ac_rRNew (T := T1) hs
    simp only [stC] at cN2
    have hb1 := Bs0.start hF
    simp -implicitDefEqProofs -dsimp only [go_sem, seval, eqAv, ↓g_call _ _ c_sautoirref28_New]
    refine CallK.of cN2 fun a T2 hv => aft_nil ?_
    obtain ⟨rt, lr, rfl, hru, hrt, hlr, hle, hkeep⟩ := hv
    simp -implicitDefEqProofs -dsimp only [go_sem, seval]
    refine fun rid hrid => aft_nil ?_
    simp -implicitDefEqProofs -dsimp only [go_sem, seval]
    have hrid1 : T1 rid = .unused := hle.unused hrid
    have h2 : Ct T2 id r l id id (cl0 0 3 S L) := h0.mono hkeep
    have h3 : Ct (T2.put rid ({ me := 0, ma := 3, rt := rt, sq := 0, wt := false, o := c0Op, k1 := some 0, k2 := some 0, tr := 0, la := c0Cr, had := false } : Rc).row) id r l id id (cl0 0 3 S L) := h2.mono fun j hj => Tab.put_ne _ _ fun e => by subst e; exact hj hrid
    have hne : id ≠ rid := fun e => by subst e; rw [h2.cr] at hrid; simp [clRow] at hrid
    have hb3 : Bs0 T (T2.put rid ({ me := 0, ma := 3, rt := rt, sq := 0, wt := false, o := c0Op, k1 := some 0, k2 := some 0, tr := 0, la := c0Cr, had := false } : Rc).row) [rid, id, r, l] := by
      have hu : T rid = .unused := by
        by_cases h : T rid = .unused
        · exact h
        · rw [← hb1.f rid h]; exact hrid1
      refine ⟨fun j hj => ?_, fun j hj => ?_⟩
      · rw [Tab.put_ne _ _ (fun e => by subst e; exact hj hu), hkeep j (by rw [hb1.f j hj]; exact hj), hb1.f j hj]
      · rcases List.mem_cons.1 hj with rfl | hj
        · exact hu
        · exact hb1.u j hj
    have key := fun (R : RPost) (hR : ExtR R) => lp_Once (R := R) hR (T0 := T) (id := id) (r := r) (l := l) (rid := rid) (evs := evs) hl hx evs 0 rfl (Nat.zero_le _) (Nat.zero_le _) id id (cl0 0 3 S L) { me := 0, ma := 3, rt := rt, sq := 0, wt := false, o := c0Op, k1 := some 0, k2 := some 0, tr := 0, la := c0Cr, had := false } 0 _ [rid, id, r, l] ⟨hat, h3, hb3, by simp, by simp, by simp, by simp, Tab.put_same .., rfl, rfl, hne, rfl⟩
    simp only [Rc.row, c0Op, c0Cr, List.flatMap_nil, List.length_nil] at key
    refine key _ (by repeat' (first | exact finX_ext _ _ | assumption | apply blkR_ext | apply thenR_ext | apply AW_ext)) (fun T3 E Lc hle hc => ?_)
    rcases hc with ⟨s2, a2, rfl, rfl⟩ | ⟨s2, a2, q2, cs2, rfl, rfl⟩
    all_goals
      simp -implicitDefEqProofs -dsimp only [go_sem, seval, ↓g_call _ _ c_sautoirlaw29_awake]
      refine CallK.pure cA (aft_nil ?_)
      simp -implicitDefEqProofs -dsimp only [go_sem, seval]
      exact finL_of T hle ⟨rfl, rfl⟩
end Go.Aw

