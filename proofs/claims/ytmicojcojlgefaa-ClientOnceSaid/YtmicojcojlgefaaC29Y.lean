import Derived.Test.YtmicojcojlgefaaC29X
namespace Go.Aw
open Go
open Go.Proofs.Try (prog)
set_option linter.all false
set_option maxHeartbeats 8000000
set_option maxRecDepth 8000

theorem bts_none {c : Cl} {an : Nat} (h : an + c.w.isSome.toNat = c.sq) (hw : c.w = none) : an = c.sq := by rw [hw] at h; simpa using h
theorem bts_some {c : Cl} {an : Nat} (h : an + c.w.isSome.toNat = c.sq) {o : Cp × Int} (hw : c.w = some o) : an + 1 = c.sq := by rw [hw] at h; simpa using h
def waitC (c : Cl) : List AV := match c.w with
  | none => [.i .i64 0, .i .u64 0]
  | some _ => [.i .i64 c.me, .i .u64 c.sq]
theorem waits_eq (c : Cl) : waitsR c = .tup [.agg (waitC c), .b c.w.isSome] := by unfold waitsR waitC; cases c.w <;> rfl
theorem waitC_len (c : Cl) : (waitC c).length = 2 := by unfold waitC; cases c.w <;> rfl
theorem waitC_some {c : Cl} {o : Cp × Int} (h : c.w = some o) : waitC c = [.i .i64 c.me, .i .u64 c.sq] := by unfold waitC; rw [h]
theorem waitC_drop (c : Cl) : (waitC c).drop 2 = [] := List.drop_of_length_le (by rw [waitC_len]; omega)
theorem waitC_take (c : Cl) : (waitC c).take 2 = waitC c := List.take_of_length_le (by rw [waitC_len]; omega)
theorem ansL_wide (me : Int) (sq : Nat) {l : Lt Rf} (h : l.Wide) : (ansL me sq l).Wide := by
  have z : Len 0 := by unfold Len; omega
  refine ⟨z, z, z, fun _ h => (by cases h), fun _ h => (by cases h), fun _ h => (by cases h), ?_, ?_⟩
  · exact ⟨z, z, fun _ h => (by cases h), fun _ h => (by cases h), fun _ h => (by cases h)⟩
  · have := h.v
    show Len (l.v.take 64).length
    unfold Len at this ⊢; rw [List.length_take]; omega
theorem ans_small (me : Int) (sq : Nat) (l : Lt Rf) : (ansL me sq l).ours.Small :=
  ⟨(show (0 : Nat) < 9223372036854775808 by decide), (show (0 : Nat) < 9223372036854775808 by decide), (show (0 : Nat) < 9223372036854775808 by decide), (show (0 : Nat) < 9223372036854775808 by decide), (show (0 : Nat) < 9223372036854775808 by decide), fun _ h => (by cases h), fun _ h => (by cases h)⟩
theorem ans_t {me : Int} {sq : Nat} {l : Lt Rf} : (ansL me sq l).ours.t.Fine := zTf
/-- How the law's loop stands. -/
structure On (T0 T : Tab) (id r l w x rid : Nat) (c : Cl) (rc : Rc) (an k : Nat) (ids : List Nat) : Prop where
  at_ : c.At 0 3 k
  ct : Ct T id r l w x c
  bs : Bs0 T0 T ids
  i1 : id ∈ ids
  i2 : l ∈ ids
  i3 : w ∈ ids
  i4 : rid ∈ ids
  rr : T rid = rc.row
  me : rc.me = 0
  sq : rc.sq = c.sq
  wr : w ≠ rid
  an : an + c.w.isSome.toNat = c.sq
theorem On.id_rid {T0 T : Tab} {id r l w x rid : Nat} {c : Cl} {rc : Rc} {an k : Nat} {ids : List Nat} (h : On T0 T id r l w x rid c rc an k ids) : id ≠ rid := row_ne h.ct.cr h.rr (by decide)
theorem On.l_rid {T0 T : Tab} {id r l w x rid : Nat} {c : Cl} {rc : Rc} {an k : Nat} {ids : List Nat} (h : On T0 T id r l w x rid c rc an k ids) : l ≠ rid := row_ne h.ct.rt.2 h.rr (by decide)
theorem lp_Once {R : RPost} (hR : ExtR R) {T0 : Tab} {id r l rid : Nat} {evs : List Ev} (hl : Len evs.length) (hx : ∀ e ∈ evs, e.Arg) : ∀ (us : List Ev) (k : Nat), evs.drop k = us → k ≤ evs.length → k ≤ 40 → ∀ (w x : Nat) (c : Cl) (rc : Rc) (an : Nat) (T : Tab) (ids : List Nat), On T0 T id r l w x rid c rc an k ids →
    (∀ T E L, (∀ j, SlotLe (T0 j) (T j)) → (∃ (s a : Int) , E = [(5, .ptr id 0), (6, .i .u64 s), (7, .i .u64 a), (8, .ptr rid 0), (32, .fz evs.length (evs.flatMap evC) none), (33, .i .i64 evs.length), (34, .i .i64 evs.length), (35, .b false)] ∧ L = []) ∨ (∃ (s a q : Int) (cs : List AV), E = [(5, .ptr id 0), (6, .i .u64 s), (7, .i .u64 a), (8, .ptr rid 0), (10, .lp 10 0), (32, .fz evs.length (evs.flatMap evC) none), (33, .i .i64 evs.length), (34, .i .i64 q), (40, .b true)] ∧ L = [(10, cs)]) → R (.exit 0) E L T) →
    AW prog sautoirlaw29_ClientOnce_l0 R [(5, .ptr id 0), (6, .i .u64 c.sq), (7, .i .u64 an), (8, .ptr rid 0), (32, .fz evs.length (evs.flatMap evC) none), (33, .i .i64 evs.length), (34, .i .i64 k)] [] T := by
  intro us
  induction us with
  | nil =>
    intro k hk hle hk40 w x c rc an T ids hon h2
    have hk' := drop_nil hk hle
    refine AW_loop hR ?_
    unfold sautoirlaw29_ClientOnce_l0b
    simp -implicitDefEqProofs -dsimp only [go_sem, seval, hk', Int.lt_irrefl]
    rw [hk'] at h2
    exact h2 T _ _ hon.bs.le (.inl ⟨_, _, rfl, rfl⟩)
  | cons y us ih =>
    intro k hk hle hk40 w x c rc an T ids hon h2
    obtain ⟨hlt, hy, hk'⟩ := drop_lt hk
    have ea := flat_at evC_len hy
    have e5 : k * 32 + 32 ≤ (evs.flatMap evC).length := by rw [flat_length evC_len]; omega
    have et : (evC y ++ (evs.drop (k + 1)).flatMap evC).take 32 = evC y := List.take_left' rfl
    have e6 : (32 ≤ (evC y ++ (evs.drop (k + 1)).flatMap evC).length) = True := eq_true (by rw [List.length_append, evC_len]; omega)
    unfold Len at hl
    have hs : IntKind.i64.wrap ((k : Int) + 1) = ((k + 1 : Nat) : Int) := wrap_succ (by omega)
    have hya := hx y (List.mem_of_getElem? hy)
    refine AW_loopD (l := sautoirlaw29_ClientOnce_l0) rfl hR ?_
    unfold sautoirlaw29_ClientOnce_l0b
    have d0 : (evC y)[0]? = some (.i .i64 y.k) := rfl
    have d1 : ((evC y).drop 1).take 5 = [.i .i64 y.o.k, .s y.o.key, .s y.o.v, .fz y.o.rs.length (y.o.rs.flatMap rdC) none, .fz y.o.ws.length (y.o.ws.flatMap wtC) none] := rfl
    have d2 : ((evC y).drop 6).take 26 = y.l.cells rfL := rfl
    have d3 : (evC y).length = 32 := rfl
    have d4 : (evC y).take 32 = evC y := rfl
    have d5 : (evC y).drop 32 = [] := rfl
    by_cases hk4 : 40 ≤ k
    · have dk : decide ((40 : Int) ≤ (k : Int)) = true := decide_eq_true (by omega)
      simp -implicitDefEqProofs -dsimp only [go_sem, seval, Int.ofNat_lt, hlt, Int.natCast_nonneg, Int.toNat_natCast, ea, e5, e6, et, d3, d4, d5, dk]
      exact h2 T _ _ hon.bs.le (.inr ⟨_, _, k, _, rfl, rfl⟩)
    have dk : decide ((40 : Int) ≤ (k : Int)) = false := decide_eq_false (by omega)
    have hW := ac_Waits hon.ct
    rw [waits_eq] at hW
    have wl := waitC_len c
    have wd := waitC_drop c
    have hrid := hon.id_rid
    have hlrid := hon.l_rid
    obtain ⟨hat, h, hb, i1, i2, i3, i4, hrr, hme, hsq, hwr, han⟩ := hon
    have hsq40 := hat.sq
    have wan : IntKind.u64.wrap ((an : Int) + 1) = ((an + 1 : Nat) : Int) := (IntWalk.u64_in _ (by omega)).trans (by omega)
    have wsq : IntKind.u64.wrap ((c.sq : Int) + 1) = ((c.sq + 1 : Nat) : Int) := (IntWalk.u64_in _ (by omega)).trans (by omega)
    have kinds : (decide (y.k = 0) = true ∨ (decide (y.k = 0) = false ∧ decide (y.k = 1) = true)) ∨ ((decide (y.k = 0) = false ∧ decide (y.k = 1) = false ∧ decide (y.k = 5) = true) ∨ (decide (y.k = 0) = false ∧ decide (y.k = 1) = false ∧ decide (y.k = 5) = false ∧ decide (y.k = 6) = true)) ∨ (decide (y.k = 0) = false ∧ decide (y.k = 1) = false ∧ decide (y.k = 5) = false ∧ decide (y.k = 6) = false) := by
      cases decide (y.k = 0) <;> cases decide (y.k = 1) <;> cases decide (y.k = 5) <;> cases decide (y.k = 6) <;> simp
    generalize hWC : waitC c = WC at *
    generalize hE : evC y = E at *
    have step : ∀ (w2 x2 : Nat) (c2 : Cl) (rc2 : Rc) (an2 : Nat) (T2 : Tab) (ids2 : List Nat), On T0 T2 id r l w2 x2 rid c2 rc2 an2 (k + 1) ids2 →
        AW prog sautoirlaw29_ClientOnce_l0 R [(5, .ptr id 0), (6, .i .u64 c2.sq), (7, .i .u64 an2), (8, .ptr rid 0), (32, .fz evs.length (evs.flatMap evC) none), (33, .i .i64 evs.length), (34, .i .i64 (k + 1 : Nat))] [] T2 := fun w2 x2 c2 rc2 an2 T2 ids2 hon2 => ih (k + 1) hk' hlt (by omega) w2 x2 c2 rc2 an2 T2 ids2 hon2 h2
    rcases kinds with hq | hq | ⟨k0, k1, k5, k6⟩
    · have k01 : (decide (y.k = 0) = true ∧ decide (y.k = 1) = decide (y.k = 1)) ∨ (decide (y.k = 0) = false ∧ decide (y.k = 1) = true) := hq.imp (fun h => ⟨h, rfl⟩) (fun h => h)
      have c1 := pc_cOurs y.o hya.o
      have hof := hya.o.our
      obtain ⟨hcAt, _⟩ := call_at hat hof (by omega)
      have hC := ac_CallO h hat.ok y.o.our hof hcAt.ok
      have cc := call_cases c y.o.our
      simp only [Cp.cells] at c1 hC
      generalize callF c y.o.our = CF at *
      obtain ⟨⟨c2, out1⟩, cd⟩ := CF
      simp only at hcAt hC cc
      generalize y.o.our = u at *
      have fin : ∀ v0 w' Tc T1, Ct Tc id r l w' x c2 → Fr [id, w] [w'] T Tc → Own Tc 26 v0 out1.length (out1.flatMap Lt.kc) T1 →
          ∀ an2, an2 + c2.w.isSome.toNat = c2.sq → (∀ j, T j ≠ .unused → j ≠ id → j ≠ w → T1 j = T j) ∧ T1 rid = rc.row ∧ On T0 (T1.put rid ({ rc with sq := c2.sq } : Rc).row) id r l w' x rid c2 { rc with sq := c2.sq } an2 (k + 1) ([w'] ++ ids) := fun v0 w' Tc T1 hct hF ho an2 han2 => by
        have b1 := hb.step hF (by intro j hj; simp only [List.mem_cons, List.not_mem_nil, or_false] at hj; rcases hj with rfl | rfl <;> assumption)
        have b1' : Bs0 T0 T1 ([w'] ++ ids) := ⟨fun j hj => by rw [ho.keeps j (by rw [b1.f j hj]; exact hj)]; exact b1.f j hj, b1.u⟩
        have hc : Tc rid = rc.row := by rw [hF.1 rid (by rw [hrr]; simp [Rc.row]) (by simp [Ne.symm hrid, Ne.symm hwr])]; exact hrr
        have h1 : T1 rid = rc.row := by rw [ho.keeps rid (by rw [hc]; simp [Rc.row])]; exact hc
        have hw' : w' ≠ rid := fun e => by
          rcases hF.2 w' (by simp) with h2 | h2
          · simp only [List.mem_cons, List.not_mem_nil, or_false] at h2
            rcases h2 with h2 | h2
            · exact hrid (h2.symm.trans e)
            · exact hwr (h2.symm.trans e)
          · rw [e, hrr] at h2; simp [Rc.row] at h2
        refine ⟨fun j a1 a2 a3 => ?_, h1, ⟨hcAt, (hct.mono ho.keeps).put18 h1, ⟨fun j hj => ?_, b1'.u⟩, by simp [i1], by simp [i2], by simp, by simp [i4], Tab.put_same .., hme, rfl, hw', han2⟩⟩
        · have := hF.1 j a1 (by simp [a2, a3])
          rw [ho.keeps j (by rw [this]; exact a1), this]
        · rw [Tab.put_ne _ _ (fun e => by subst e; exact hj (b1'.u _ (by simp [i4])))]; exact b1'.f j hj
      rcases k01 with ⟨k0, k1⟩ | ⟨k0, k1⟩
      all_goals
        simp -implicitDefEqProofs -dsimp only [go_sem, seval, Int.ofNat_lt, hlt, Int.natCast_nonneg, Int.toNat_natCast, ea, e5, e6, et, d0, d3, d4, d5, dk, ↓g_call _ _ c_client_Client_Waits]
        refine CallK.as hW (aft_nil ?_)
        simp -implicitDefEqProofs -dsimp only [go_sem, seval, wl, wd, d0, d1, d3, d4, d5, k0, k1, ↓g_call _ _ c_sautoirlaw29_Ours]
        refine CallK.pure c1 (aft_nil ?_)
        simp -implicitDefEqProofs -dsimp only [go_sem, seval, ↓g_call _ _ c_client_Client_Call]
        refine CallK.of hC fun v T1 hv => aft_nil ?_
        obtain ⟨v0, w', Tc, rfl, hct, hF, ho⟩ := hv
        obtain ⟨p1, p2, p3, p4, p5, p6⟩ := ho.form
        have hct1 := hct.mono ho.keeps
        have hW2 := ac_Waits hct1
        rw [waits_eq] at hW2
        have wl2 := waitC_len c2
        have wd2 := waitC_drop c2
        have wt2 := waitC_take c2
        simp -implicitDefEqProofs -dsimp only [go_sem, seval, p1, p2, p3, p4, p5, p6, ↓g_call _ _ c_client_Client_Waits]
        refine CallK.as hW2 (aft_nil ?_)
        rcases cc with ⟨cd0, rfl⟩ | ⟨rfl, hw, hsq2, hw2, hme2⟩
        · have dc : decide (cd = 0) = false := decide_eq_false cd0
          obtain ⟨_, h1, hon2⟩ := fin v0 w' Tc T1 hct hF ho an han
          have h1' := h1
          simp only [Rc.row] at h1'
          simp -implicitDefEqProofs -dsimp only [go_sem, seval, wl2, wd2, dc]
          refine stS_row (y := .i .u64 c2.sq) (id := rid) (o := 3) h1' rfl rfl (by simp) ?_
          refine aft_nil ?_
          simp -implicitDefEqProofs -dsimp only [go_sem, seval, hs]
          exact step _ _ _ _ _ _ _ hon2
        · have e2 := waitC_some hw2
          have e1 := bts_none han hw
          obtain ⟨_, h1, hon2⟩ := fin v0 w' Tc T1 hct hF ho an (by rw [hw2, hsq2, e1]; rfl)
          have h1' := h1
          simp only [Rc.row] at h1'
          have hme3 : c2.me = 0 := by rw [hme2]; exact hat.me
          rw [hme3, hsq2] at e2
          simp -implicitDefEqProofs -dsimp only [go_sem, seval, wl2, wd2, wt2, e2, hw, hw2, wsq, Option.isSome_none, Option.isSome_some, Bool.true_and, Bool.and_self, decide_true, aggEq, scalarEq, ↓g_gdc, rcOk, true_and]
          refine stS_row (y := .i .u64 (c.sq + 1 : Nat)) (id := rid) (o := 3) h1' rfl rfl (show 3 + 1 ≤ 18 by decide) ?_
          refine aft_nil ?_
          simp -implicitDefEqProofs -dsimp only [go_sem, seval, hs]
          have := step _ _ _ _ _ _ _ hon2
          rw [hsq2] at this
          exact this
    · obtain ⟨k0, k1, k56⟩ : decide (y.k = 0) = false ∧ decide (y.k = 1) = false ∧ (decide (y.k = 5) = true ∧ decide (y.k = 6) = decide (y.k = 6) ∨ decide (y.k = 5) = false ∧ decide (y.k = 6) = true) := by
        rcases hq with ⟨a, b, c⟩ | ⟨a, b, c, d⟩
        · exact ⟨a, b, .inl ⟨c, rfl⟩⟩
        · exact ⟨a, b, .inr ⟨c, d⟩⟩
      have hA := ac_answer hrr y.l hya.l.wide.v
      rw [hme, hsq] at hA
      have hO := pc_LOurs (ansL 0 c.sq y.l) (ansL_wide 0 c.sq hya.l.wide)
      have hcme := hat.me
      have hsqp : c.w.isSome = true → 1 ≤ c.sq := fun h => by rw [h] at han; simp at han; omega
      have hH := ac_HearX h hat.ok (ansL 0 c.sq y.l).ours (ans_small 0 c.sq y.l) ans_t (show (0 : Nat) < 1000000 by decide) (fun _ h => by cases h)
      have hat2 := hear_at (m := (ansL 0 c.sq y.l).ours) hat (fun _ h => by cases h)
      have ha := hear_ans (c := c) y.l (by rw [hcme]; omega) hsqp
      rw [hcme] at ha
      rw [ha] at hH hat2
      generalize y.l.cells rfL = L1 at *
      generalize (ansL 0 c.sq y.l).cells rfL = L2 at *
      generalize (ansL 0 c.sq y.l).ours = m at *
      rcases hw : c.w with _ | o
      · rw [hw] at hH hat2
        simp only [Option.isSome_none, Bool.false_eq_true, if_false] at hH hat2
        have e1 := bts_none han hw
        subst e1
        rcases k56 with ⟨k5, k6⟩ | ⟨k5, k6⟩
        all_goals
          simp -implicitDefEqProofs -dsimp only [go_sem, seval, Int.ofNat_lt, hlt, Int.natCast_nonneg, Int.toNat_natCast, ea, e5, e6, et, d0, d3, d4, d5, dk, ↓g_call _ _ c_client_Client_Waits]
          refine CallK.as hW (aft_nil ?_)
          simp -implicitDefEqProofs -dsimp only [go_sem, seval, wl, wd, d0, d2, d3, d4, d5, k0, k1, k5, k6, ↓g_call _ _ c_sautoirlaw29_answer]
          refine CallK.as hA (aft_nil ?_)
          simp -implicitDefEqProofs -dsimp only [go_sem, seval, ↓g_call _ _ c_sautoirlaw17_Ours]
          refine CallK.pure hO (aft_nil ?_)
          simp -implicitDefEqProofs -dsimp only [go_sem, seval, ↓g_call _ _ c_client_Client_Hear]
          refine CallK.of hH fun v T2 hv => aft_nil ?_
          obtain ⟨rfl, x', hct, hF, hx'⟩ := hv
          simp -implicitDefEqProofs -dsimp only [go_sem, seval, hs, decide_true, decide_false]
          exact step w x' c rc c.sq T2 ids ⟨At.mono hat (by omega), hct, by simpa using hb.step hF (by intro j hj; simp only [List.mem_cons, List.not_mem_nil, or_false] at hj; rcases hj with rfl | rfl <;> assumption), i1, i2, i3, i4, by rw [hF.1 rid (by rw [hrr]; simp [Rc.row]) (by simp [Ne.symm hrid, Ne.symm hlrid])]; exact hrr, hme, hsq, hwr, han⟩
      · rw [hw] at hH hat2
        simp only [Option.isSome_some, if_true] at hH hat2
        have e1 := bts_some han hw
        rcases k56 with ⟨k5, k6⟩ | ⟨k5, k6⟩
        all_goals
          simp -implicitDefEqProofs -dsimp only [go_sem, seval, Int.ofNat_lt, hlt, Int.natCast_nonneg, Int.toNat_natCast, ea, e5, e6, et, d0, d3, d4, d5, dk, ↓g_call _ _ c_client_Client_Waits]
          refine CallK.as hW (aft_nil ?_)
          simp -implicitDefEqProofs -dsimp only [go_sem, seval, wl, wd, d0, d2, d3, d4, d5, k0, k1, k5, k6, ↓g_call _ _ c_sautoirlaw29_answer]
          refine CallK.as hA (aft_nil ?_)
          simp -implicitDefEqProofs -dsimp only [go_sem, seval, ↓g_call _ _ c_sautoirlaw17_Ours]
          refine CallK.pure hO (aft_nil ?_)
          simp -implicitDefEqProofs -dsimp only [go_sem, seval, ↓g_call _ _ c_client_Client_Hear]
          refine CallK.of hH fun v T2 hv => aft_nil ?_
          obtain ⟨rfl, x', hct, hF, hx'⟩ := hv
          simp -implicitDefEqProofs -dsimp only [go_sem, seval, hs, wan, e1, decide_true, decide_false]
          have := step w x' _ rc c.sq T2 ids ⟨At.mono hat2 (by omega), hct, by simpa using hb.step hF (by intro j hj; simp only [List.mem_cons, List.not_mem_nil, or_false] at hj; rcases hj with rfl | rfl <;> assumption), i1, i2, i3, i4, by rw [hF.1 rid (by rw [hrr]; simp [Rc.row]) (by simp [Ne.symm hrid, Ne.symm hlrid])]; exact hrr, hme, hsq, hwr, (show c.sq + 0 = c.sq from Nat.add_zero _)⟩
          exact this
    · obtain ⟨hat2, _⟩ := tick_at hat (by omega)
      have hTk := ac_Tick h hat.ok hat2.ok
      obtain ⟨ts, tw⟩ := tick_same c
      generalize htf : tickF c = TF at *
      obtain ⟨c2, out⟩ := TF
      simp only at hTk hat2 ts tw
      simp -implicitDefEqProofs -dsimp only [go_sem, seval, Int.ofNat_lt, hlt, Int.natCast_nonneg, Int.toNat_natCast, ea, e5, e6, et, d0, d3, d4, d5, dk, ↓g_call _ _ c_client_Client_Waits]
      refine CallK.as hW (aft_nil ?_)
      simp -implicitDefEqProofs -dsimp only [go_sem, seval, wl, wd, d0, d3, d4, d5, k0, k1, k5, k6, ↓g_call _ _ c_client_Client_Tick]
      refine CallK.of hTk fun v T2 hv => aft_nil ?_
      obtain ⟨rfl, hct, hF, hn⟩ := hv
      simp -implicitDefEqProofs -dsimp only [go_sem, seval, hs]
      have := step w x c2 rc an T2 ids ⟨hat2, hct, by simpa using hb.step hF (by intro j hj; simp only [List.mem_singleton] at hj; subst hj; exact i3), i1, i2, i3, i4, by rw [hF.1 rid (by rw [hrr]; simp [Rc.row]) (by simpa using Ne.symm hwr)]; exact hrr, hme, by rw [hsq, ts], hwr, by rw [tw, ts]; exact han⟩
      rw [ts] at this
      exact this
end Go.Aw

