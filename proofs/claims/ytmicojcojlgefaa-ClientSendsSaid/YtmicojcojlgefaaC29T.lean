import Derived.Test.YtmicojcojlgefaaC29S
namespace Go.Aw
open Go
open Go.Proofs.Try (prog)
set_option linter.all false
set_option maxHeartbeats 8000000
set_option maxRecDepth 8000

theorem Ct.mono26 {T T1 : Tab} {id r l w x : Nat} {c : Cl} (h : Ct T id r l w x c) (hm : ∀ j, T j ≠ .unused → (∀ xs, T j ≠ .row 26 xs) → T1 j = T j) : Ct T1 id r l w x c := by
  refine ⟨?_, ⟨?_, ?_⟩, ?_, ?_⟩
  · rw [hm id (by rw [h.cr]; simp [clRow]) (by rw [h.cr]; simp [clRow])]; exact h.cr
  · rw [hm r (by rw [h.rt.1]; simp) (by rw [h.rt.1]; simp)]; exact h.rt.1
  · rw [hm l (by rw [h.rt.2]; simp) (by rw [h.rt.2]; simp)]; exact h.rt.2
  · intro o ho
    rw [hm w (by rw [h.cw o ho]; simp [wRow]) (by rw [h.cw o ho]; simp [wRow])]; exact h.cw o ho
  · intro y hy
    obtain ⟨h1, h2⟩ := h.cy y hy
    exact ⟨by rw [hm x (by rw [h1]; simp [rRow]) (by rw [h1]; simp [rRow])]; exact h1, h2⟩
theorem Own.rebase {Tc T1 T3 : Tab} {n : Nat} {v : AV} {xs : List AV} (ho : Own Tc 26 v n xs T1) (hk : ∀ i, v = .sl i 0 n none → T3 i = T1 i) :
    ∃ B, Own B 26 v n xs T3 ∧ ∀ j, B j = T3 j ∨ (Tc j = .unused ∧ T3 j = .row 26 xs) := by
  obtain ⟨h1, h2⟩ := ho
  rcases h2 with ⟨e1, e2, e3⟩ | ⟨i, e1, e2, e3⟩
  · exact ⟨T3, ⟨h1, .inl ⟨e1, e2, rfl⟩⟩, fun j => .inl rfl⟩
  · have hi := hk i e1
    rw [e3, Tab.put_same] at hi
    refine ⟨T3.put i .unused, ⟨h1, .inr ⟨i, e1, Tab.put_same .., ?_⟩⟩, fun j => ?_⟩
    · rw [Tab.put_put, Tab.put_self hi]
    · by_cases hj : j = i
      · subst hj; exact .inr ⟨e2, hi⟩
      · exact .inl (Tab.put_ne _ _ hj)
theorem lp_Sends1n {R : RPost} (hR : ExtR R) {T : Tab} {me : Int} {id N i : Nat} {ev : List AV} {m : Lt Cf}
    (h2 : R (.exit 2) [(7, .i .i64 me), (8, .ptr id 0), (13, .lp 13 0), (31, .fz N ev none), (32, .i .i64 N), (33, .i .i64 i), (60, .fz 0 [] (some 0)), (61, .i .i64 0), (62, .i .i64 0), (63, .b false)] [(13, m.cc)] T) :
    AW prog sautoirlaw29_ClientSends_l1 R [(7, .i .i64 me), (8, .ptr id 0), (13, .lp 13 0), (31, .fz N ev none), (32, .i .i64 N), (33, .i .i64 i), (60, .fz 0 [] (some 0)), (61, .i .i64 0), (62, .i .i64 0)] [(13, m.cc)] T := by
  refine AW_loop hR ?_
  unfold sautoirlaw29_ClientSends_l1b
  simp -implicitDefEqProofs -dsimp only [go_sem, seval, Int.lt_irrefl]
  exact h2
theorem try_len (c : Cl) (o : Cp) (t : Int) : (tryL c o t).length ≤ 2 := by unfold tryL; split <;> simp
theorem call_len (c : Cl) (o : Cp) : (callF c o).1.2.length ≤ 2 := by
  unfold callF
  split
  · exact Nat.zero_le _
  split
  · exact Nat.zero_le _
  split
  · exact Nat.zero_le _
  · exact try_len _ _ _
theorem tick_len (c : Cl) : (tickF c).2.length ≤ 2 := by
  unfold tickF
  split
  · exact Nat.zero_le _
  · exact try_len _ _ _
theorem evC_len (e : Ev) : (evC e).length = 32 := rfl
theorem lp_Sends0 {R : RPost} (hR : ExtR R) {T0 : Tab} {id r l : Nat} {evs : List Ev} {me : Int} (hl : Len evs.length) (hx : ∀ e ∈ evs, e.Arg) : ∀ (us : List Ev) (k : Nat), evs.drop k = us → k ≤ evs.length → k ≤ 30 → ∀ (w x : Nat) (c : Cl) (T : Tab) (ids : List Nat), c.At me 2 (2 * k) → Ct T id r l w x c → Bs0 T0 T ids → id ∈ ids → l ∈ ids → w ∈ ids →
    (∀ T, (∀ j, SlotLe (T0 j) (T j)) → R (.exit 0) [(7, .i .i64 me), (8, .ptr id 0), (31, .fz evs.length (evs.flatMap evC) none), (32, .i .i64 evs.length), (33, .i .i64 evs.length), (34, .b false)] [] T) →
    (∀ T (q : Nat) cs, (∀ j, SlotLe (T0 j) (T j)) → R (.exit 0) [(7, .i .i64 me), (8, .ptr id 0), (10, .lp 10 0), (31, .fz evs.length (evs.flatMap evC) none), (32, .i .i64 evs.length), (33, .i .i64 q), (39, .b true)] [(10, cs)] T) →
    AW prog sautoirlaw29_ClientSends_l0 R [(7, .i .i64 me), (8, .ptr id 0), (31, .fz evs.length (evs.flatMap evC) none), (32, .i .i64 evs.length), (33, .i .i64 k)] [] T := by
  intro us
  induction us with
  | nil =>
    intro k hk hle hk30 w x c T ids hat h hb i1 i2 i3 h2 h3
    have hk' := drop_nil hk hle
    refine AW_loop hR ?_
    unfold sautoirlaw29_ClientSends_l0b
    simp -implicitDefEqProofs -dsimp only [go_sem, seval, hk', Int.lt_irrefl]
    have := h2 T hb.le
    rw [hk'] at this
    exact this
  | cons y us ih =>
    intro k hk hle hk30 w x c T ids hat h hb i1 i2 i3 h2 h3
    obtain ⟨hlt, hy, hk'⟩ := drop_lt hk
    have ea := flat_at evC_len hy
    have e5 : k * 32 + 32 ≤ (evs.flatMap evC).length := by rw [flat_length evC_len]; omega
    have et : (evC y ++ (evs.drop (k + 1)).flatMap evC).take 32 = evC y := List.take_left' rfl
    have e6 : (32 ≤ (evC y ++ (evs.drop (k + 1)).flatMap evC).length) = True := eq_true (by rw [List.length_append, evC_len]; omega)
    unfold Len at hl
    have hs : IntKind.i64.wrap ((k : Int) + 1) = ((k + 1 : Nat) : Int) := wrap_succ (by omega)
    have hya := hx y (List.mem_of_getElem? hy)
    refine AW_loopD (l := sautoirlaw29_ClientSends_l0) rfl hR ?_
    unfold sautoirlaw29_ClientSends_l0b
    have d1 : ((evC y).drop 1).take 5 = [.i .i64 y.o.k, .s y.o.key, .s y.o.v, .fz y.o.rs.length (y.o.rs.flatMap rdC) none, .fz y.o.ws.length (y.o.ws.flatMap wtC) none] := rfl
    have d2 : ((evC y).drop 6).take 26 = y.l.cells rfL := rfl
    have d3 : (evC y).length = 32 := rfl
    have d4 : (evC y).take 32 = evC y := rfl
    have d5 : (evC y).drop 32 = [] := rfl
    by_cases hk3 : 30 ≤ k
    · have dk : decide ((30 : Int) ≤ (k : Int)) = true := decide_eq_true (by omega)
      simp -implicitDefEqProofs -dsimp only [go_sem, seval, Int.ofNat_lt, hlt, Int.natCast_nonneg, Int.toNat_natCast, ea, e5, e6, et, d3, d4, d5, dk]
      exact h3 T k _ hb.le
    have dk : decide ((30 : Int) ≤ (k : Int)) = false := decide_eq_false (by omega)
    have c1 := pc_cOurs y.o hya.o
    have hof := hya.o.our
    obtain ⟨hcAt, hcL⟩ := call_at hat hof (by omega)
    have hC := ac_CallO h hat.ok y.o.our hof hcAt.ok
    have cL := pc_LOurs y.l hya.l.wide
    have hm := hya.l.fine
    have hmc := hya.l.confs
    have hcn := call_len c y.o.our
    simp only [Cp.cells] at c1 hC
    generalize callF c y.o.our = CF at *
    obtain ⟨⟨cc1, out1⟩, cd⟩ := CF
    simp only at hcAt hcL hC hcn
    generalize y.l.ours = m at *
    generalize y.o.our = u at *
    generalize y.l.cells rfL = L1 at *
    generalize evC y = E at *
    simp -implicitDefEqProofs -dsimp only [go_sem, seval, Int.ofNat_lt, hlt, Int.natCast_nonneg, Int.toNat_natCast, ea, e5, e6, et, d1, d3, d4, d5, dk, ↓g_call _ _ c_sautoirlaw29_Ours]
    refine CallK.pure c1 (aft_nil ?_)
    simp -implicitDefEqProofs -dsimp only [go_sem, seval, ↓g_call _ _ c_client_Client_Call]
    refine CallK.of hC fun v T1 hv => aft_nil ?_
    obtain ⟨v0, w', Tc, rfl, hct, hF, ho⟩ := hv
    obtain ⟨p1, p2, p3, p4, p5, p6⟩ := ho.form
    simp -implicitDefEqProofs -dsimp only [go_sem, seval, p1, p2, p3, p4, p5, p6, d2, d3, ↓g_call _ _ c_sautoirlaw17_Ours]
    refine CallK.pure cL (aft_nil ?_)
    simp -implicitDefEqProofs -dsimp only [go_sem, seval, p1, p2, p3, p4, p5, p6, cc_len, cc_take, cc_drop, cs_to]
    have hct1 := hct.mono ho.keeps
    have b1 := hb.step hF (by intro j hj; simp only [List.mem_cons, List.not_mem_nil, or_false] at hj; rcases hj with rfl | rfl <;> assumption)
    have b1' : Bs0 T0 T1 ([w'] ++ ids) := ⟨fun j hj => by rw [ho.keeps j (by rw [b1.f j hj]; exact hj)]; exact b1.f j hj, b1.u⟩
    have hH := ac_HearX hct1 hcAt.ok (tos m 3 me) (tos_small hm.small _ _) hm.t (by have := hm.cs; show m.cs.length < 1000000; omega) hmc
    have hcAt2 := hear_at (m := tos m 3 me) hcAt (fun c hc => (hmc c hc).2)
    generalize hearF cc1 (tos m 3 me) = HF at *
    obtain ⟨cc2, hr2⟩ := HF
    simp only at hH hcAt2
    simp -implicitDefEqProofs -dsimp only [go_sem, seval, ↓g_call _ _ c_client_Client_Hear]
    refine CallK.of hH fun v T2 hv => aft_nil ?_
    obtain ⟨rfl, x', hct2, hF2, hx'⟩ := hv
    have b2 := b1'.step hF2 (by intro j hj; simp only [List.mem_cons, List.not_mem_nil, or_false] at hj; rcases hj with rfl | rfl <;> simp [i1, i2])
    obtain ⟨hcAt3, hcL3⟩ := tick_at hcAt2 (by omega)
    have hTk := ac_Tick hct2 hcAt2.ok hcAt3.ok
    have htn := tick_len cc2
    generalize htf : tickF cc2 = TF at *
    obtain ⟨cc3, out2⟩ := TF
    simp only at hTk hcAt3 hcL3 htn
    simp -implicitDefEqProofs -dsimp only [go_sem, seval, p1, p2, p3, p4, p5, p6, cc_len, cc_take, cc_drop, ↓g_call _ _ c_client_Client_Tick]
    refine CallK.of hTk fun v T3 hv => aft_nil ?_
    obtain ⟨rfl, hct3, hF3, hnone⟩ := hv
    have b3 := b2.step hF3 (by intro j hj; simp only [List.mem_singleton] at hj; subst hj; simp)
    -- the row of what was sent stays
    have hkeep : ∀ i, v0 = .sl i 0 out1.length none → T3 i = T1 i := fun i hi => by
      obtain ⟨_, hh⟩ := ho
      rcases hh with ⟨e, _⟩ | ⟨i', e1, e2, e3⟩
      · rw [hi] at e; cases e
      rw [hi] at e1
      injection e1 with e1
      subst e1
      have t1 : T1 i = .row 26 (out1.flatMap Lt.kc) := by rw [e3, Tab.put_same]
      have n1 : i ≠ id := fun e => by subst e; rw [hct1.cr] at t1; simp [clRow] at t1
      have n2 : i ≠ l := fun e => by subst e; rw [hct1.rt.2] at t1; simp at t1
      have t2 : T2 i = T1 i := hF2.1 i (by rw [t1]; simp) (by simp [n1, n2])
      rcases hw2 : cc2.w with _ | o2
      · rw [hnone hw2, t2]
      · have n3 : i ≠ w' := fun e => by subst e; have := hct2.cw _ hw2; rw [t2, t1] at this; simp [wRow] at this
        rw [hF3.1 i (by rw [t2, t1]; simp) (by simp [n3]), t2]
    obtain ⟨B, hoB, hB⟩ := ho.rebase hkeep
    simp -implicitDefEqProofs -dsimp only [go_sem, seval, p1, p2, p3, p4, p5, p6]
    refine hoB.app (m := out2.length) (news := out2.flatMap Lt.kc) (show (if (out2.flatMap Lt.kc).length = out2.length * 26 then some (out2.flatMap Lt.kc) else none) = some (out2.flatMap Lt.kc) from if_pos (kcs_len out2)) rfl (by omega) (by omega) fun v4 T4 ho4 => aft_nil ?_
    rw [← List.length_append, ← List.flatMap_append] at ho4
    obtain ⟨q1, q2, q3, q4, q5, q6⟩ := ho4.form
    have hall : ∀ g ∈ out1 ++ out2, LtS me g := fun g hg => by
      rcases List.mem_append.1 hg with hg | hg
      · exact hcL g hg
      · exact hcL3 g hg
    have hln : (out1 ++ out2).length < 1000000 := by rw [List.length_append]; omega
    have hk4 : ∀ j, T3 j ≠ .unused → (∀ xs, T3 j ≠ .row 26 xs) → T4 j = T3 j := fun j h1 h2 => by
      rcases hB j with e | ⟨_, e⟩
      · rw [ho4.keeps j (by rw [e]; exact h1), e]
      · exact absurd e (h2 _)
    have hct4 : Ct T4 id r l w' x' cc3 := hct3.mono26 hk4
    have b4 : Bs0 T0 T4 ([w'] ++ ids) := by
      refine ⟨fun j hj => ?_, b1'.u⟩
      have hb3 := b3.f j hj
      rcases hB j with e | ⟨e, _⟩
      · rw [ho4.keeps j (by rw [e, hb3]; exact hj), e, hb3]
      · have := b1.f j hj
        rw [e] at this
        exact absurd this.symm hj
    have hfin : ∀ E : List (Nat × List AV), True := fun _ => trivial
    have hIH := ih (k + 1) hk' hlt (by omega) w' x' cc3 T4 ([w'] ++ ids) (At.mono hcAt3 (by omega)) hct4 b4 (by simp [i1]) (by simp [i2]) (by simp) h2 h3
    generalize out1 ++ out2 = ls at *
    obtain ⟨_, hform⟩ := ho4
    rcases hform with ⟨rfl, e2, e3⟩ | ⟨j4, rfl, e2, e3⟩
    · rw [e2] at *
      simp -implicitDefEqProofs -dsimp only [go_sem, seval]
      refine lp_Sends1n (m := tos m 3 me) (by repeat' (first | exact finX_ext _ _ | assumption | apply blkR_ext | apply thenR_ext | apply AW_ext)) ?_
      simp -implicitDefEqProofs -dsimp only [go_sem, seval, hs]
      exact hIH
    · have t4 : T4 j4 = .row 26 (ls.flatMap Lt.kc) := by rw [e3, Tab.put_same]
      simp -implicitDefEqProofs -dsimp only [go_sem, seval]
      refine lp_Sends1 (m := tos m 3 me) (by repeat' (first | exact finX_ext _ _ | assumption | apply blkR_ext | apply thenR_ext | apply AW_ext)) t4 hln hall ⟨rfl, rfl⟩ ls 0 rfl (Nat.zero_le _) ?_
      simp -implicitDefEqProofs -dsimp only [go_sem, seval, hs]
      exact hIH
end Go.Aw

