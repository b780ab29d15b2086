import Derived.Test.YtmicojcojlgefaaC29A
namespace Go.Aw
open Go
open Go.Proofs.Try (prog)
set_option linter.all false
set_option maxHeartbeats 8000000
set_option maxRecDepth 8000

/-! A client's state. -/
theorem ac_route_New2 {T : Tab} {S L : Nat} {v : Int} (h : sok S L v = true) : ACalls prog f_route_New [.agg (stC S L v)] T
    (fun r T' => ∃ id idL, r = .ptr id 0 ∧ T id = .unused ∧ T idL = .unused ∧ id ≠ idL ∧ T' = (T.put idL (.row 5 (cfsC (cfs0 L S)))).put id (.row 1 [.sl idL 0 (cfs0 L S).length none])) := by
  refine acalls_of mixed t_route_New (by simp) ?_
  have hh := of_decide_eq_true h
  unfold s_route_New
  simp -implicitDefEqProofs -dsimp only [go_sem, seval, stC, ↓g_call _ _ c_order_RightSetup, ↓g_call _ _ c_order_New, ↓g_call _ _ c_order_State_Confs]
  refine CallK.pure (pc_RightSetup S L v) (aft_nil ?_)
  simp -implicitDefEqProofs -dsimp only [go_sem, seval, h, ↓g_call _ _ c_order_New]
  refine CallK.of (ac_order_New h) (fun r T1 ⟨id, vC, ps, e1, hid, hps, how⟩ => aft_nil ?_)
  subst e1
  simp -implicitDefEqProofs -dsimp only [go_sem, seval, ↓g_call _ _ c_order_State_Confs]
  refine CallK.of (ac_Confs rfl hid (by omega) (by omega) (by omega) (by omega) hps how) (fun r T2 ⟨hx, ho⟩ => aft_nil ?_)
  rcases ho with ⟨_, e, _⟩ | ⟨iO, eO, hiO, h2⟩
  · omega
  subst eO
  subst h2
  simp -implicitDefEqProofs -dsimp only [go_sem, seval]
  refine fun id2 hid2 => aft_nil ?_
  simp -implicitDefEqProofs -dsimp only [go_sem, seval]
  obtain ⟨hne, hu⟩ := Tab.unused_put hid2
  exact finL_of _ (fun _ => .inr (.inl rfl)) ⟨id2, iO, rfl, hu, hiO, hne, by simp [cfs0]⟩
structure Cr where
  cl : Int
  sq : Int
  n : Int
  co : Int
  v : Bs
  q : Int
structure Cl where
  me : Int
  ma : Int
  sq : Nat
  l : List Cf
  w : Option (Cp × Int)
  la : Option Cr
def ptO {α : Type} (o : Option α) (w : Nat) : AV := match o with
  | none => .nilptr
  | some _ => .ptr w 0
def clRow (c : Cl) (r w x : Nat) : Slot := .row 6 [.i .i64 c.me, .i .i64 c.ma, .ptr r 0, .i .u64 c.sq, ptO c.w w, ptO c.la x]
def wRow (me : Int) (sq : Nat) (o : Cp) (t : Int) : Slot := .row 8 [.i .i64 me, .i .u64 sq, .i .i64 o.k, .s o.key, .s o.v, .fz o.rs.length (o.rs.flatMap rdC) none, .fz o.ws.length (o.ws.flatMap wtC) none, .i .i64 t]
def rRow (y : Cr) : Slot := .row 6 [.i .i64 y.cl, .i .u64 y.sq, .i .i64 y.n, .i .i64 y.co, .s y.v, .i .u64 y.q]
structure Ct (T : Tab) (id r l w x : Nat) (c : Cl) : Prop where
  cr : T id = clRow c r w x
  rt : Rt T r l c.l
  cw : ∀ o, c.w = some o → T w = wRow c.me c.sq o.1 o.2
  cy : ∀ y, c.la = some y → T x = rRow y ∧ id ≠ x
/-- What stays as it was. -/
def Fr (fp new : List Nat) (T T' : Tab) : Prop := (∀ j, T j ≠ .unused → j ∉ fp → T' j = T j) ∧ ∀ j ∈ new, j ∈ fp ∨ T j = .unused
def cOk (me ma s l v : Int) : Bool := decide (0 ≤ me) && decide (me < 6) && decide (1 ≤ ma) && decide (ma ≤ 5) && sok s l v
def cl0 (me ma : Int) (S L : Nat) : Cl := ⟨me, ma, 0, cfs0 L S, none, none⟩
theorem pc_cNew0 {me ma s l v : Int} (h : cOk me ma s l v = false) : PCalls prog f_client_New [.i .i64 me, .i .i64 ma, .agg (stC s l v)] .nilptr := by
  refine pcalls_of mixed t_client_New (by simp) fun T => ?_
  have c1 := pc_RightSetup s l v
  simp only [stC] at c1
  unfold s_client_New
  simp -implicitDefEqProofs -dsimp only [go_sem, seval, stC]
  rcases h1 : decide (me < 0) with _ | _
  · rcases h2 : decide (6 ≤ me) with _ | _
    · rcases h3 : decide (ma < 1) with _ | _
      · rcases h4 : decide (5 < ma) with _ | _
        · have e : sok s l v = false := by
            have h1 := of_decide_eq_false h1
            have h2 := of_decide_eq_false h2
            have h3 := of_decide_eq_false h3
            have h4 := of_decide_eq_false h4
            simpa [cOk, show 0 ≤ me by omega, show me < 6 by omega, show 1 ≤ ma by omega, show ma ≤ 5 by omega] using h
          rw [e] at c1
          simp -implicitDefEqProofs -dsimp only [go_sem, seval, h1, h2, h3, h4, ↓g_gdc, rcOk, true_and, ↓g_call _ _ c_order_RightSetup]
          refine CallK.pure c1 (aft_nil ?_)
          simp -implicitDefEqProofs -dsimp only [go_sem, seval]
          exact finL_pure rfl
        · simp -implicitDefEqProofs -dsimp only [go_sem, seval, h1, h2, h3, h4, ↓g_gdc, rcOk, true_and]
          exact finL_pure rfl
      · simp -implicitDefEqProofs -dsimp only [go_sem, seval, h1, h2, h3, ↓g_gdc, rcOk, true_and]
        exact finL_pure rfl
    · simp -implicitDefEqProofs -dsimp only [go_sem, seval, h1, h2, ↓g_gdc, rcOk, true_and]
      exact finL_pure rfl
  · simp -implicitDefEqProofs -dsimp only [go_sem, seval, h1, ↓g_gdc, rcOk, true_and]
    exact finL_pure rfl
theorem ac_cNew {T : Tab} {me ma : Int} {S L : Nat} {v : Int} (h : cOk me ma S L v = true) : ACalls prog f_client_New [.i .i64 me, .i .i64 ma, .agg (stC S L v)] T
    (fun a T' => ∃ id r l, a = .ptr id 0 ∧ Ct T' id r l id id (cl0 me ma S L) ∧ Fr [] [id, r, l] T T') := by
  refine acalls_of mixed t_client_New (by simp) ?_
  simp only [cOk, Bool.and_eq_true, decide_eq_true_eq] at h
  obtain ⟨⟨⟨⟨h1, h2⟩, h3⟩, h4⟩, h5⟩ := h
  have d1 : decide (me < 0) = false := decide_eq_false (by omega)
  have d2 : decide (6 ≤ me) = false := decide_eq_false (by omega)
  have d3 : decide (ma < 1) = false := decide_eq_false (by omega)
  have d4 : decide (5 < ma) = false := decide_eq_false (by omega)
  have c1 := pc_RightSetup S L v
  rw [h5] at c1
  have c2 := ac_route_New2 (T := T) h5
  simp only [stC] at c1 c2
  unfold s_client_New
  simp -implicitDefEqProofs -dsimp only [go_sem, seval, stC, d1, d2, d3, d4, ↓g_gdc, rcOk, true_and, ↓g_call _ _ c_order_RightSetup]
  refine CallK.pure c1 (aft_nil ?_)
  simp -implicitDefEqProofs -dsimp only [go_sem, seval, ↓g_call _ _ c_route_New]
  refine CallK.of c2 (fun a T1 ⟨r, l, e1, hr, hl, hne, e2⟩ => aft_nil ?_)
  subst e1
  subst e2
  simp -implicitDefEqProofs -dsimp only [go_sem, seval]
  refine fun id hid => aft_nil ?_
  simp -implicitDefEqProofs -dsimp only [go_sem, seval]
  obtain ⟨n1, hid⟩ := Tab.unused_put hid
  obtain ⟨n2, hid⟩ := Tab.unused_put hid
  refine finL_of _ (fun _ => .inr (.inl rfl)) ⟨id, r, l, rfl, ⟨?_, ⟨?_, ?_⟩, ?_, ?_⟩, ?_, ?_⟩
  · rw [Tab.put_same]; rfl
  · rw [Tab.put_ne _ _ (Ne.symm n1), Tab.put_same]; rfl
  · rw [Tab.put_ne _ _ (Ne.symm n2), Tab.put_ne _ _ (Ne.symm hne), Tab.put_same]; rfl
  · intro o ho; cases ho
  · intro o ho; cases ho
  · intro j hj _
    rw [Tab.put_ne _ _ (fun e => by subst e; exact hj hid), Tab.put_ne _ _ (fun e => by subst e; exact hj hr), Tab.put_ne _ _ (fun e => by subst e; exact hj hl)]
  · intro j hj
    simp only [List.mem_cons, List.not_mem_nil, or_false] at hj
    rcases hj with rfl | rfl | rfl
    · exact .inr hid
    · exact .inr hr
    · exact .inr hl
end Go.Aw

