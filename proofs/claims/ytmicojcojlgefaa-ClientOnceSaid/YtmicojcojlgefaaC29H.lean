import Derived.Test.YtmicojcojlgefaaC29F
namespace Go.Aw
open Go
open Go.Proofs.Try (prog)
set_option linter.all false
set_option maxHeartbeats 8000000
set_option maxRecDepth 8000

/-! Time goes on; something is asked. -/
theorem fin_wk {T : Tab} {r r' : AV} {Q : AV → Tab → Prop} (hw : Wk r r') (hQ : Q r' T) : finL r Q T :=
  ⟨[], T, r', List.nodup_nil, by simp, fun _ => .inr (.inl rfl), by rw [frzt_nil]; exact hw, hQ⟩
theorem ptO_none {α : Type} (w : Nat) : ptO (none : Option α) w = .nilptr := rfl
theorem ptO_some {α : Type} (a : α) (w : Nat) : ptO (some a) w = .ptr w 0 := rfl
theorem row_ne {T : Tab} {a b m n : Nat} {xs ys : List AV} (ha : T a = .row m xs) (hb : T b = .row n ys) (h : m ≠ n) : a ≠ b := fun e => by
  subst e; rw [ha] at hb; injection hb with h1; exact h h1
section
variable {T : Tab} {id r l w x : Nat} {c : Cl}
theorem Ct.id_r (h : Ct T id r l w x c) : id ≠ r := row_ne h.cr h.rt.1 (by decide)
theorem Ct.id_l (h : Ct T id r l w x c) : id ≠ l := row_ne h.cr h.rt.2 (by decide)
theorem Ct.id_w (h : Ct T id r l w x c) {o : Cp × Int} (hw : c.w = some o) : id ≠ w := row_ne h.cr (h.cw _ hw) (by decide)
theorem Ct.r_w (h : Ct T id r l w x c) {o : Cp × Int} (hw : c.w = some o) : r ≠ w := row_ne h.rt.1 (h.cw _ hw) (by decide)
theorem Ct.l_w (h : Ct T id r l w x c) {o : Cp × Int} (hw : c.w = some o) : l ≠ w := row_ne h.rt.2 (h.cw _ hw) (by decide)
theorem Ct.x_w (h : Ct T id r l w x c) {o : Cp × Int} (hw : c.w = some o) {y : Cr} (hy : c.la = some y) : x ≠ w := row_ne (h.cy _ hy).1 (h.cw _ hw) (by decide)
theorem Ct.x_l (h : Ct T id r l w x c) {y : Cr} (hy : c.la = some y) : x ≠ l := row_ne (h.cy _ hy).1 h.rt.2 (by decide)
theorem Ct.tick (h : Ct T id r l w x c) {o : Cp} {t : Int} (hw : c.w = some (o, t)) (t' : Int) : Ct (T.put w (wRow c.me c.sq o t')) id r l w x { c with w := some (o, t') } := by
  refine ⟨?_, ⟨?_, ?_⟩, ?_, ?_⟩
  · rw [Tab.put_ne _ _ (h.id_w hw), h.cr]; simp only [clRow, hw, ptO_some]
  · rw [Tab.put_ne _ _ (h.r_w hw)]; exact h.rt.1
  · rw [Tab.put_ne _ _ (h.l_w hw)]; exact h.rt.2
  · intro q hq
    injection hq with hq
    subst hq
    exact Tab.put_same ..
  · intro y hy
    obtain ⟨h1, h2⟩ := h.cy y hy
    exact ⟨by rw [Tab.put_ne _ _ (h.x_w hw hy)]; exact h1, h2⟩
end
theorem Fr.put {T : Tab} {fp : List Nat} {w : Nat} {s : Slot} (h : w ∈ fp) : Fr fp [] T (T.put w s) := ⟨fun j _ hj => Tab.put_ne _ _ (fun e => hj (e ▸ h)), fun _ h => by cases h⟩
def tickF (c : Cl) : Cl × List (Lt Cf) := match c.w with
  | none => (c, [])
  | some (o, t) => ({ c with w := some (o, t + 1) }, tryL c o (t + 1))
theorem tryL_w (c : Cl) (w : Option (Cp × Int)) (o : Cp) (t : Int) : tryL { c with w := w } o t = tryL c o t := rfl
theorem ac_Tick {T : Tab} {id r l w x : Nat} {c : Cl} (h : Ct T id r l w x c) (hk : c.Ok) (hk2 : (tickF c).1.Ok) :
    ACalls prog f_client_Client_Tick [.ptr id 0] T (fun v T' => v = .fz (tickF c).2.length ((tickF c).2.flatMap Lt.kc) none ∧ Ct T' id r l w x (tickF c).1 ∧ Fr [w] [] T T' ∧ (c.w = none → T' = T)) := by
  refine acalls_of mixed t_client_Client_Tick (by simp) ?_
  have hT := h.cr
  simp only [clRow] at hT
  unfold tickF at hk2 ⊢
  unfold s_client_Client_Tick
  rcases hw : c.w with _ | ⟨o, t⟩
  · simp only [hw, ptO_none, ptO_some] at hT ⊢
    simp -implicitDefEqProofs -dsimp only [go_sem, seval, hT, eqAv, ↓g_gdc, rcOk, true_and]
    exact fin_wk .fz ⟨rfl, h, ⟨fun _ _ _ => rfl, fun _ h => by cases h⟩, fun _ => rfl⟩
  · simp only [hw, ptO_none, ptO_some] at hT hk2 ⊢
    have hW := h.cw _ hw
    have ht := (hk.w _ hw).2
    simp only at ht hW
    have hct := h.tick hw (t + 1)
    have hW2 := hW
    simp only [wRow] at hW2
    have w1 : IntKind.i64.wrap (t + 1) = t + 1 := wrap_i64 (by unfold I64; omega)
    have hac := ac_try hct rfl hk2
    rw [tryL_w] at hac
    simp -implicitDefEqProofs -dsimp only [go_sem, seval, hT, hW2, eqAv, ↓g_gdc, rcOk, true_and, w1]
    refine stS_row hW2 rfl rfl (by simp) (aft_nil ?_)
    simp -implicitDefEqProofs -dsimp only [go_sem, seval, ↓g_call _ _ c_client_Client_try]
    refine CallK.of hac fun v T' hv => ?_
    rw [hv.1, hv.2]
    refine aft_nil ?_
    simp -implicitDefEqProofs -dsimp only [go_sem, seval]
    exact finL_of _ (fun _ => .inr (.inl rfl)) ⟨rfl, hct, Fr.put (by simp), fun e => by cases e⟩
end Go.Aw

namespace Go.Aw
open Go
open Go.Proofs.Try (prog)
set_option linter.all false
set_option maxHeartbeats 8000000
set_option maxRecDepth 8000

/-! Something is asked. -/
def callF (c : Cl) (o : Cp) : (Cl × List (Lt Cf)) × Int :=
  if c.w.isSome = true then ((c, []), 10) else if mayF o = false then ((c, []), 1) else if c.sq = 18446744073709551615 then ((c, []), 9) else
    (({ c with sq := c.sq + 1, w := some (o, 0) }, tryL { c with sq := c.sq + 1 } o 0), 0)
theorem Fr.refl (fp : List Nat) (T : Tab) : Fr fp [] T T := ⟨fun _ _ _ => rfl, fun _ h => by cases h⟩
theorem ac_Call {T : Tab} {id r l w x : Nat} {c : Cl} (h : Ct T id r l w x c) (hk : c.Ok) (o : Cp) (ho : o.Fine) (hk2 : (callF c o).1.1.Ok) :
    ACalls prog f_client_Client_Call [.ptr id 0, .agg o.cells] T (fun v T' => v = .tup [.fz (callF c o).1.2.length ((callF c o).1.2.flatMap Lt.kc) none, .i .i64 (callF c o).2] ∧ ∃ w', Ct T' id r l w' x (callF c o).1.1 ∧ Fr [id, w] [w'] T T') := by
  refine acalls_of mixed t_client_Client_Call (by simp) ?_
  have hT := h.cr
  simp only [clRow] at hT
  have cm := pc_cMay o ho
  have cR := pc_CloneRead (n := o.rs.length) (xs := o.rs.flatMap rdC) (cap := none) (flat_length rdC_len o.rs) (by have := ho.t.r; simp only at this; omega)
  have cW := pc_CloneWrite (n := o.ws.length) (xs := o.ws.flatMap wtC) (cap := none) (flat_length wtC_len o.ws) (by have := ho.t.w; simp only at this; omega)
  simp only [Cp.cells] at cm
  have hfr : Fr [id, w] [w] T T := ⟨fun _ _ _ => rfl, fun j hj => .inl (by simp only [List.mem_singleton] at hj; subst hj; simp)⟩
  unfold callF at hk2 ⊢
  unfold s_client_Client_Call
  rcases hw : c.w with _ | ⟨o1, t1⟩
  case some =>
    simp only [hw, ptO_none, ptO_some, Option.isSome_some, if_true] at hT ⊢
    simp -implicitDefEqProofs -dsimp only [go_sem, seval, Cp.cells, hT, eqAv]
    exact fin_wk (r' := .tup [.fz 0 [] none, .i .i64 10]) (Wk.tup ⟨.fz, .refl _, trivial⟩) ⟨rfl, w, h, hfr⟩
  simp only [hw, ptO_none, ptO_some, Option.isSome_none, Bool.false_eq_true, if_false] at hT hk2 ⊢
  rcases hm : mayF o with _ | _
  · rw [hm] at cm
    simp only [if_true]
    simp -implicitDefEqProofs -dsimp only [go_sem, seval, Cp.cells, hT, eqAv, ↓g_call _ _ c_client_May]
    refine CallK.pure cm (aft_nil ?_)
    simp -implicitDefEqProofs -dsimp only [go_sem, seval]
    exact fin_wk (r' := .tup [.fz 0 [] none, .i .i64 1]) (Wk.tup ⟨.fz, .refl _, trivial⟩) ⟨rfl, w, h, hfr⟩
  rw [hm] at cm
  simp only [hm, Bool.true_eq_false, if_false] at hk2 ⊢
  by_cases hs : c.sq = 18446744073709551615
  · have ds : decide ((c.sq : Int) = 18446744073709551615) = true := decide_eq_true (by omega)
    rw [if_pos hs]
    simp -implicitDefEqProofs -dsimp only [go_sem, seval, Cp.cells, hT, eqAv, ↓g_call _ _ c_client_May]
    refine CallK.pure cm (aft_nil ?_)
    simp -implicitDefEqProofs -dsimp only [go_sem, seval, hT, ds]
    exact fin_wk (r' := .tup [.fz 0 [] none, .i .i64 9]) (Wk.tup ⟨.fz, .refl _, trivial⟩) ⟨rfl, w, h, hfr⟩
  have ds : decide ((c.sq : Int) = 18446744073709551615) = false := decide_eq_false (by omega)
  rw [if_neg hs] at hk2 ⊢
  have hsq := hk.sq
  have ws : IntKind.u64.wrap ((c.sq : Int) + 1) = ((c.sq + 1 : Nat) : Int) := (IntWalk.u64_in _ (by omega)).trans (by omega)
  simp -implicitDefEqProofs -dsimp only [go_sem, seval, Cp.cells, hT, eqAv, ↓g_call _ _ c_client_May]
  refine CallK.pure cm (aft_nil ?_)
  simp -implicitDefEqProofs -dsimp only [go_sem, seval, hT, ds, ws]
  refine stS_row hT rfl rfl (by simp) (aft_nil ?_)
  simp -implicitDefEqProofs -dsimp only [go_sem, seval, ↓g_call _ _ c_slices_Clone_entry_Read_entry_Read]
  refine CallK.pure cR (aft_nil ?_)
  simp -implicitDefEqProofs -dsimp only [go_sem, seval, ↓g_call _ _ c_slices_Clone_entry_Write_entry_Write]
  refine CallK.pure cW (aft_nil ?_)
  have hT1 : (T.put id (.row 6 [.i .i64 c.me, .i .i64 c.ma, .ptr r 0, .i .u64 ((c.sq + 1 : Nat) : Int), .nilptr, ptO c.la x])) id = .row 6 [.i .i64 c.me, .i .i64 c.ma, .ptr r 0, .i .u64 ((c.sq + 1 : Nat) : Int), .nilptr, ptO c.la x] := Tab.put_same ..
  simp -implicitDefEqProofs -dsimp only [go_sem, seval, hT1]
  intro w' hw'
  refine aft_nil ?_
  obtain ⟨n1, hw'⟩ := Tab.unused_put hw'
  have hT2 : ((T.put id (.row 6 [.i .i64 c.me, .i .i64 c.ma, .ptr r 0, .i .u64 ((c.sq + 1 : Nat) : Int), .nilptr, ptO c.la x])).put w' (wRow c.me (c.sq + 1) o 0)) id = .row 6 [.i .i64 c.me, .i .i64 c.ma, .ptr r 0, .i .u64 ((c.sq + 1 : Nat) : Int), .nilptr, ptO c.la x] := by
    rw [Tab.put_ne _ _ (Ne.symm n1)]; exact hT1
  simp -implicitDefEqProofs -dsimp only [go_sem, seval]
  refine stS_row hT2 rfl rfl (by simp) (aft_nil ?_)
  have hct : Ct (((T.put id (.row 6 [.i .i64 c.me, .i .i64 c.ma, .ptr r 0, .i .u64 ((c.sq + 1 : Nat) : Int), .nilptr, ptO c.la x])).put w' (wRow c.me (c.sq + 1) o 0)).put id (clRow { c with sq := c.sq + 1, w := some (o, 0) } r w' x)) id r l w' x { c with sq := c.sq + 1, w := some (o, 0) } := by
    have hput : ∀ j, j ≠ id → T j ≠ .unused → ∀ A B C, (((T.put id A).put w' B).put id C) j = T j := fun j h1 h2 A B C => by
      rw [Tab.put_ne _ _ h1, Tab.put_ne _ _ (fun e => by subst e; exact h2 hw'), Tab.put_ne _ _ h1]
    refine ⟨Tab.put_same .., ⟨?_, ?_⟩, ?_, ?_⟩
    · rw [hput r (Ne.symm h.id_r) (by rw [h.rt.1]; simp)]; exact h.rt.1
    · rw [hput l (Ne.symm h.id_l) (by rw [h.rt.2]; simp)]; exact h.rt.2
    · intro q hq
      injection hq with hq
      subst hq
      rw [Tab.put_ne _ _ n1]; exact Tab.put_same ..
    · intro y hy
      obtain ⟨h1, h2⟩ := h.cy y hy
      exact ⟨by rw [hput x (Ne.symm h2) (by rw [h1]; simp [rRow])]; exact h1, h2⟩
  have hF : Fr [id, w] [w'] T (((T.put id (.row 6 [.i .i64 c.me, .i .i64 c.ma, .ptr r 0, .i .u64 ((c.sq + 1 : Nat) : Int), .nilptr, ptO c.la x])).put w' (wRow c.me (c.sq + 1) o 0)).put id (clRow { c with sq := c.sq + 1, w := some (o, 0) } r w' x)) := by
    refine ⟨fun j h1 h2 => ?_, fun j hj => ?_⟩
    · have hj : j ≠ id := fun e => h2 (by simp [e])
      rw [Tab.put_ne _ _ hj, Tab.put_ne _ _ (fun e => by subst e; exact h1 hw'), Tab.put_ne _ _ hj]
    · simp only [List.mem_singleton] at hj
      subst hj
      exact .inr hw'
  generalize hT3 : Tab.put (Tab.put (Tab.put T id _) w' _) id _ = T3
  have hct' : Ct T3 id r l w' x { c with sq := c.sq + 1, w := some (o, 0) } := by rw [← hT3]; exact hct
  have hF' : Fr [id, w] [w'] T T3 := by rw [← hT3]; exact hF
  clear hct hF hT3
  have hac := ac_try hct' rfl hk2
  simp -implicitDefEqProofs -dsimp only [go_sem, seval, ↓g_call _ _ c_client_Client_try]
  refine CallK.of hac fun v T' hv => ?_
  rw [hv.1, hv.2]
  refine aft_nil ?_
  simp -implicitDefEqProofs -dsimp only [go_sem, seval]
  exact finL_of _ (fun _ => .inr (.inl rfl)) ⟨rfl, w', hct', hF'⟩
end Go.Aw

