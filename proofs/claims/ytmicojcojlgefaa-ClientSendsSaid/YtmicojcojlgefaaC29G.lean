import Derived.Test.YtmicojcojlgefaaC29F
namespace Go.Aw
open Go
open Go.Proofs.Try (prog)
set_option linter.all false
set_option maxHeartbeats 8000000
set_option maxRecDepth 8000

/-! Time goes on; something is asked. -/
theorem fin_wk {T : Tab} {r r' : AV} {Q : AV → Tab → Prop} (hw : Wk r r') (hQ : Q r' T) : finL r Q T :=
  ⟨[], T, r', List.nodup_nil, by simp, fun _ => .inr (.inl rfl), by rw [frzt_nil]; exact hw, hQ⟩
theorem ptO_none {α : Type} (w : Nat) : ptO (none : Option α) w = .nilptr := rfl
theorem ptO_some {α : Type} (a : α) (w : Nat) : ptO (some a) w = .ptr w 0 := rfl
theorem row_ne {T : Tab} {a b m n : Nat} {xs ys : List AV} (ha : T a = .row m xs) (hb : T b = .row n ys) (h : m ≠ n) : a ≠ b := fun e => by
  subst e; rw [ha] at hb; injection hb with h1; exact h h1
section
variable {T : Tab} {id r l w x : Nat} {c : Cl}
theorem Ct.id_r (h : Ct T id r l w x c) : id ≠ r := row_ne h.cr h.rt.1 (by decide)
theorem Ct.id_l (h : Ct T id r l w x c) : id ≠ l := row_ne h.cr h.rt.2 (by decide)
theorem Ct.id_w (h : Ct T id r l w x c) {o : Cp × Int} (hw : c.w = some o) : id ≠ w := row_ne h.cr (h.cw _ hw) (by decide)
theorem Ct.r_w (h : Ct T id r l w x c) {o : Cp × Int} (hw : c.w = some o) : r ≠ w := row_ne h.rt.1 (h.cw _ hw) (by decide)
theorem Ct.l_w (h : Ct T id r l w x c) {o : Cp × Int} (hw : c.w = some o) : l ≠ w := row_ne h.rt.2 (h.cw _ hw) (by decide)
theorem Ct.x_w (h : Ct T id r l w x c) {o : Cp × Int} (hw : c.w = some o) {y : Cr} (hy : c.la = some y) : x ≠ w := row_ne (h.cy _ hy).1 (h.cw _ hw) (by decide)
theorem Ct.x_l (h : Ct T id r l w x c) {y : Cr} (hy : c.la = some y) : x ≠ l := row_ne (h.cy _ hy).1 h.rt.2 (by decide)
theorem Ct.tick (h : Ct T id r l w x c) {o : Cp} {t : Int} (hw : c.w = some (o, t)) (t' : Int) : Ct (T.put w (wRow c.me c.sq o t')) id r l w x { c with w := some (o, t') } := by
  refine ⟨?_, ⟨?_, ?_⟩, ?_, ?_⟩
  · rw [Tab.put_ne _ _ (h.id_w hw), h.cr]; simp only [clRow, hw, ptO_some]
  · rw [Tab.put_ne _ _ (h.r_w hw)]; exact h.rt.1
  · rw [Tab.put_ne _ _ (h.l_w hw)]; exact h.rt.2
  · intro q hq
    injection hq with hq
    subst hq
    exact Tab.put_same ..
  · intro y hy
    obtain ⟨h1, h2⟩ := h.cy y hy
    exact ⟨by rw [Tab.put_ne _ _ (h.x_w hw hy)]; exact h1, h2⟩
end
theorem Fr.put {T : Tab} {fp : List Nat} {w : Nat} {s : Slot} (h : w ∈ fp) : Fr fp [] T (T.put w s) := ⟨fun j _ hj => Tab.put_ne _ _ (fun e => hj (e ▸ h)), fun _ h => by cases h⟩
def tickF (c : Cl) : Cl × List (Lt Cf) := match c.w with
  | none => (c, [])
  | some (o, t) => ({ c with w := some (o, t + 1) }, tryL c o (t + 1))
theorem tryL_w (c : Cl) (w : Option (Cp × Int)) (o : Cp) (t : Int) : tryL { c with w := w } o t = tryL c o t := rfl
theorem ac_Tick {T : Tab} {id r l w x : Nat} {c : Cl} (h : Ct T id r l w x c) (hk : c.Ok) (hk2 : (tickF c).1.Ok) :
    ACalls prog f_client_Client_Tick [.ptr id 0] T (fun v T' => v = .fz (tickF c).2.length ((tickF c).2.flatMap Lt.kc) none ∧ Ct T' id r l w x (tickF c).1 ∧ Fr [w] [] T T' ∧ (c.w = none → T' = T)) := by
  refine acalls_of mixed t_client_Client_Tick (by simp) ?_
  have hT := h.cr
  simp only [clRow] at hT
  unfold tickF at hk2 ⊢
  unfold s_client_Client_Tick
  rcases hw : c.w with _ | ⟨o, t⟩
  · simp only [hw, ptO_none, ptO_some] at hT ⊢
    simp -implicitDefEqProofs -dsimp only [go_sem, seval, hT, eqAv, ↓g_gdc, rcOk, true_and]
    exact fin_wk .fz ⟨rfl, h, ⟨fun _ _ _ => rfl, fun _ h => by cases h⟩, fun _ => rfl⟩
  · simp only [hw, ptO_none, ptO_some] at hT hk2 ⊢
    have hW := h.cw _ hw
    have ht := (hk.w _ hw).2
    simp only at ht hW
    have hct := h.tick hw (t + 1)
    have hW2 := hW
    simp only [wRow] at hW2
    have w1 : IntKind.i64.wrap (t + 1) = t + 1 := wrap_i64 (by unfold I64; omega)
    have hac := ac_try hct rfl hk2
    rw [tryL_w] at hac
    simp -implicitDefEqProofs -dsimp only [go_sem, seval, hT, hW2, eqAv, ↓g_gdc, rcOk, true_and, w1]
    refine stS_row hW2 rfl rfl (by simp) (aft_nil ?_)
    simp -implicitDefEqProofs -dsimp only [go_sem, seval, ↓g_call _ _ c_client_Client_try]
    refine CallK.of hac fun v T' hv => ?_
    rw [hv.1, hv.2]
    refine aft_nil ?_
    simp -implicitDefEqProofs -dsimp only [go_sem, seval]
    exact finL_of _ (fun _ => .inr (.inl rfl)) ⟨rfl, hct, Fr.put (by simp), fun e => by cases e⟩
end Go.Aw

