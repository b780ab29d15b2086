import Derived.Test.YtmicojcojlgefaaC29F
namespace Go.Aw
open Go
open Go.Proofs.Try (prog)
set_option linter.all false
set_option maxHeartbeats 8000000
set_option maxRecDepth 8000

/-! Time goes on; something is asked. -/
theorem fin_wk {T : Tab} {r r' : AV} {Q : AV → Tab → Prop} (hw : Wk r r') (hQ : Q r' T) : finL r Q T :=
  ⟨[], T, r', List.nodup_nil, by simp, fun _ => .inr (.inl rfl), by rw [frzt_nil]; exact hw, hQ⟩
theorem ptO_none {α : Type} (w : Nat) : ptO (none : Option α) w = .nilptr := rfl
theorem ptO_some {α : Type} (a : α) (w : Nat) : ptO (some a) w = .ptr w 0 := rfl
theorem row_ne {T : Tab} {a b m n : Nat} {xs ys : List AV} (ha : T a = .row m xs) (hb : T b = .row n ys) (h : m ≠ n) : a ≠ b := fun e => by
  subst e; rw [ha] at hb; injection hb with h1; exact h h1
section
variable {T : Tab} {id r l w x : Nat} {c : Cl}
theorem Ct.id_r (h : Ct T id r l w x c) : id ≠ r := row_ne h.cr h.rt.1 (by decide)
theorem Ct.id_l (h : Ct T id r l w x c) : id ≠ l := row_ne h.cr h.rt.2 (by decide)
theorem Ct.l_w (h : Ct T id r l w x c) {o : Cp × Int} (hw : c.w = some o) : l ≠ w := row_ne h.rt.2 (h.cw _ hw) (by decide)
theorem Ct.x_l (h : Ct T id r l w x c) {y : Cr} (hy : c.la = some y) : x ≠ l := row_ne (h.cy _ hy).1 h.rt.2 (by decide)
end
theorem Fr.put {T : Tab} {fp : List Nat} {w : Nat} {s : Slot} (h : w ∈ fp) : Fr fp [] T (T.put w s) := ⟨fun j _ hj => Tab.put_ne _ _ (fun e => hj (e ▸ h)), fun _ h => by cases h⟩
end Go.Aw

