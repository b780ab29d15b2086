import Derived.Test.YtmicojcojlgefaaK29T16C
import Derived.Test.YtmicojcojlgefaaAwD
namespace Go.Aw
open Go
open Go.Proofs.Try (prog)
set_option linter.all false

/-- What Plain makes of a chain and its truths. -/
def plainF (fu : List Bool) : List Int → Nat → List (Int × Bool)
  | [], _ => []
  | y :: ys, k => (y, (fu[k]?).getD false) :: plainF fu ys (k + 1)
def Cf.plain (c : Cf) : Rf := ⟨c.ep, c.sh, plainF c.fu c.ch 0, c.ln⟩

end Go.Aw

/-
  Calls with arguments of which less is told; nested slices.
-/
namespace Go.Aw
open Go
variable [Glob]
set_option linter.all false

theorem ACalls.wk {P : Program} {f : FuncId} {xs ys : List AV} {T : Tab} {Q : AV → Tab → Prop} (hw : Wks xs ys) (h : ACalls P f ys T Q) : ACalls P f xs T Q :=
  fun X lam w cargs hr hv => h X lam w cargs hr (hw.vrs hv)
theorem PCalls.wk {P : Program} {f : FuncId} {xs ys : List AV} {r : AV} (hw : Wks xs ys) (h : PCalls P f ys r) : PCalls P f xs r := fun T => (h T).wk hw
theorem Wks.flatMap {α : Type} {f g : α → List AV} : ∀ {l : List α}, (∀ x ∈ l, Wks (f x) (g x)) → Wks (l.flatMap f) (l.flatMap g)
  | [], _ => trivial
  | x :: l, h => by
    simp only [List.flatMap_cons]
    exact (h x (List.mem_cons_self ..)).append (Wks.flatMap fun y hy => h y (List.mem_cons_of_mem _ hy))
theorem Wks.one {x y : AV} (h : Wk x y) : Wks [x] [y] := ⟨h, trivial⟩
theorem Wks.cons {x y : AV} {l m : List AV} (h : Wk x y) (k : Wks l m) : Wks (x :: l) (y :: m) := ⟨h, k⟩
theorem Wks.nil : Wks [] [] := trivial
/-- Behind a 'keep': what is kept is worked out ahead of what follows. -/
def kps (e : Env) (L : Loc) (T : Tab) {K : Env → Loc → Tab → Prop} (_ : Hold K) : Prop := K e L T
theorem AW_keep2 {P : Program} {R : RPost} {e : Env} {L : Loc} {T : Tab} (ts ls : List Nat) : AW P (.keep ts ls) R e L T = kps (keepL ts e) (keepL ls L) T (Hold.mk (a := R .normal)) := rfl
theorem kps_eq {K : Env → Loc → Tab → Prop} {e : Env} {L : Loc} {T : Tab} (h : Hold K) : kps e L T h = K e L T := rfl
attribute [irreducible] kps
attribute [go_sem ↓ 1100] AW_keep2
attribute [go_sem] kps_eq
/-- A text in two: the first piece ends in one state, whichever way it goes. -/
theorem AW_cut {P : Program} {a b : SC} {R : RPost} {e : Env} {L : Loc} {T : Tab} (C : Prop) (E1 : Env) (L1 : Loc) (T1 : Tab) (h1 : ∀ K : Env → Loc → Tab → Prop, (C → K E1 L1 T1) → AW P a (thenR K R) e L T) (h2 : C → AW P b R E1 L1 T1) : AW P (.seq a b) R e L T := by
  have h := h1 (fun e' L' T' => AW P b R e' L' T') h2
  exact h
end Go.Aw

