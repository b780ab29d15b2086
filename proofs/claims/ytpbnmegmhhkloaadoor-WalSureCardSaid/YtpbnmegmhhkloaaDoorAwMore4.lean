import Derived.Test.YtpbnmegmhhkloaaDoorAwD
namespace Go.Aw
open Go
variable [Glob]
set_option linter.all false
theorem ACalls.wk {P : Program} {f : FuncId} {xs ys : List AV} {T : Tab} {Q : AV -> Tab -> Prop} (hw : Wks xs ys) (h : ACalls P f ys T Q) : ACalls P f xs T Q :=
 fun X lam w cargs hr hv => h X lam w cargs hr (hw.vrs hv)
theorem PCalls.wk {P : Program} {f : FuncId} {xs ys : List AV} {r : AV} (hw : Wks xs ys) (h : PCalls P f ys r) : PCalls P f xs r := fun T => (h T).wk hw
theorem Wks.flatMap {α : Type} {f g : α -> List AV} : ∀ {l : List α}, (∀ x ∈ l, Wks (f x) (g x)) -> Wks (l.flatMap f) (l.flatMap g)
 | [], _ => trivial
 | x :: l, h => by
  simp only [List.flatMap_cons]
  exact (h x (List.mem_cons_self ..)).append (Wks.flatMap fun y hy => h y (List.mem_cons_of_mem _ hy))
theorem Wks.one {x y : AV} (h : Wk x y) : Wks [x] [y] := ⟨h, trivial⟩
theorem Wks.cons {x y : AV} {l m : List AV} (h : Wk x y) (k : Wks l m) : Wks (x :: l) (y :: m) := ⟨h, k⟩
theorem Wks.nil : Wks [] [] := trivial
def kps (e : Env) (L : Loc) (T : Tab) {K : Env -> Loc -> Tab -> Prop} (_ : Hold K) : Prop := K e L T
theorem qmo {P : Program} {R : Z1} {e : Env} {L : Loc} {T : Tab} (ts ls : List Nat) : AW P (.keep ts ls) R e L T = kps (q3y ts e) (q3y ls L) T (Hold.mk (a := R .normal)) := rfl
theorem qsw {K : Env -> Loc -> Tab -> Prop} {e : Env} {L : Loc} {T : Tab} (h : Hold K) : kps e L T h = K e L T := rfl
attribute [irreducible] kps
attribute [go_sem ↓ 1100] qmo
attribute [go_sem] qsw
end Go.Aw
