import Derived.Test.YtmicojcojlgefaaK29T16C
import Derived.Test.YtmicojcojlgefaaAwD
import Derived.Test.YtmicojcojlgefaaK29S12X
namespace Go.Aw
open Go
open Go.Proofs.Try (prog)
set_option linter.all false

/-- What Plain makes of a chain and its truths. -/
def plainF (fu : List Bool) : List Int → Nat → List (Int × Bool)
  | [], _ => []
  | y :: ys, k => (y, (fu[k]?).getD false) :: plainF fu ys (k + 1)
def Cf.plain (c : Cf) : Rf := ⟨c.ep, c.sh, plainF c.fu c.ch 0, c.ln⟩

end Go.Aw

/-
  Calls with arguments of which less is told; nested slices.
-/
namespace Go.Aw
open Go
variable [Glob]
set_option linter.all false

theorem ACalls.wk {P : Program} {f : FuncId} {xs ys : List AV} {T : Tab} {Q : AV → Tab → Prop} (hw : Wks xs ys) (h : ACalls P f ys T Q) : ACalls P f xs T Q :=
  fun X lam w cargs hr hv => h X lam w cargs hr (hw.vrs hv)
theorem PCalls.wk {P : Program} {f : FuncId} {xs ys : List AV} {r : AV} (hw : Wks xs ys) (h : PCalls P f ys r) : PCalls P f xs r := fun T => (h T).wk hw
theorem Wks.flatMap {α : Type} {f g : α → List AV} : ∀ {l : List α}, (∀ x ∈ l, Wks (f x) (g x)) → Wks (l.flatMap f) (l.flatMap g)
  | [], _ => trivial
  | x :: l, h => by
    simp only [List.flatMap_cons]
    exact (h x (List.mem_cons_self ..)).append (Wks.flatMap fun y hy => h y (List.mem_cons_of_mem _ hy))
theorem Wks.one {x y : AV} (h : Wk x y) : Wks [x] [y] := ⟨h, trivial⟩
theorem Wks.cons {x y : AV} {l m : List AV} (h : Wk x y) (k : Wks l m) : Wks (x :: l) (y :: m) := ⟨h, k⟩
theorem Wks.nil : Wks [] [] := trivial
/-- Behind a 'keep': what is kept is worked out ahead of what follows. -/
def kps (e : Env) (L : Loc) (T : Tab) {K : Env → Loc → Tab → Prop} (_ : Hold K) : Prop := K e L T
theorem AW_keep2 {P : Program} {R : RPost} {e : Env} {L : Loc} {T : Tab} (ts ls : List Nat) : AW P (.keep ts ls) R e L T = kps (keepL ts e) (keepL ls L) T (Hold.mk (a := R .normal)) := rfl
theorem kps_eq {K : Env → Loc → Tab → Prop} {e : Env} {L : Loc} {T : Tab} (h : Hold K) : kps e L T h = K e L T := rfl
attribute [irreducible] kps
attribute [go_sem ↓ 1100] AW_keep2
attribute [go_sem] kps_eq
/-- A text in two: the first piece ends in one state, whichever way it goes. -/
theorem AW_cut {P : Program} {a b : SC} {R : RPost} {e : Env} {L : Loc} {T : Tab} (C : Prop) (E1 : Env) (L1 : Loc) (T1 : Tab) (h1 : ∀ K : Env → Loc → Tab → Prop, (C → K E1 L1 T1) → AW P a (thenR K R) e L T) (h2 : C → AW P b R E1 L1 T1) : AW P (.seq a b) R e L T := by
  have h := h1 (fun e' L' T' => AW P b R e' L' T') h2
  exact h
end Go.Aw

namespace Go.Aw
open Go
open Go.Proofs.Try (prog)
set_option linter.all false
set_option maxHeartbeats 4000000

/-! Letters: the program's (configurations of one kind) and the document's. -/
structure Vt where
  sl : Int
  rd : Int
  nd : Int
  v : Bs
  deriving DecidableEq
def vtC (v : Vt) : List AV := [.i .i64 v.sl, .i .u64 v.rd, .i .i64 v.nd, .s v.v]
def cfC (c : Cf) : List AV := c.cells none none
def rfL (c : Rf) : List AV := c.cells none
def enC (e : En) : List AV := e.cells none none
structure Lt (γ : Type) where
  fk : Int
  fn : Int
  tk : Int
  tn : Int
  k : Int
  sh : Int
  ep : Int
  n : Int
  m : Int
  nd : Int
  fl : Bool
  br : Int
  bn : Int
  vs : List Vt
  cs : List γ
  es : List En
  t : Tx
  cl : Int
  sq : Int
  v : Bs
  q : Int
  co : Int
def Lt.cells {γ : Type} (l : Lt γ) (f : γ → List AV) : List AV :=
  [.i .i64 l.fk, .i .i64 l.fn, .i .i64 l.tk, .i .i64 l.tn, .i .i64 l.k, .i .i64 l.sh, .i .u64 l.ep, .i .i64 l.n, .i .i64 l.m, .i .i64 l.nd, .b l.fl, .i .u64 l.br, .i .i64 l.bn,
    .fz l.vs.length (l.vs.flatMap vtC) none, .fz l.cs.length (l.cs.flatMap f) none, .fz l.es.length (l.es.flatMap enC) none,
    .i .i64 l.t.cl, .i .u64 l.t.sq, .b l.t.pl, .fz l.t.rs.length (l.t.rs.flatMap rdC) none, .fz l.t.ws.length (l.t.ws.flatMap wtC) none,
    .i .i64 l.cl, .i .u64 l.sq, .s l.v, .i .u64 l.q, .i .i64 l.co]
abbrev Lt.cc (l : Lt Cf) : List AV := l.cells cfC
abbrev Lt.rc (l : Lt Rf) : List AV := l.cells rfL
def Lt.ours (l : Lt Rf) : Lt Cf := { l with vs := l.vs.take 20, cs := (l.cs.take 6).map Rf.ours, es := (l.es.take 10).map En.our, t := l.t.our }
def Lt.plain (l : Lt Cf) : Lt Rf := { l with cs := l.cs.map Cf.plain }
/-- Any letter. -/
structure Lt.Wide (l : Lt Rf) : Prop where
  vs : Len l.vs.length
  cs : Len l.cs.length
  es : Len l.es.length
  vv : ∀ v ∈ l.vs, Len v.v.length
  cl : ∀ c ∈ l.cs, Len c.l.length
  et : ∀ e ∈ l.es, e.t.Wide
  t : l.t.Wide
  v : Len l.v.length
/-- One that the law goes on with. -/
structure Lt.Fine (l : Lt Cf) : Prop where
  vs : l.vs.length ≤ 500
  cs : l.cs.length ≤ 10
  es : l.es.length ≤ 10
  vv : ∀ v ∈ l.vs, Len v.v.length
  cl : ∀ c ∈ l.cs, c.ch.length ≤ 1000 ∧ c.fu.length = c.ch.length
  et : ∀ e ∈ l.es, e.t.Fine
  t : l.t.Fine
  v : Len l.v.length
end Go.Aw

