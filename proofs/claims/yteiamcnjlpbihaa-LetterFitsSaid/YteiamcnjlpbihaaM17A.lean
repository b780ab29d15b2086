import Derived.Test.YteiamcnjlpbihaaL17T16C
import Derived.Test.YteiamcnjlpbihaaAwD
import Derived.Test.YteiamcnjlpbihaaL17S12X
import Derived.Test.YteiamcnjlpbihaaL17S12S
namespace Go.Aw
open Go
open Go.Proofs.Try (prog)
set_option linter.all false

/-- What Plain makes of a chain and its truths. -/
def plainF (fu : List Bool) : List Int → Nat → List (Int × Bool)
  | [], _ => []
  | y :: ys, k => (y, (fu[k]?).getD false) :: plainF fu ys (k + 1)
def Cf.plain (c : Cf) : Rf := ⟨c.ep, c.sh, plainF c.fu c.ch 0, c.ln⟩

theorem plainF_length (fu : List Bool) : ∀ (l : List Int) (k : Nat), (plainF fu l k).length = l.length
  | [], _ => rfl
  | _ :: l, k => by simp [plainF, plainF_length fu l (k + 1)]

theorem lp_Plain {R : RPost} (hR : ExtR R) {T : Tab} {c : Cf} {k1 k2 : Option Nat} (hl : c.ch.length < 1000000000) : ∀ (ys : List Int) (k : Nat), c.ch.drop k = ys → k ≤ c.ch.length → ∀ (v : AV) (T1 : Tab) (acc : List (Int × Bool)),
    acc.length = k → Owns T [⟨2, v, k, mem acc⟩] T1 →
    (∀ v T1, Owns T [⟨2, v, c.ch.length, mem (acc ++ plainF c.fu ys k)⟩] T1 →
      R (.exit 0) [(1, .lp 1 0), (2, .lp 2 0), (3, .lp 3 0), (14, .fz c.ch.length (ints c.ch) k1), (15, .i .i64 c.ch.length), (16, .i .i64 c.ch.length), (17, .b false)]
        [(1, c.cells k1 k2), (2, [.i .u64 0, .i .i64 0, .fz 0 [] (some 0), .i .i64 0]), (3, [.i .u64 c.ep, .i .i64 c.sh, v, .i .i64 c.ln])] T1) →
    AW prog sautoirlaw16_Plain_l0 R [(1, .lp 1 0), (2, .lp 2 0), (3, .lp 3 0), (14, .fz c.ch.length (ints c.ch) k1), (15, .i .i64 c.ch.length), (16, .i .i64 k)]
        [(1, c.cells k1 k2), (2, [.i .u64 0, .i .i64 0, .fz 0 [] (some 0), .i .i64 0]), (3, [.i .u64 c.ep, .i .i64 c.sh, v, .i .i64 c.ln])] T1 := by
  intro ys
  induction ys with
  | nil =>
    intro k hk hle v T1 acc hacc how h2
    have hk' := drop_nil hk hle
    refine AW_loopD (l := sautoirlaw16_Plain_l0) rfl hR ?_
    unfold sautoirlaw16_Plain_l0b
    simp -implicitDefEqProofs -dsimp only [go_sem, seval, hk', Int.lt_irrefl]
    have := h2 v T1 (by rw [hk']; simpa [plainF] using how)
    rw [hk'] at this
    exact this
  | cons y ys ih =>
    intro k hk hle v T1 acc hacc how h2
    obtain ⟨hlt, hy, hk'⟩ := drop_lt hk
    obtain ⟨p1, p2, p3, p4, p5, p6⟩ := how.form (List.mem_cons_self ..)
    simp only at p1 p2 p3 p4 p5 p6
    refine AW_loopD (l := sautoirlaw16_Plain_l0) rfl hR ?_
    unfold sautoirlaw16_Plain_l0b
    simp -implicitDefEqProofs -dsimp only [go_sem, seval, Int.ofNat_lt, hlt, Int.natCast_nonneg, Int.toNat_natCast, ints_at, hy, p1, p2, p3, p4, p5, p6, Cf.cells]
    have fin : ∀ (b : Bool), (c.fu[k]?).getD false = b → ∀ K : AV → Tab → Prop, (∀ v' T2, Owns T [⟨2, v', k + 1, mem (acc ++ [(y, b)])⟩] T2 → K v' T2) →
        appStep 2 16 T1 v (.fz 1 [.i .i64 y, .b b] (some 1)) K := fun b hb K hK => by
      refine how.app (m := 1) (news := mem [(y, b)]) (by simp [slCells, mem]) rfl (by simp only; omega) (by simp only; omega) fun v' T2 h' => hK v' T2 ?_
      simpa [mem_append] using h'
    have next : ∀ (b : Bool), (c.fu[k]?).getD false = b → ∀ v' T2, Owns T [⟨2, v', k + 1, mem (acc ++ [(y, b)])⟩] T2 →
        AW prog sautoirlaw16_Plain_l0 R [(1, .lp 1 0), (2, .lp 2 0), (3, .lp 3 0), (14, .fz c.ch.length (ints c.ch) k1), (15, .i .i64 c.ch.length), (16, .i .i64 ((k + 1 : Nat) : Int))]
          [(1, c.cells k1 k2), (2, [.i .u64 0, .i .i64 0, .fz 0 [] (some 0), .i .i64 0]), (3, [.i .u64 c.ep, .i .i64 c.sh, v', .i .i64 c.ln])] T2 := fun b hb v' T2 h' => by
      refine ih (k + 1) hk' hlt v' T2 (acc ++ [(y, b)]) (by simp [hacc]) h' fun v'' T3 h'' => h2 v'' T3 ?_
      simpa [plainF, hb] using h''
    refine br_split (fun h => ?_) (fun h => ?_)
    · have hlt2 := of_decide_eq_true h
      have hb : c.fu[k]? = some c.fu[k] := List.getElem?_eq_getElem hlt2
      simp -implicitDefEqProofs -dsimp only [go_sem, seval, h, Cf.cells, Int.ofNat_lt, hlt2, Int.natCast_nonneg, Int.toNat_natCast, bools_at, hb, p1, p2, p3, p4, p5, p6]
      refine fin c.fu[k] (by simp [hb]) _ fun v' T2 h' => ?_
      refine aft_nil ?_
      obtain ⟨q1, q2, q3, q4, q5, q6⟩ := h'.form (List.mem_cons_self ..)
      simp only at q1 q2 q3 q4 q5 q6
      simp -implicitDefEqProofs -dsimp only [go_sem, seval, q1, q2, q3, q4, q5, q6]
      rw [wrap_succ (by omega)]
      exact next c.fu[k] (by simp [hb]) v' T2 h'
    · have hlt2 := of_decide_eq_false h
      have hb : c.fu[k]? = none := by simp; omega
      simp -implicitDefEqProofs -dsimp only [go_sem, seval, h, p1, p2, p3, p4, p5, p6]
      refine fin false (by simp [hb]) _ fun v' T2 h' => ?_
      refine aft_nil ?_
      obtain ⟨q1, q2, q3, q4, q5, q6⟩ := h'.form (List.mem_cons_self ..)
      simp only at q1 q2 q3 q4 q5 q6
      simp -implicitDefEqProofs -dsimp only [go_sem, seval, q1, q2, q3, q4, q5, q6]
      rw [wrap_succ (by omega)]
      exact next false (by simp [hb]) v' T2 h'

theorem pc_Plain (c : Cf) (k1 k2 : Option Nat) (hl : c.ch.length < 1000000000) : PCalls prog f_sautoirlaw16_Plain [.agg (c.cells k1 k2)] (.agg (c.plain.cells none)) := by
  refine pcalls_of mixed t_sautoirlaw16_Plain (by simp) fun T => ?_
  unfold s_sautoirlaw16_Plain
  simp -implicitDefEqProofs -dsimp only [go_sem, seval, Cf.cells]
  refine lp_Plain (T := T) (c := c) (k1 := k1) (k2 := k2) (by repeat' (first | exact finX_ext _ _ | assumption | apply blkR_ext | apply thenR_ext | apply AW_ext)) hl c.ch 0 rfl (by omega) _ T [] rfl ?_ (fun v1 T1 how => ?_)
  · exact ⟨T, rfl, .nil T 2⟩
  · obtain ⟨p1, p2, p3, p4, p5, p6⟩ := how.form (List.mem_cons_self ..)
    simp only at p1 p2 p3 p4 p5 p6
    simp -implicitDefEqProofs -dsimp only [go_sem, seval, p1, p2, p3, p4, p5, p6]
    refine finL_owns how fun S hS => ?_
    obtain ⟨c1, e1⟩ := hS _ (List.mem_cons_self ..)
    simp only at e1
    simp only [frzt, frzv, List.map_cons, List.map_nil, e1, frz1_i]
    refine Wk.agg ?_
    simp only [Cf.plain, Rf.cells, plainF_length, List.nil_append]
    exact ⟨.refl _, .refl _, .fz, .refl _, trivial⟩
end Go.Aw

/-
  Calls with arguments of which less is told; nested slices.
-/
namespace Go.Aw
open Go
variable [Glob]
set_option linter.all false

theorem ACalls.wk {P : Program} {f : FuncId} {xs ys : List AV} {T : Tab} {Q : AV → Tab → Prop} (hw : Wks xs ys) (h : ACalls P f ys T Q) : ACalls P f xs T Q :=
  fun X lam w cargs hr hv => h X lam w cargs hr (hw.vrs hv)
theorem PCalls.wk {P : Program} {f : FuncId} {xs ys : List AV} {r : AV} (hw : Wks xs ys) (h : PCalls P f ys r) : PCalls P f xs r := fun T => (h T).wk hw
theorem PCalls.wkr {P : Program} {f : FuncId} {xs : List AV} {r r' : AV} (h : PCalls P f xs r) (hw : Wk r r') : PCalls P f xs r' := fun T X lam w cargs hr hv =>
  (h T X lam w cargs hr hv).mono fun _ _ ⟨v, x, T', X', lam', h1, ⟨h2, h2'⟩, h3, h4, h5⟩ => ⟨v, r', T', X', lam', h1, ⟨rfl, h2'⟩, by subst h2; exact hw _ _ _ h3, h4, h5⟩
theorem Wks.flatMap {α : Type} {f g : α → List AV} : ∀ {l : List α}, (∀ x ∈ l, Wks (f x) (g x)) → Wks (l.flatMap f) (l.flatMap g)
  | [], _ => trivial
  | x :: l, h => by
    simp only [List.flatMap_cons]
    exact (h x (List.mem_cons_self ..)).append (Wks.flatMap fun y hy => h y (List.mem_cons_of_mem _ hy))
theorem Wks.one {x y : AV} (h : Wk x y) : Wks [x] [y] := ⟨h, trivial⟩
theorem Wks.cons {x y : AV} {l m : List AV} (h : Wk x y) (k : Wks l m) : Wks (x :: l) (y :: m) := ⟨h, k⟩
theorem Wks.nil : Wks [] [] := trivial
theorem Wk.fz0 {n : Nat} {c : Option Nat} (h : n = 0) : Wk (.fz 0 [] c) (.fz n [] none) := by subst h; exact .fz
/-- Behind a 'keep': what is kept is worked out ahead of what follows. -/
def kps (e : Env) (L : Loc) (T : Tab) {K : Env → Loc → Tab → Prop} (_ : Hold K) : Prop := K e L T
theorem AW_keep2 {P : Program} {R : RPost} {e : Env} {L : Loc} {T : Tab} (ts ls : List Nat) : AW P (.keep ts ls) R e L T = kps (keepL ts e) (keepL ls L) T (Hold.mk (a := R .normal)) := rfl
theorem kps_eq {K : Env → Loc → Tab → Prop} {e : Env} {L : Loc} {T : Tab} (h : Hold K) : kps e L T h = K e L T := rfl
attribute [irreducible] kps
attribute [go_sem ↓ 1100] AW_keep2
attribute [go_sem] kps_eq
/-- A text in two: the first piece ends in one state, whichever way it goes. -/
theorem AW_cut {P : Program} {a b : SC} {R : RPost} {e : Env} {L : Loc} {T : Tab} (C : Prop) (E1 : Env) (L1 : Loc) (T1 : Tab) (h1 : ∀ K : Env → Loc → Tab → Prop, (C → K E1 L1 T1) → AW P a (thenR K R) e L T) (h2 : C → AW P b R E1 L1 T1) : AW P (.seq a b) R e L T := by
  have h := h1 (fun e' L' T' => AW P b R e' L' T') h2
  exact h
end Go.Aw

namespace Go.Aw
open Go
open Go.Proofs.Try (prog)
set_option linter.all false
set_option maxHeartbeats 4000000

/-! Letters: the program's (configurations of one kind) and the document's. -/
structure Vt where
  sl : Int
  rd : Int
  nd : Int
  v : Bs
  deriving DecidableEq
def vtC (v : Vt) : List AV := [.i .i64 v.sl, .i .u64 v.rd, .i .i64 v.nd, .s v.v]
theorem vtC_len (r : Vt) : (vtC r).length = 4 := rfl
def cfC (c : Cf) : List AV := c.cells none none
theorem cfC_len (c : Cf) : (cfC c).length = 5 := rfl
def rfL (c : Rf) : List AV := c.cells none
theorem rfL_len (c : Rf) : (rfL c).length = 4 := rfl
def enC (e : En) : List AV := e.cells none none
theorem enC_len (e : En) : (enC e).length = 10 := rfl
structure Lt (γ : Type) where
  fk : Int
  fn : Int
  tk : Int
  tn : Int
  k : Int
  sh : Int
  ep : Int
  n : Int
  m : Int
  nd : Int
  fl : Bool
  br : Int
  bn : Int
  vs : List Vt
  cs : List γ
  es : List En
  t : Tx
  cl : Int
  sq : Int
  v : Bs
  q : Int
  co : Int
def Lt.cells {γ : Type} (l : Lt γ) (f : γ → List AV) : List AV :=
  [.i .i64 l.fk, .i .i64 l.fn, .i .i64 l.tk, .i .i64 l.tn, .i .i64 l.k, .i .i64 l.sh, .i .u64 l.ep, .i .i64 l.n, .i .i64 l.m, .i .i64 l.nd, .b l.fl, .i .u64 l.br, .i .i64 l.bn,
    .fz l.vs.length (l.vs.flatMap vtC) none, .fz l.cs.length (l.cs.flatMap f) none, .fz l.es.length (l.es.flatMap enC) none,
    .i .i64 l.t.cl, .i .u64 l.t.sq, .b l.t.pl, .fz l.t.rs.length (l.t.rs.flatMap rdC) none, .fz l.t.ws.length (l.t.ws.flatMap wtC) none,
    .i .i64 l.cl, .i .u64 l.sq, .s l.v, .i .u64 l.q, .i .i64 l.co]
abbrev Lt.cc (l : Lt Cf) : List AV := l.cells cfC
abbrev Lt.rc (l : Lt Rf) : List AV := l.cells rfL
def Lt.ours (l : Lt Rf) : Lt Cf := { l with vs := l.vs.take 20, cs := (l.cs.take 6).map Rf.ours, es := (l.es.take 10).map En.our, t := l.t.our }
def Lt.plain (l : Lt Cf) : Lt Rf := { l with cs := l.cs.map Cf.plain }
/-- Any letter. -/
structure Lt.Wide (l : Lt Rf) : Prop where
  vs : Len l.vs.length
  cs : Len l.cs.length
  es : Len l.es.length
  vv : ∀ v ∈ l.vs, Len v.v.length
  cl : ∀ c ∈ l.cs, Len c.l.length
  et : ∀ e ∈ l.es, e.t.Wide
  t : l.t.Wide
  v : Len l.v.length
/-- One that the law goes on with. -/
structure Lt.Fine (l : Lt Cf) : Prop where
  vs : l.vs.length ≤ 500
  cs : l.cs.length ≤ 10
  es : l.es.length ≤ 10
  vv : ∀ v ∈ l.vs, Len v.v.length
  cl : ∀ c ∈ l.cs, c.ch.length ≤ 1000 ∧ c.fu.length = c.ch.length
  et : ∀ e ∈ l.es, e.t.Fine
  t : l.t.Fine
  v : Len l.v.length
end Go.Aw
