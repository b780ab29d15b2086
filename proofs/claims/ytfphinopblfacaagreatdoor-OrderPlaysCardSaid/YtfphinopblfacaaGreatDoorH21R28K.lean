import Derived.Test.YtfphinopblfacaaGreatDoorH21R28J
namespace Go.Aw
open Go
open Go.Proofs.Tryz (prog)
set_option linter.all false
set_option maxHeartbeats 4000000

/-- A route: its own row, and the row of what it knows. -/
def Rt (T : Tab) (id idL : Nat) (l : List Cf) : Prop := T id = .row 1 [.sl idL 0 l.length none] ∧ T idL = .row 5 (cfsC l)
theorem Rt.ne {T : Tab} {id idL : Nat} {l : List Cf} (h : Rt T id idL l) : id ≠ idL := fun e => by
  have := h.1; rw [e, h.2] at this; cases this

def RnQ (T : Tab) (S L : Nat) (r : AV) (T' : Tab) : Prop := ∃ id idL, r = .ptr id 0 ∧ Rt T' id idL (cfs0 L S) ∧ T idL = .unused ∧ ∀ j, SlotLe (T j) (T' j)

def Cf.nil : Cf := ⟨0, 0, [], [], 0⟩
def at? (l : List Cf) (k : Int) : Option Cf := if 0 ≤ k then l[k.toNat]? else none
def cfR (l : List Cf) (k : Int) : AV := match at? l k with
  | some c => .tup [.agg (c.cells none none), .b true]
  | none => .tup [.agg (Cf.nil.cells (some 0) (some 0)), .b false]
def Small (c : Cf) : Prop := c.ch.length ≤ 1000000000 ∧ c.fu.length ≤ 1000000000

theorem cfsC_at {l : List Cf} {k : Nat} {c : Cf} (h : l[k]? = some c) : (cfsC l).drop (k * 5) = c.cells none none ++ cfsC (l.drop (k + 1)) := by
  induction l generalizing k with
  | nil => simp at h
  | cons a l ih =>
    cases k with
    | zero => simp at h; subst h; simp [cfsC]
    | succ k =>
      have := ih (k := k) (by simpa using h)
      have e : cfsC (a :: l) = a.cells none none ++ cfsC l := by simp [cfsC]
      have e5 : (a.cells none none).length = 5 := rfl
      rw [e, List.drop_succ_cons, ← this, show (k + 1) * 5 = (a.cells none none).length + k * 5 by omega, List.drop_length_add_append]

def lrn (l : List Cf) (c : Cf) : Bool := match at? l c.sh with
  | some o => c.right && decide (o.ep < c.ep)
  | none => false
def lrnd (l : List Cf) (c : Cf) : List Cf := if lrn l c = true then l.set c.sh.toNat c else l

theorem cfsC_set {l : List Cf} {k : Nat} (h : k < l.length) (c : Cf) : stCells (cfsC l) (k * 5) (c.cells none none) = cfsC (l.set k c) := by
  induction l generalizing k with
  | nil => simp at h
  | cons a l ih =>
    have e : ∀ (a : Cf) (l : List Cf), cfsC (a :: l) = a.cells none none ++ cfsC l := fun a l => by simp [cfsC]
    cases k with
    | zero => simp [e, stCells, Cf.cells]
    | succ k =>
      have := ih (k := k) (by simpa using h)
      simp only [stCells] at this ⊢
      rw [List.set_cons_succ, e, e, ← this]
      have e5 : (a.cells none none).length = 5 := rfl
      rw [show (k + 1) * 5 = (a.cells none none).length + k * 5 by omega, List.take_length_add_append, Nat.add_assoc, List.drop_length_add_append]
      simp only [List.append_assoc]

end Go.Aw
