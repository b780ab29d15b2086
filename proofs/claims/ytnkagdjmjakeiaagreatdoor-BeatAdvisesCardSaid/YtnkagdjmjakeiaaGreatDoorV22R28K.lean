import Derived.Test.YtnkagdjmjakeiaaGreatDoorV22R28I
namespace Go.Aw
open Go
open Go.Proofs.Tryz (prog)
set_option linter.all false
set_option maxHeartbeats 4000000
theorem qh6 : ∀ (ps : List (AV × AV)) (k : Nat), (qp4 k ps).length = ps.length * 5
 | [], _ => rfl
 | p :: ps, k => by simp only [qp4, List.length_append, qh6 ps (k + 1), List.length_cons]; simp [cel]; omega
def cf0 (L k : Nat) : Cf := ⟨(k : Int) + 1, k, chn k L L, qll L, -1⟩
def q67 (l : List Cf) : List AV := l.flatMap fun c => c.cells none none
def qus (L k : Nat) : List Cf := (List.range k).map (cf0 L)
theorem qmz (l m : List Cf) : q67 (l ++ m) = q67 l ++ q67 m := by simp [q67]
theorem q4i (l : List Cf) : (q67 l).length = l.length * 5 := by
 induction l with
 | nil => rfl
 | cons c l ih => simp only [q67, List.flatMap_cons, List.length_append, List.length_cons] at *; rw [ih]; simp [Cf.cells]; omega
end Go.Aw
namespace Go.Aw
open Go
open Go.Proofs.Tryz (prog)
set_option linter.all false
set_option maxHeartbeats 4000000
def Rt (T : Tab) (id idL : Nat) (l : List Cf) : Prop := T id = .row 1 [.sl idL 0 l.length none] /\ T idL = .row 5 (q67 l)
theorem Rt.ne {T : Tab} {id idL : Nat} {l : List Cf} (h : Rt T id idL l) : id ≠ idL := fun e => by
 have := h.1; rw [e, h.2] at this; cases this
def Cf.nil : Cf := ⟨0, 0, [], [], 0⟩
def at? (l : List Cf) (k : Int) : Option Cf := if 0 <= k then l[k.toNat]? else none
def cfR (l : List Cf) (k : Int) : AV := match at? l k with
 | some c => .tup [.agg (c.cells none none), .b true]
 | none => .tup [.agg (Cf.nil.cells (some 0) (some 0)), .b false]
def qeb (c : Cf) : Prop := c.ch.length <= 1000000000 /\ c.fu.length <= 1000000000
theorem qjx {l : List Cf} {k : Nat} {c : Cf} (h : l[k]? = some c) : (q67 l).drop (k * 5) = c.cells none none ++ q67 (l.drop (k + 1)) := by
 induction l generalizing k with
 | nil => simp at h
 | cons a l ih =>
  cases k with
  | zero => simp at h; subst h; simp [q67]
  | succ k =>
   have := ih (k := k) (by simpa using h)
   have e : q67 (a :: l) = a.cells none none ++ q67 l := by simp [q67]
   have e5 : (a.cells none none).length = 5 := rfl
   rw [e, List.drop_succ_cons, <- this, show (k + 1) * 5 = (a.cells none none).length + k * 5 by omega, List.drop_length_add_append]
theorem qty {l : List Cf} {k : Nat} (h : k < l.length) (c : Cf) : N4 (q67 l) (k * 5) (c.cells none none) = q67 (l.set k c) := by
 induction l generalizing k with
 | nil => simp at h
 | cons a l ih =>
  have e : ∀ (a : Cf) (l : List Cf), q67 (a :: l) = a.cells none none ++ q67 l := fun a l => by simp [q67]
  cases k with
  | zero => simp [e, N4, Cf.cells]
  | succ k =>
   have := ih (k := k) (by simpa using h)
   simp only [N4] at this ⊢
   rw [List.set_cons_succ, e, e, <- this]
   have e5 : (a.cells none none).length = 5 := rfl
   rw [show (k + 1) * 5 = (a.cells none none).length + k * 5 by omega, List.take_length_add_append, Nat.add_assoc, List.drop_length_add_append]
   simp only [List.append_assoc]
end Go.Aw
