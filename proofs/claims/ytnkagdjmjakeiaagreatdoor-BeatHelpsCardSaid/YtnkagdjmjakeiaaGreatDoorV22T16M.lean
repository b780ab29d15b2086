import Derived.Test.YtnkagdjmjakeiaaGreatDoorV22T16L
namespace Go.Aw
open Go
open Go.Proofs.Tryz (prog)
set_option linter.all false
set_option maxHeartbeats 4000000
def rf0 : Rf := ⟨0, 0, [], 0⟩
def Rf.ret (r : Rf × Int) : AV := .tup [.agg (r.1.cells none), .i .i64 r.2]
theorem Owns.two {T T' : Tab} {z n : Nat} {v : AV} {xs : List AV} {l : List Ow} (h : Owns T (⟨z, v, n, xs⟩ :: l) T') :
  (v = .fz 0 [] (some 0) /\ n = 0) \/ (∃ id, v = .sl id 0 n none /\ T' id = .row z xs) := by
 obtain ⟨T1, h1, hx, h2⟩ := h
 rcases h2 with ⟨e1, e2, _⟩ | ⟨id, e1, e2, rfl⟩
 ·exact .inl ⟨e1, e2⟩
 ·exact .inr ⟨id, e1, T1.put_same id _⟩
def Rf.may (c : Rf) (n ep : Int) : Bool := c.right && decide (0 <= n) && decide (n <= 7) && decide (c.ep < ep)
def Rf.rest (c : Rf) (n : Int) : List (Int × Bool) := c.l.filter fun m => !decide (m.1 = n)
def Rf.remove (c : Rf) (n ep : Int) : Rf × Int :=
 if c.may n ep = false then (rf0, 1) else
 if c.ln = n then (⟨ep, c.sh, c.rest n, -1⟩, 0) else
 if ixI n (c.l.map (·.1)) < 0 then (rf0, 6) else
 if (c.rest n).length = 0 \/ (((c.rest n)[0]?).getD (0, false)).2 = false then (rf0, 10) else (⟨ep, c.sh, c.rest n, c.ln⟩, 0)
def Rf.learn (c : Rf) (n ep : Int) : Rf × Int :=
 if c.may n ep = false then (rf0, 1) else
 if 0 <= ixI n (c.l.map (·.1)) \/ c.ln = n then (rf0, 7) else
 if 0 <= c.ln then (rf0, 10) else (⟨ep, c.sh, c.l, n⟩, 0)
def Rf.promote (c : Rf) (n ep : Int) : Rf × Int :=
 if c.may n ep = false then (rf0, 1) else
 if ¬ c.ln = n then (rf0, 6) else (⟨ep, c.sh, c.l ++ [(n, false)], -1⟩, 0)
theorem Rf.right_len {c : Rf} (h : c.right = true) : 0 < c.l.length /\ c.l.length <= 8 := by
 simp only [Rf.right, Bool.and_eq_true, Bool.not_eq_true', decide_eq_false_iff_not, Bool.not_eq_false', decide_eq_true_eq] at h
 omega
def Rf.mark (c : Rf) (n : Int) : Rf × Int :=
 if (c.right && decide (0 <= n) && decide (n <= 7)) = false then (rf0, 1) else
 if ixI n (c.l.map (·.1)) < 0 then (rf0, 6) else
 if ((c.l[(ixI n (c.l.map (·.1))).toNat]?).getD (0, false)).2 = true then (rf0, 7) else
 (⟨c.ep, c.sh, c.l.set (ixI n (c.l.map (·.1))).toNat (((c.l[(ixI n (c.l.map (·.1))).toNat]?).getD (0, false)).1, true), c.ln⟩, 0)
end Go.Aw
