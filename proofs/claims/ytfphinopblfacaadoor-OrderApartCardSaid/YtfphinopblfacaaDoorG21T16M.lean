import Derived.Test.YtfphinopblfacaaDoorG21T16L
namespace Go.Aw
open Go
open Go.Proofs.Tryd (prog)
set_option linter.all false
set_option maxHeartbeats 4000000

def rf0 : Rf := ⟨0, 0, [], 0⟩
def Rf.ret (r : Rf × Int) : AV := .tup [.agg (r.1.cells none), .i .i64 r.2]
theorem Wks.rf {a b c : AV} {n : Nat} {x : List AV} {k1 : Option Nat} : Wks [a, b, .fz n x k1, c] [a, b, .fz n x none, c] := ⟨.refl _, .refl _, .fz, .refl _, trivial⟩
theorem wk_rret {r : Rf × Int} {k : Option Nat} : Wk (.tup [.agg (r.1.cells k), .i .i64 r.2]) (Rf.ret r) := Wk.tup ⟨Wk.agg Wks.rf, .refl _, trivial⟩
theorem wk_rret0 (e : Int) : Wk (.tup [.agg (rf0.cells (some 0)), .i .i64 e]) (Rf.ret (rf0, e)) := wk_rret (r := (rf0, e))
theorem fin_rret0 {T T' : Tab} {l : List Ow} (h : Owns T l T') (e : Int) : finL (.tup [.agg (rf0.cells (some 0)), .i .i64 e]) (fun v T' => v = Rf.ret (rf0, e) ∧ T' = T) T' :=
  finL_owns h fun S _ => wk_rret0 e
theorem fin_rret {T T' : Tab} {v1 : AV} {l : List Ow} {r : Rf × Int} {ep sh ln e : Int} {ms : List (Int × Bool)} {n : Nat} (h : Owns T l T') (hr : r = (⟨ep, sh, ms, ln⟩, e)) (h1 : ⟨2, v1, n, mem ms⟩ ∈ l)
    (hn : ms.length = n) : finL (.tup [.agg [.i .u64 ep, .i .i64 sh, v1, .i .i64 ln], .i .i64 e]) (fun v T' => v = Rf.ret r ∧ T' = T) T' := by
  subst hn; subst hr
  refine finL_owns h fun S hS => ?_
  obtain ⟨c1, e1⟩ := hS _ h1
  simp only at e1
  simp only [frzt, frzv, List.map_cons, List.map_nil, e1, frz1_i]
  exact Wk.tup ⟨Wk.agg Wks.rf, .refl _, trivial⟩

theorem Owns.two {T T' : Tab} {z n : Nat} {v : AV} {xs : List AV} {l : List Ow} (h : Owns T (⟨z, v, n, xs⟩ :: l) T') :
    (v = .fz 0 [] (some 0) ∧ n = 0) ∨ (∃ id, v = .sl id 0 n none ∧ T' id = .row z xs) := by
  obtain ⟨T1, h1, hx, h2⟩ := h
  rcases h2 with ⟨e1, e2, _⟩ | ⟨id, e1, e2, rfl⟩
  · exact .inl ⟨e1, e2⟩
  · exact .inr ⟨id, e1, T1.put_same id _⟩

def Rf.may (c : Rf) (n ep : Int) : Bool := c.right && decide (0 ≤ n) && decide (n ≤ 7) && decide (c.ep < ep)

def Rf.rest (c : Rf) (n : Int) : List (Int × Bool) := c.l.filter fun m => !decide (m.1 = n)
def Rf.remove (c : Rf) (n ep : Int) : Rf × Int :=
  if c.may n ep = false then (rf0, 1) else
  if c.ln = n then (⟨ep, c.sh, c.rest n, -1⟩, 0) else
  if ixI n (c.l.map (·.1)) < 0 then (rf0, 6) else
  if (c.rest n).length = 0 ∨ (((c.rest n)[0]?).getD (0, false)).2 = false then (rf0, 10) else (⟨ep, c.sh, c.rest n, c.ln⟩, 0)

def Rf.learn (c : Rf) (n ep : Int) : Rf × Int :=
  if c.may n ep = false then (rf0, 1) else
  if 0 ≤ ixI n (c.l.map (·.1)) ∨ c.ln = n then (rf0, 7) else
  if 0 ≤ c.ln then (rf0, 10) else (⟨ep, c.sh, c.l, n⟩, 0)

def Rf.promote (c : Rf) (n ep : Int) : Rf × Int :=
  if c.may n ep = false then (rf0, 1) else
  if ¬ c.ln = n then (rf0, 6) else (⟨ep, c.sh, c.l ++ [(n, false)], -1⟩, 0)

theorem mem_all (c : Rf) {T : Tab} {k : Option Nat} : slCells T 2 (.fz c.l.length (mem c.l) k) = some (mem c.l) := by simp [slCells, mem_length]

theorem Rf.right_len {c : Rf} (h : c.right = true) : 0 < c.l.length ∧ c.l.length ≤ 8 := by
  simp only [Rf.right, Bool.and_eq_true, Bool.not_eq_true', decide_eq_false_iff_not, Bool.not_eq_false', decide_eq_true_eq] at h
  omega

def Rf.mark (c : Rf) (n : Int) : Rf × Int :=
  if (c.right && decide (0 ≤ n) && decide (n ≤ 7)) = false then (rf0, 1) else
  if ixI n (c.l.map (·.1)) < 0 then (rf0, 6) else
  if ((c.l[(ixI n (c.l.map (·.1))).toNat]?).getD (0, false)).2 = true then (rf0, 7) else
  (⟨c.ep, c.sh, c.l.set (ixI n (c.l.map (·.1))).toNat (((c.l[(ixI n (c.l.map (·.1))).toNat]?).getD (0, false)).1, true), c.ln⟩, 0)

theorem mem_set : ∀ (l : List (Int × Bool)) (k : Nat) (m : Int × Bool), l[k]? = some m → stCells (mem l) (k * 2 + 1) [.b true] = mem (l.set k (m.1, true))
  | [], k, m, h => by simp at h
  | a :: l, 0, m, h => by
    simp at h; subst h
    simp [stCells, mem_cons]
  | a :: l, k + 1, m, h => by
    have := mem_set l k m (by simpa using h)
    unfold stCells at this ⊢
    rw [mem_cons, List.set_cons_succ, mem_cons, ← this, show (k + 1) * 2 + 1 = (k * 2 + 1) + 2 by omega]
    simp [List.take_succ_cons]

end Go.Aw
