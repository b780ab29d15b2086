import Derived.Test.YtmicojcojlgefaaC29Q
namespace Go.Aw
open Go
open Go.Proofs.Try (prog)
set_option linter.all false
set_option maxHeartbeats 8000000
set_option maxRecDepth 8000

/-! Behind any events. -/
structure Cl.At (c : Cl) (me ma : Int) (n : Nat) : Prop where
  me : c.me = me
  ma : c.ma = ma
  ok : c.Ok
  sq : c.sq ≤ n
  w : ∀ o, c.w = some o → o.2 ≤ n
theorem At.mono {c : Cl} {me ma : Int} {n m : Nat} (h : c.At me ma n) (hm : n ≤ m) : c.At me ma m := ⟨h.me, h.ma, h.ok, by have := h.sq; omega, fun o ho => by have := h.w o ho; omega⟩
theorem call_at {c : Cl} {me ma : Int} {n : Nat} {o : Cp} (h : c.At me ma n) (ho : o.Fine) (hn : n ≤ 1000) : (callF c o).1.1.At me ma (n + 1) ∧ ∀ g ∈ (callF c o).1.2, LtS me g := by
  have hme := h.me
  obtain ⟨h1, h2, hk, h4, h5⟩ := h
  have no : ∀ g ∈ ([] : List (Lt Cf)), LtS me g := fun g hg => by cases hg
  have hat : c.At me ma (n + 1) := At.mono ⟨h1, h2, hk, h4, h5⟩ (by omega)
  unfold callF
  split
  · exact ⟨hat, no⟩
  split
  · exact ⟨hat, no⟩
  split
  · exact ⟨hat, no⟩
  rename_i q1 q2 q3
  have hm : mayF o = true := by simpa using q2
  have hk2 : ({ c with sq := c.sq + 1, w := some (o, 0) } : Cl).Ok := ⟨hk.me, hk.ma, (by show c.sq + 1 < _; omega), hk.l, fun q hq => by
    injection hq with hq
    subst hq
    exact ⟨⟨ho, hm, Nat.le_add_left 1 _⟩, Int.le_refl _, (show (0 : Int) < 1000000 by decide)⟩⟩
  refine ⟨⟨h1, h2, hk2, (by show c.sq + 1 ≤ _; omega), fun q hq => ?_⟩, fun g hg => ?_⟩
  · injection hq with hq
    subst hq
    show (0 : Int) ≤ _; omega
  · have := try_ok (c := { c with sq := c.sq + 1, w := some (o, 0) }) (o := o) (t := 0) hk2 ⟨ho, hm, Nat.le_add_left 1 _⟩ (Int.le_refl _) g hg
    rw [← hme]; exact this
theorem tick_at {c : Cl} {me ma : Int} {n : Nat} (h : c.At me ma n) (hn : n ≤ 1000) : (tickF c).1.At me ma (n + 1) ∧ ∀ g ∈ (tickF c).2, LtS me g := by
  have hme := h.me
  obtain ⟨h1, h2, hk, h4, h5⟩ := h
  unfold tickF
  rcases hw : c.w with _ | ⟨o, t⟩
  · exact ⟨At.mono ⟨h1, h2, hk, h4, h5⟩ (by omega), fun g hg => by cases hg⟩
  · simp only
    obtain ⟨ho, ht0, ht1⟩ := hk.w _ hw
    have htn := h5 _ hw
    simp only at ho ht0 ht1 htn
    have hk2 : ({ c with w := some (o, t + 1) } : Cl).Ok := ⟨hk.me, hk.ma, hk.sq, hk.l, fun q hq => by
      injection hq with hq
      subst hq
      exact ⟨ho, by show 0 ≤ t + 1; omega, by show t + 1 < _; omega⟩⟩
    refine ⟨⟨h1, h2, hk2, (by show c.sq ≤ _; omega), fun q hq => ?_⟩, fun g hg => ?_⟩
    · injection hq with hq
      subst hq
      show t + 1 ≤ _; omega
    · have := try_ok (c := { c with w := some (o, t + 1) }) (o := o) (t := t + 1) hk2 ho (by omega) g hg
      rw [← hme]; exact this
theorem hear_at {c : Cl} {me ma : Int} {n : Nat} {m : Lt Cf} (h : c.At me ma n) (hc : ∀ c ∈ m.cs, 0 ≤ c.ep) : (hearF c m).1.At me ma n := by
  obtain ⟨h1, h2, hk, h4, h5⟩ := h
  unfold hearF
  split
  · exact ⟨h1, h2, hk, h4, h5⟩
  split
  · exact ⟨h1, h2, ⟨hk.me, hk.ma, hk.sq, lnL_ok _ hk.l hc, hk.w⟩, h4, h5⟩
  split
  · exact ⟨h1, h2, ⟨hk.me, hk.ma, hk.sq, hk.l, fun q hq => by cases hq⟩, h4, fun q hq => by cases hq⟩
  · exact ⟨h1, h2, hk, h4, h5⟩
/-! Rows of letters. -/
end Go.Aw

