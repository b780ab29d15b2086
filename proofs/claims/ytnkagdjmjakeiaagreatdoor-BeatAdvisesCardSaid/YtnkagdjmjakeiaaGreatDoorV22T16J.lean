import Derived.Test.YtnkagdjmjakeiaaGreatDoorV22T16I
namespace Go.Aw
open Go
open Go.Proofs.Tryz (prog)
set_option linter.all false
set_option maxHeartbeats 4000000
theorem qii (fu : List Bool) : ∀ (l : List Int) (k : Nat), (q7y fu l k).map (·.1) = l
 | [], _ => rfl
 | _ :: l, k => by simp [q7y, qii fu l (k + 1)]
theorem Cf.plain_fst (c : Cf) : c.plain.l.map (·.1) = c.ch := qii _ _ _
theorem Cf.plain_len (c : Cf) : c.plain.l.length = c.ch.length := qe7 _ _ _
theorem qr8 (v : Int) : ∀ (a b : List Int) (k : Nat), ixF v (a ++ b) k = match ixF v a k with | some j => some j | none => ixF v b (k + a.length)
 | [], b, k => by simp [ixF]
 | x :: a, b, k => by
  simp only [List.cons_append, ixF]
  by_cases h : v = x
  ·simp [h]
  ·simp only [h, if_false, qr8 v a b (k + 1), List.length_cons]
   rw [show k + 1 + a.length = k + (a.length + 1) by omega]
theorem q65 (xs : List Int) (v : Int) : ctn xs v = decide (v ∈ xs) := by
 have : ∀ (l : List Int) (k : Nat), (ixF v l k = none) ↔ v ∉ l := by
  intro l
  induction l with
  | nil => intro k; simp [ixF]
  | cons x l ih =>
   intro k
   simp only [ixF, List.mem_cons, not_or]
   by_cases h : v = x
   ·simp [h]
   ·simp [h, ih (k + 1)]
 have h := this xs 0
 unfold ctn ixI
 cases e : ixF v xs 0 with
 | none => simp only [e, true_iff] at h; simp [h]
 | some j => simp only [e] at h; simp at h; simp [h]
theorem z0b {xs ys : List Int} {y : Int} {k : Nat} (h : xs.drop k = y :: ys) : (ixI y xs = (k : Int)) ↔ ctn (xs.take k) y = false := by
 have hk : k < xs.length := (q0b h).1
 have e : xs = xs.take k ++ y :: ys := by rw [<- h]; exact (List.take_append_drop k xs).symm
 have hl : (xs.take k).length = k := by rw [List.length_take]; omega
 have h1 : ixF y xs 0 = match ixF y (xs.take k) 0 with | some j => some j | none => some k := by
  conv => lhs; rw [e]
  rw [qr8]
  cases ixF y (xs.take k) 0 with
  | none => simp [ixF, hl]
  | some j => rfl
 unfold ctn ixI
 rw [h1]
 cases h2 : ixF y (xs.take k) 0 with
 | none => simp
 | some j =>
  have := qnk h2
  simp only [hl] at this
  simp
  omega
theorem qvv {xs : List Int} {l : List (Int × Bool)} {ln : Int} (hx : l.map (·.1) = xs) : ∀ (ys : List (Int × Bool)) (k : Nat), l.drop k = ys -> qjl l ln ys k = (qmo xs (ys.map (·.1)) k && decide (∀ y ∈ ys, ¬ y.1 = ln)) := by
 intro ys
 induction ys with
 | nil => intro k _; simp [qjl, qmo]
 | cons y ys ih =>
  intro k hk
  have h2 := ih (k + 1) (q0b hk).2.2
  have h3 : xs.drop k = y.1 :: ys.map (·.1) := by rw [<- hx, <- List.map_drop, hk]; rfl
  have h4 := z0b h3
  simp only [qjl, qmo, List.map_cons, h2, hx]
  rw [Bool.eq_iff_iff]
  simp only [Bool.and_eq_true, Bool.not_eq_true', decide_eq_false_iff_not, Bool.not_eq_false', decide_eq_true_eq, List.mem_cons, forall_eq_or_imp, srv, h4]
  constructor
  ·rintro ⟨⟨⟨⟨a, b⟩, c⟩, d⟩, e, f⟩
   exact ⟨⟨⟨⟨by omega, by omega⟩, c⟩, e⟩, d, f⟩
  ·rintro ⟨⟨⟨⟨a, b⟩, c⟩, e⟩, d, f⟩
   exact ⟨⟨⟨⟨by omega, by omega⟩, c⟩, d⟩, e, f⟩
theorem qjs {xs : List Int} : ∀ (ys : List Int) (k : Nat), qmo xs ys k = true -> ∀ y ∈ ys, 0 <= y /\ y < 8
 | [], _, _, y, hy => by cases hy
 | x :: ys, k, h, y, hy => by
  simp only [qmo, Bool.and_eq_true, srv, decide_eq_true_eq] at h
  rcases List.mem_cons.1 hy with rfl | hy
  ·exact h.1.1
  ·exact qjs ys (k + 1) h.2 y hy
theorem Cf.plain_right (c : Cf) (hf : c.fu.length = c.ch.length) : c.plain.right = c.right := by
 rw [Bool.eq_iff_iff]
 have e1 : c.plain.l.length = c.ch.length := c.plain_len
 have e2 : qjl c.plain.l c.plain.ln c.plain.l 0 = _ := qvv (ln := c.ln) c.plain_fst c.plain.l 0 rfl
 rw [c.plain_fst] at e2
 have e3 : 0 < c.ch.length -> (c.plain.l[0]?).getD (0, false) = ((c.ch[0]?).getD 0, (c.fu[0]?).getD false) := fun h => by
  simp only [Cf.plain]
  cases hc : c.ch with
  | nil => simp [hc] at h
  | cons x l => simp [q7y]
 simp only [Rf.right, Cf.right, e2, e1]
 have e4 : (∀ y ∈ c.plain.l, ¬ y.1 = c.ln) ↔ ctn c.ch c.ln = false := by
  rw [q65, decide_eq_false_iff_not, <- c.plain_fst, List.mem_map]
  constructor
  ·rintro h ⟨a, h1, h2⟩; exact h a h1 h2
  ·intro h y hy e; exact h ⟨y, hy, e⟩
 simp only [Bool.and_eq_true, Bool.not_eq_true', decide_eq_false_iff_not, Bool.not_eq_false', decide_eq_true_eq, e4, Bool.and_eq_false_iff, Bool.or_eq_false_iff, Bool.not_eq_true, srv]
 have e5 : c.plain.ep = c.ep := rfl
 have e6 : c.plain.sh = c.sh := rfl
 have e7 : c.plain.ln = c.ln := rfl
 rw [e5, e6, e7]
 constructor
 ·rintro ⟨⟨⟨⟨⟨⟨⟨⟨a1, a2⟩, a3⟩, a4⟩, a5⟩, a6⟩, a7⟩, a8⟩, a9, a10⟩
  rw [e3 (by omega)] at a6
  refine ⟨⟨⟨⟨⟨⟨⟨⟨a1, a2⟩, by omega⟩, a4⟩, a5⟩, by omega⟩, a6⟩, ?_⟩, a9⟩
  by_cases h : c.ln = -1
  ·exact .inl h
  ·exact .inr ⟨by omega, a10⟩
 ·rintro ⟨⟨⟨⟨⟨⟨⟨⟨a1, a2⟩, a3⟩, a4⟩, a5⟩, a6⟩, a7⟩, a8⟩, a9⟩
  have hn := qjs c.ch 0 a9
  refine ⟨⟨⟨⟨⟨⟨⟨⟨a1, a2⟩, by omega⟩, a4⟩, a5⟩, ?_⟩, by omega⟩, by omega⟩, a9, ?_⟩
  ·rw [e3 (by omega)]; exact a7
  ·rcases a8 with h | h
   ·rw [q65, decide_eq_false_iff_not, h]
    intro hm
    have := hn _ hm
    omega
   ·exact h.2
end Go.Aw
