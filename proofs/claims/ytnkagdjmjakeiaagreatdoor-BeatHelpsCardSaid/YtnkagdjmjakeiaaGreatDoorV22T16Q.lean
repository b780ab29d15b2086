import Derived.Test.YtnkagdjmjakeiaaGreatDoorV22T16O
namespace Go.Aw
open Go
open Go.Proofs.Tryz (prog)
set_option linter.all false
set_option maxHeartbeats 4000000
end Go.Aw
namespace Go.Aw
open Go
open Go.Proofs.Tryz (prog)
set_option linter.all false
set_option maxHeartbeats 4000000
theorem qdm {xs : List Int} {v : Int} : ctn xs v = false ↔ ¬ v ∈ xs := by rw [qbe]; simp
theorem qq9 {xs : List Int} : ∀ (ys : List Int) (k : Nat), xs.drop k = ys -> xs.Nodup -> (∀ y ∈ ys, 0 <= y /\ y < 8) -> qla xs ys k = true
 | [], _, _, _, _ => rfl
 | y :: ys, k, hk, hn, hs => by
  obtain ⟨hlt, hy, hk'⟩ := q1e hk
  simp only [qla, Bool.and_eq_true, Bool.not_eq_true', srv, decide_eq_true_eq, qdm]
  refine ⟨⟨hs y (List.mem_cons_self ..), ?_⟩, qq9 ys (k + 1) hk' hn fun z hz => hs z (List.mem_cons_of_mem _ hz)⟩
  have e : xs = xs.take k ++ y :: ys := by rw [<- hk]; exact (List.take_append_drop k xs).symm
  rw [e, List.nodup_append] at hn
  intro hm
  exact hn.2.2 y hm y (List.mem_cons_self ..) rfl
structure RightP (c : Cf) : Prop where
 ep : ¬ c.ep = 0
 sh : 0 <= c.sh /\ c.sh < 4
 ln : c.ln = -1 \/ (0 <= c.ln /\ c.ln < 8 /\ ¬ c.ln ∈ c.ch)
 pos : 0 < c.ch.length
 le : c.ch.length <= 8
 fu : c.fu.length = c.ch.length
 fu0 : c.fu[0]? = some true
 nd : c.ch.Nodup
 srv : ∀ y ∈ c.ch, 0 <= y /\ y < 8
theorem q08 (c : Cf) : c.right = true ↔ RightP c := by
 constructor
 ·intro h
  have hf := (Cf.right_len h).2.2
  refine ⟨?_, ?_, qpp hf h, (Cf.right_len h).1, (Cf.right_len h).2.1, hf, ql0 hf h, qj2 hf h, qn6 c.ch 0 (qhk hf h)⟩
  all_goals
   simp only [Cf.right, Bool.and_eq_true, Bool.not_eq_true', decide_eq_false_iff_not] at h
   omega
 ·intro h
  obtain ⟨h1, h2, h3, h4, h5, h6, h7, h8, h9⟩ := h
  simp only [Cf.right, Bool.and_eq_true, Bool.not_eq_true', decide_eq_false_iff_not, Bool.not_eq_false', decide_eq_true_eq, Bool.and_eq_false_iff, Bool.or_eq_false_iff, Aw.srv, qdm, h7, Option.getD_some]
  refine ⟨⟨⟨⟨⟨⟨⟨⟨h1, by omega⟩, by omega⟩, by omega⟩, by omega⟩, by omega⟩, trivial⟩, ?_⟩, qq9 c.ch 0 rfl h8 h9⟩
  rcases h3 with h | ⟨a, b, c⟩
  ·exact .inl h
  ·exact .inr ⟨⟨a, b⟩, c⟩
theorem qqa : ∀ (m : Nat) (l : List Int), l.Nodup -> (∀ y ∈ l, 0 <= y /\ y < m) -> l.length <= m
 | 0, [], _, _ => Nat.le_refl _
 | 0, x :: l, _, h => by have := h x (List.mem_cons_self ..); omega
 | m + 1, l, hn, h => by
  have h1 := qqa m (l.filter fun y => !decide (y = (m : Int))) (hn.filter _) (fun y hy => by
   rw [List.mem_filter] at hy
   have := h y hy.1
   have h2 : ¬ y = (m : Int) := by simpa using hy.2
   omega)
  have h2 : ∀ (l : List Int), l.Nodup -> l.length <= (l.filter fun y => !decide (y = (m : Int))).length + 1 := by
   intro l
   induction l with
   | nil => intro _; simp
   | cons x l ih =>
    intro hn
    rw [List.nodup_cons] at hn
    by_cases hx : x = (m : Int)
    ·subst hx
     rw [List.filter_cons, if_neg (by simp)]
     have : l.filter (fun y => !decide (y = (m : Int))) = l := by
      rw [List.filter_eq_self]
      intro y hy
      have : ¬ y = (m : Int) := fun e => hn.1 (by rw [<- e]; exact hy)
      simp [this]
     rw [this]; simp
    ·rw [List.filter_cons, if_pos (by simp [hx])]
     simp only [List.length_cons]
     have := ih hn.2
     omega
  have := h2 l hn
  omega
def qyh (p : Int -> Int) : List Int -> Int -> Prop
 | [], _ => True
 | y :: ys, last => (0 <= p y -> last <= p y) /\ qyh p ys (if 0 <= p y then p y else last)
theorem qy9 {xs : List Int} (hn : xs.Nodup) {j : Nat} {y : Int} (h : xs[j]? = some y) : ixI y xs = j := by
 have hlt : j < xs.length := (List.getElem?_eq_some_iff.1 h).1
 have e : xs.drop j = y :: xs.drop (j + 1) := by
  rw [List.drop_eq_getElem_cons hlt]
  rw [List.getElem?_eq_getElem hlt] at h
  injection h with h
  rw [h]
 rw [qvj e, qdm]
 have e2 : xs = xs.take j ++ y :: xs.drop (j + 1) := by rw [<- e]; exact (List.take_append_drop j xs).symm
 rw [e2, List.nodup_append] at hn
 intro hm
 exact hn.2.2 y hm y (List.mem_cons_self ..) rfl
structure Heir (o a : Cf) : Prop where
 right : a.right = true
 first : ∃ x, a.ch[0]? = some x /\ x ∈ o.ch
 rise : qyh o.place a.ch (-1)
 ep : a.ep <= o.ep + 1
 pos : 0 < a.ep
theorem qjy {o : Cf} (h : o.right = true) (n : Int) : o.place n = ixI n o.ch := by simp [Cf.place, h]
end Go.Aw
