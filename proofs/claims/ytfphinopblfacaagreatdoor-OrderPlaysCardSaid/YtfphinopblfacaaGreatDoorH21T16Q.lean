import Derived.Test.YtfphinopblfacaaGreatDoorH21T16P
namespace Go.Aw
open Go
open Go.Proofs.Tryz (prog)
set_option linter.all false
set_option maxHeartbeats 4000000

theorem ctn_false {xs : List Int} {v : Int} : ctn xs v = false ↔ ¬ v ∈ xs := by rw [ctn_any]; simp

theorem new_of {xs : List Int} : ∀ (ys : List Int) (k : Nat), xs.drop k = ys → xs.Nodup → (∀ y ∈ ys, 0 ≤ y ∧ y < 8) → newF xs ys k = true
  | [], _, _, _, _ => rfl
  | y :: ys, k, hk, hn, hs => by
    obtain ⟨hlt, hy, hk'⟩ := drop_lt hk
    simp only [newF, Bool.and_eq_true, Bool.not_eq_true', srv, decide_eq_true_eq, ctn_false]
    refine ⟨⟨hs y (List.mem_cons_self ..), ?_⟩, new_of ys (k + 1) hk' hn fun z hz => hs z (List.mem_cons_of_mem _ hz)⟩
    have e : xs = xs.take k ++ y :: ys := by rw [← hk]; exact (List.take_append_drop k xs).symm
    rw [e, List.nodup_append] at hn
    intro hm
    exact hn.2.2 y hm y (List.mem_cons_self ..) rfl

structure RightP (c : Cf) : Prop where
  ep : ¬ c.ep = 0
  sh : 0 ≤ c.sh ∧ c.sh < 4
  ln : c.ln = -1 ∨ (0 ≤ c.ln ∧ c.ln < 8 ∧ ¬ c.ln ∈ c.ch)
  pos : 0 < c.ch.length
  le : c.ch.length ≤ 8
  fu : c.fu.length = c.ch.length
  fu0 : c.fu[0]? = some true
  nd : c.ch.Nodup
  srv : ∀ y ∈ c.ch, 0 ≤ y ∧ y < 8

theorem right_iff (c : Cf) : c.right = true ↔ RightP c := by
  constructor
  · intro h
    have hf := (Cf.right_len h).2.2
    refine ⟨?_, ?_, right_ln hf h, (Cf.right_len h).1, (Cf.right_len h).2.1, hf, right_head hf h, right_nodup hf h, new_srv c.ch 0 (right_new hf h)⟩
    all_goals
      simp only [Cf.right, Bool.and_eq_true, Bool.not_eq_true', decide_eq_false_iff_not] at h
      omega
  · intro h
    obtain ⟨h1, h2, h3, h4, h5, h6, h7, h8, h9⟩ := h
    simp only [Cf.right, Bool.and_eq_true, Bool.not_eq_true', decide_eq_false_iff_not, Bool.not_eq_false', decide_eq_true_eq, Bool.and_eq_false_iff, Bool.or_eq_false_iff, Aw.srv, ctn_false, h7, Option.getD_some]
    refine ⟨⟨⟨⟨⟨⟨⟨⟨h1, by omega⟩, by omega⟩, by omega⟩, by omega⟩, by omega⟩, trivial⟩, ?_⟩, new_of c.ch 0 rfl h8 h9⟩
    rcases h3 with h | ⟨a, b, c⟩
    · exact .inl h
    · exact .inr ⟨⟨a, b⟩, c⟩

/-- Distinct numbers below a bound are not more than it. -/
theorem pigeon : ∀ (m : Nat) (l : List Int), l.Nodup → (∀ y ∈ l, 0 ≤ y ∧ y < m) → l.length ≤ m
  | 0, [], _, _ => Nat.le_refl _
  | 0, x :: l, _, h => by have := h x (List.mem_cons_self ..); omega
  | m + 1, l, hn, h => by
    have h1 := pigeon m (l.filter fun y => !decide (y = (m : Int))) (hn.filter _) (fun y hy => by
      rw [List.mem_filter] at hy
      have := h y hy.1
      have h2 : ¬ y = (m : Int) := by simpa using hy.2
      omega)
    have h2 : ∀ (l : List Int), l.Nodup → l.length ≤ (l.filter fun y => !decide (y = (m : Int))).length + 1 := by
      intro l
      induction l with
      | nil => intro _; simp
      | cons x l ih =>
        intro hn
        rw [List.nodup_cons] at hn
        by_cases hx : x = (m : Int)
        · subst hx
          rw [List.filter_cons, if_neg (by simp)]
          have : l.filter (fun y => !decide (y = (m : Int))) = l := by
            rw [List.filter_eq_self]
            intro y hy
            have : ¬ y = (m : Int) := fun e => hn.1 (by rw [← e]; exact hy)
            simp [this]
          rw [this]; simp
        · rw [List.filter_cons, if_pos (by simp [hx])]
          simp only [List.length_cons]
          have := ih hn.2
          omega
    have := h2 l hn
    omega

/-- Positions rise. -/
def Rise (p : Int → Int) : List Int → Int → Prop
  | [], _ => True
  | y :: ys, last => (0 ≤ p y → last ≤ p y) ∧ Rise p ys (if 0 ≤ p y then p y else last)

theorem rise_tail {p : Int → Int} : ∀ (t : List Int) (last : Int), (∀ y ∈ t, p y < 0) → Rise p t last
  | [], _, _ => trivial
  | y :: t, last, h => by
    have h1 := h y (List.mem_cons_self ..)
    exact ⟨fun h2 => by omega, rise_tail t _ fun z hz => h z (List.mem_cons_of_mem _ hz)⟩

theorem rise_sub {p : Int → Int} {xs t : List Int} (ht : ∀ y ∈ t, p y < 0) (hp : ∀ (j : Nat) y, xs[j]? = some y → p y = j) : ∀ (ys : List Int) (j : Nat), xs.drop j = ys → ∀ (l : List Int) (last : Int), l.Sublist ys → last ≤ j → Rise p (l ++ t) last
  | [], j, _, l, last, hs, _ => by
    have : l = [] := List.sublist_nil.1 hs
    subst this
    exact rise_tail t last ht
  | y :: ys, j, hj, l, last, hs, hl => by
    obtain ⟨hlt, hy, hj'⟩ := drop_lt hj
    cases hs with
    | cons _ h => exact rise_sub ht hp ys (j + 1) hj' l last h (by omega)
    | cons_cons _ h =>
      rename_i l'
      have e := hp j y hy
      refine ⟨fun _ => by omega, ?_⟩
      rw [e, if_pos (by omega)]
      exact rise_sub ht hp ys (j + 1) hj' l' j h (by omega)

theorem ix_at {xs : List Int} (hn : xs.Nodup) {j : Nat} {y : Int} (h : xs[j]? = some y) : ixI y xs = j := by
  have hlt : j < xs.length := (List.getElem?_eq_some_iff.1 h).1
  have e : xs.drop j = y :: xs.drop (j + 1) := by
    rw [List.drop_eq_getElem_cons hlt]
    rw [List.getElem?_eq_getElem hlt] at h
    injection h with h
    rw [h]
  rw [ix_new e, ctn_false]
  have e2 : xs = xs.take j ++ y :: xs.drop (j + 1) := by rw [← e]; exact (List.take_append_drop j xs).symm
  rw [e2, List.nodup_append] at hn
  intro hm
  exact hn.2.2 y hm y (List.mem_cons_self ..) rfl

theorem ix_no {xs : List Int} {y : Int} (h : ¬ y ∈ xs) : ixI y xs < 0 := by
  have := ctn_false.2 h
  simp [ctn] at this
  omega

structure Heir (o a : Cf) : Prop where
  right : a.right = true
  first : ∃ x, a.ch[0]? = some x ∧ x ∈ o.ch
  rise : Rise o.place a.ch (-1)
  ep : a.ep ≤ o.ep + 1
  pos : 0 < a.ep

theorem place_eq {o : Cf} (h : o.right = true) (n : Int) : o.place n = ixI n o.ch := by simp [Cf.place, h]

theorem rise_of {o : Cf} (h : o.right = true) {l t : List Int} (hs : l.Sublist o.ch) (ht : ∀ y ∈ t, ¬ y ∈ o.ch) : Rise o.place (l ++ t) (-1) := by
  refine rise_sub (xs := o.ch) (fun y hy => by rw [place_eq h]; exact ix_no (ht y hy)) (fun j y hy => by rw [place_eq h]; exact ix_at ((right_iff o).1 h).nd hy) o.ch 0 rfl l (-1) hs (by omega)

theorem heir_of {o a : Cf} {t : List Int} (hr : o.right = true) (ha : RightP a) {l : List Int} (hc : a.ch = l ++ t) (hl : 0 < l.length) (hs : l.Sublist o.ch) (ht : ∀ y ∈ t, ¬ y ∈ o.ch) (h1 : a.ep ≤ o.ep + 1) (h2 : 0 < a.ep) : Heir o a := by
  refine ⟨(right_iff a).2 ha, ?_, by rw [hc]; exact rise_of hr hs ht, h1, h2⟩
  refine ⟨l[0], ?_, hs.subset (List.getElem_mem ..)⟩
  rw [hc, List.getElem?_append_left hl, List.getElem?_eq_getElem hl]

theorem heirs {o : Cf} (hr : o.right = true) (h0 : 0 < o.ep) (kind n : Int) (he : (o.turn kind n (o.ep + 1)).2 = 0) : Heir o (o.turn kind n (o.ep + 1)).1 := by
  have R := (right_iff o).1 hr
  have hmayr : ∀ {b : Bool}, o.may n (o.ep + 1) = b → b = (srv n) := fun e => by
    rw [← e]
    simp only [Cf.may, hr, Bool.true_and]
    rw [show decide (o.ep + 1 ≤ o.ep) = false from decide_eq_false (by omega)]
    simp
  unfold Cf.turn at he ⊢
  repeat' split at he
  · rename_i hk
    rw [if_pos hk]
    unfold Cf.remove at he ⊢
    split at he
    · simp at he
    rename_i hm
    rw [if_neg hm]
    split at he
    · rename_i hln
      rw [if_pos hln]
      exact heir_of (l := o.ch) (t := []) hr ⟨by simp only; omega, R.sh, .inl rfl, R.pos, R.le, R.fu, R.fu0, R.nd, R.srv⟩ (by simp) R.pos (List.Sublist.refl _) (by simp) (by simp) (by simp only; omega)
    rename_i hln
    rw [if_neg hln]
    split at he
    · simp at he
    rename_i hpl
    rw [if_neg hpl]
    split at he
    · simp at he
    rename_i hc
    rw [if_neg hc]
    obtain ⟨k, hk⟩ : ∃ k : Nat, o.place n = k := ⟨(o.place n).toNat, by omega⟩
    have hlt := o.place_lt n
    rw [hk] at hc hlt ⊢
    rw [Int.toNat_natCast]
    have hkl : k < o.ch.length := by omega
    have hsub := List.eraseIdx_sublist o.ch k
    have hle : (o.ch.eraseIdx k).length = o.ch.length - 1 := List.length_eraseIdx_of_lt hkl
    have hl1 : ¬ o.ch.length = 1 := fun e => hc (.inl e)
    refine heir_of (l := o.ch.eraseIdx k) (t := []) hr ⟨by simp only; omega, R.sh, ?_, by simp only [hle]; have := R.pos; omega, by simp only [hle]; have := R.le; omega, ?_, ?_, R.nd.sublist hsub, fun y hy => R.srv y (hsub.subset hy)⟩ (by simp) (by rw [hle]; have := R.pos; omega) hsub (by simp) (by simp) (by simp only; omega)
    · rcases R.ln with h | ⟨h1, h2, h3⟩
      · exact .inl h
      · exact .inr ⟨h1, h2, fun hm => h3 (hsub.subset hm)⟩
    · simp only; rw [hle, List.length_eraseIdx_of_lt (by rw [R.fu]; omega), R.fu]
    · simp only
      rw [List.getElem?_eraseIdx]
      by_cases h3 : k = 0
      · subst h3
        simp only [Nat.lt_irrefl, if_false, Nat.zero_add]
        have h4 : 1 < o.fu.length := by rw [R.fu]; have := R.pos; omega
        have h5 : ¬ o.fu[1]? = some false := fun e => hc (.inr ⟨rfl, e⟩)
        rw [List.getElem?_eq_getElem h4] at h5 ⊢
        cases hb : o.fu[1] with
        | true => rfl
        | false => rw [hb] at h5; exact absurd rfl h5
      · rw [if_pos (by omega)]; exact R.fu0
  · rename_i hk0 hk
    rw [if_neg hk0, if_pos hk]
    unfold Cf.learn at he ⊢
    split at he
    · simp at he
    rename_i hm
    rw [if_neg hm]
    split at he
    · simp at he
    rename_i hh
    rw [if_neg hh]
    split at he
    · simp at he
    rename_i hln
    rw [if_neg hln]
    have hs : srv n = true := by
      rw [← hmayr (b := true) (by simpa using hm)]
    simp only [srv, decide_eq_true_eq] at hs
    have hno : ¬ n ∈ o.ch := fun hm => hh (by simp [Cf.has, hr, hs.1, ctn_any, hm])
    exact heir_of (l := o.ch) (t := []) hr ⟨by simp only; omega, R.sh, .inr ⟨hs.1, hs.2, hno⟩, R.pos, R.le, R.fu, R.fu0, R.nd, R.srv⟩ (by simp) R.pos (List.Sublist.refl _) (by simp) (by simp) (by simp only; omega)
  · rename_i hk0 hk1 hk
    rw [if_neg hk0, if_neg hk1, if_pos hk]
    unfold Cf.promote at he ⊢
    split at he
    · simp at he
    rename_i hm
    rw [if_neg hm]
    split at he
    · simp at he
    rename_i hln
    rw [if_neg hln]
    have hln : n = o.ln := by simpa using hln
    have hs : srv n = true := by rw [← hmayr (b := true) (by simpa using hm)]
    simp only [srv, decide_eq_true_eq] at hs
    have hno : ¬ n ∈ o.ch := by
      rcases R.ln with h | ⟨_, _, h3⟩
      · omega
      · rw [hln]; exact h3
    have hnd : (o.ch ++ [n]).Nodup := by
      rw [List.nodup_append]
      refine ⟨R.nd, by simp, fun a ha b hb e => ?_⟩
      simp at hb; subst hb; subst e; exact hno ha
    have hsv : ∀ y ∈ o.ch ++ [n], 0 ≤ y ∧ y < 8 := by
      intro y hy
      rcases List.mem_append.1 hy with h | h
      · exact R.srv y h
      · simp at h; subst h; exact hs
    have hle := pigeon 8 (o.ch ++ [n]) hnd (by simpa using hsv)
    refine heir_of (l := o.ch) (t := [n]) hr ⟨by simp only; omega, R.sh, .inl rfl, by simp, hle, by simp [R.fu], ?_, hnd, hsv⟩ rfl R.pos (List.Sublist.refl _) (by simpa using hno) (by simp) (by simp only; omega)
    simp only
    rw [List.getElem?_append_left (by rw [R.fu]; exact R.pos)]; exact R.fu0
  · rename_i hk0 hk1 hk2
    rw [if_neg hk0, if_neg hk1, if_neg hk2]
    unfold Cf.mark at he ⊢
    split at he
    · simp at he
    rename_i hm
    rw [if_neg hm]
    split at he
    · simp at he
    rename_i hpl
    rw [if_neg hpl]
    split at he
    · simp at he
    rename_i hfu
    rw [if_neg hfu]
    refine heir_of (l := o.ch) (t := []) hr ⟨by simp only; omega, R.sh, R.ln, R.pos, R.le, by simp [R.fu], ?_, R.nd, R.srv⟩ (by simp) R.pos (List.Sublist.refl _) (by simp) (by simp only; omega) (by simp only; omega)
    simp only
    rw [List.getElem?_set]
    split
    · have := R.pos
      have h9 := R.fu
      rw [if_pos (by omega)]
    · exact R.fu0
end Go.Aw
