import Derived.Test.YtnkagdjmjakeiaaGreatDoorV22T16N
namespace Go.Aw
open Go
open Go.Proofs.Tryz (prog)
set_option linter.all false
set_option maxHeartbeats 4000000
theorem qil (fu : List Bool) : ∀ (l : List Int) (k : Nat), l.length + k = fu.length -> q7y fu l k = l.zip (fu.drop k)
 | [], k, _ => by simp [q7y]
 | x :: l, k, h => by
  simp only [List.length_cons] at h
  have hk : k < fu.length := by omega
  rw [q7y, qil fu l (k + 1) (by omega), List.drop_eq_getElem_cons hk, List.zip_cons_cons, List.getElem?_eq_getElem hk]
  rfl
theorem Cf.plain_zip {c : Cf} (h : c.fu.length = c.ch.length) : c.plain.l = c.ch.zip c.fu := by
 have := qil c.fu c.ch 0 (by omega)
 simpa [Cf.plain] using this
theorem qlb : ∀ (l : List Int) (m : List Bool) (k : Nat), l.length = m.length -> (l.zip m).eraseIdx k = (l.eraseIdx k).zip (m.eraseIdx k)
 | [], [], k, _ => by simp
 | x :: l, y :: m, 0, _ => by simp
 | x :: l, y :: m, k + 1, h => by
  simp only [List.zip_cons_cons, List.eraseIdx_cons_succ]
  rw [qlb l m k (by simpa using h)]
 | [], _ :: _, _, h => by simp at h
 | _ :: _, [], _, h => by simp at h
theorem qrv : ∀ (l : List Int) (m : List Bool) (k : Nat) (x : Int), l[k]? = some x -> l.length = m.length -> (l.zip m).set k (x, true) = l.zip (m.set k true)
 | [], [], k, x, h, _ => by simp at h
 | a :: l, b :: m, 0, x, h, _ => by simp at h; simp [h]
 | a :: l, b :: m, k + 1, x, h, hl => by
  simp only [List.zip_cons_cons, List.set_cons_succ]
  rw [qrv l m k x (by simpa using h) (by simpa using hl)]
 | [], _ :: _, _, _, _, h => by simp at h
 | _ :: _, [], _, _, _, h => by simp at h
theorem qfg {n : Int} : ∀ (l : List (Int × Bool)) (j : Nat), (l.map (·.1)).Nodup -> match ixF n (l.map (·.1)) j with
  | none => l.filter (fun m => !decide (m.1 = n)) = l
  | some i => l.filter (fun m => !decide (m.1 = n)) = l.eraseIdx (i - j)
 | [], j, _ => by simp [ixF]
 | y :: l, j, h => by
  simp only [List.map_cons, List.nodup_cons] at h
  have ih := qfg (n := n) l (j + 1) h.2
  simp only [List.map_cons, ixF]
  by_cases hy : n = y.1
  ·simp only [hy, if_true]
   subst hy
   rw [Nat.sub_self, List.eraseIdx_cons_zero, List.filter_cons, if_neg (by simp)]
   rw [List.filter_eq_self]
   intro m hm
   have : ¬ m.1 = y.1 := fun e => h.1 (by rw [<- e]; exact List.mem_map_of_mem hm)
   simp [this]
  ·simp only [hy, if_false]
   have hy' : ¬ y.1 = n := fun e => hy e.symm
   cases hi : ixF n (l.map (·.1)) (j + 1) with
   | none =>
    simp only [hi] at ih ⊢
    rw [List.filter_cons, if_pos (by simp [hy']), ih]
   | some i =>
    simp only [hi] at ih ⊢
    have hlt := qnk hi
    rw [List.filter_cons, if_pos (by simp [hy']), ih, show i - j = (i - (j + 1)) + 1 by omega, List.eraseIdx_cons_succ]
theorem qlc {xs : List Int} : ∀ (ys : List Int) (k : Nat), xs.drop k = ys -> qmo xs ys k = true -> (xs.take k).Nodup -> k <= xs.length -> xs.Nodup
 | [], k, hk, _, hn, hle => by
  have := I0 hk hle
  rwa [List.take_of_length_le (by omega)] at hn
 | y :: ys, k, hk, h, hn, hle => by
  obtain ⟨hlt, hy, hk'⟩ := q0b hk
  simp only [qmo, Bool.and_eq_true, Bool.not_eq_true', q65, decide_eq_false_iff_not] at h
  refine qlc ys (k + 1) hk' h.2 ?_ hlt
  rw [q6l hy, List.nodup_append]
  refine ⟨hn, by simp, ?_⟩
  intro a ha b hb e
  simp at hb
  subst hb; subst e
  exact h.1.2 ha
structure Agree (r : Cf × Int) (s : Rf × Int) : Prop where
 e : r.2 = s.2
 pl : r.1.plain = s.1
 len : r.1.fu.length = r.1.ch.length
 le : r.1.ch.length <= 9
theorem qa9 (e : Int) : Agree (cfz, e) (rf0, e) := ⟨rfl, rfl, rfl, by simp [cfz]⟩
section
variable {o : Cf} (hf : o.fu.length = o.ch.length)
include hf
theorem qrw (n ep : Int) : o.plain.may n ep = o.may n ep := by
 rw [Bool.eq_iff_iff]
 simp only [Rf.may, Cf.may, o.plain_right hf, Bool.and_eq_true, Bool.not_eq_true', decide_eq_false_iff_not, decide_eq_true_eq, srv]
 have : o.plain.ep = o.ep := rfl
 rw [this]
 constructor
 ·rintro ⟨⟨⟨a, b⟩, c⟩, d⟩; exact ⟨⟨a, by omega⟩, by omega⟩
 ·rintro ⟨⟨a, b⟩, d⟩; exact ⟨⟨⟨a, by omega⟩, by omega⟩, by omega⟩
theorem qjy (hr : o.right = true) : o.ln = -1 \/ (0 <= o.ln /\ o.ln < 8 /\ ¬ o.ln ∈ o.ch) := by
 simp only [Cf.right, Bool.and_eq_true, Bool.not_eq_true', decide_eq_false_iff_not, Bool.not_eq_false', decide_eq_true_eq, Bool.and_eq_false_iff, Bool.or_eq_false_iff, srv, q65] at hr
 rcases hr.1.2 with h | h
 ·exact .inl h
 ·exact .inr ⟨h.1.1, h.1.2, h.2⟩
theorem qh7 (hr : o.right = true) : qmo o.ch o.ch 0 = true := by
 simp only [Cf.right, Bool.and_eq_true] at hr; exact hr.2
theorem qh8 (hr : o.right = true) : o.ch.Nodup := qlc o.ch 0 rfl (qh7 hf hr) (by simp) (by omega)
theorem qim (hr : o.right = true) : o.fu[0]? = some true := by
 obtain ⟨r1, r2, r3⟩ := Cf.right_len hr
 simp only [Cf.right, Bool.and_eq_true, Bool.not_eq_true', Bool.not_eq_false'] at hr
 have := hr.1.1.2
 rw [List.getElem?_eq_getElem (by omega)] at this ⊢
 simpa using this
theorem qn1 (n ep : Int) : Agree (o.learn n ep) (o.plain.learn n ep) := by
 unfold Cf.learn Rf.learn
 rw [qrw hf, o.plain_fst]
 have hln : o.plain.ln = o.ln := rfl
 rw [hln]
 cases hm : o.may n ep with
 | false => simp only [if_true]; exact qa9 1
 | true =>
  simp only [Bool.true_eq_false, if_false]
  have hm' := hm
  simp only [Cf.may, Bool.and_eq_true, srv, decide_eq_true_eq] at hm'
  obtain ⟨⟨hr, hs⟩, _⟩ := hm'
  obtain ⟨r1, r2, r3⟩ := Cf.right_len hr
  have hh : o.has n = true ↔ (0 <= ixI n o.ch \/ o.ln = n) := by
   simp only [Cf.has, hr, Bool.true_and, Bool.and_eq_true, Bool.or_eq_true, decide_eq_true_eq, ctn]
   constructor
   ·rintro ⟨_, h | h⟩
    ·exact .inr h.symm
    ·exact .inl h
   ·rintro (h | h)
    ·exact ⟨hs.1, .inr h⟩
    ·exact ⟨hs.1, .inl h.symm⟩
  by_cases h1 : o.has n = true
  ·rw [if_pos h1, if_pos (hh.1 h1)]; exact qa9 7
  ·rw [if_neg h1, if_neg (fun e => h1 (hh.2 e))]
   rcases qjy hf hr with h2 | ⟨h2, h3, h4⟩
   ·rw [if_neg (by simp [h2]), if_neg (by omega)]
    exact ⟨rfl, rfl, hf, by simp only; omega⟩
   ·rw [if_pos (by omega), if_pos h2]
    exact qa9 10
theorem qjz (n ep : Int) : Agree (o.promote n ep) (o.plain.promote n ep) := by
 unfold Cf.promote Rf.promote
 rw [qrw hf]
 have hln : o.plain.ln = o.ln := rfl
 rw [hln]
 cases hm : o.may n ep with
 | false => simp only [if_true]; exact qa9 1
 | true =>
  simp only [Bool.true_eq_false, if_false]
  have hm' := hm
  simp only [Cf.may, Bool.and_eq_true] at hm'
  obtain ⟨⟨hr, _⟩, _⟩ := hm'
  obtain ⟨r1, r2, r3⟩ := Cf.right_len hr
  by_cases h1 : n = o.ln
  ·rw [if_neg (by simp [h1]), if_neg (by simp [h1])]
   have hl : (⟨ep, o.sh, o.ch ++ [n], o.fu ++ [false], -1⟩ : Cf).fu.length = (⟨ep, o.sh, o.ch ++ [n], o.fu ++ [false], -1⟩ : Cf).ch.length := by simp [hf]
   refine ⟨rfl, ?_, hl, by simp; omega⟩
   have := Cf.plain_zip hl
   have hz := Cf.plain_zip hf
   simp only [Cf.plain] at this hz ⊢
   rw [this, hz, List.zip_append hf.symm]
   rfl
  ·rw [if_pos h1, if_pos (fun e => h1 e.symm)]; exact qa9 6
theorem qp7 (n : Int) : Agree (o.mark n) (o.plain.mark n) := by
 unfold Cf.mark Rf.mark
 rw [o.plain_right hf, o.plain_fst]
 have hs : (o.right && decide (0 <= n) && decide (n <= 7)) = (o.right && srv n) := by
  rw [Bool.eq_iff_iff]
  simp only [Bool.and_eq_true, srv, decide_eq_true_eq]
  constructor
  ·rintro ⟨⟨a, b⟩, c⟩; exact ⟨a, by omega⟩
  ·rintro ⟨a, b⟩; exact ⟨⟨a, by omega⟩, by omega⟩
 rw [hs]
 cases hm : (o.right && srv n) with
 | false => simp only [if_true]; exact qa9 1
 | true =>
  simp only [Bool.true_eq_false, if_false]
  simp only [Bool.and_eq_true] at hm
  obtain ⟨hr, _⟩ := hm
  obtain ⟨r1, r2, r3⟩ := Cf.right_len hr
  have hpl : o.place n = ixI n o.ch := by simp [Cf.place, hr]
  rw [hpl]
  have hix := qnl n o.ch
  by_cases h1 : ixI n o.ch < 0
  ·rw [if_pos h1, if_pos h1]; exact qa9 6
  ·rw [if_neg h1, if_neg h1]
   obtain ⟨k, hk⟩ : ∃ k : Nat, ixI n o.ch = k := ⟨(ixI n o.ch).toNat, by omega⟩
   rw [hk, Int.toNat_natCast]
   have hz := Cf.plain_zip hf
   have hkc : k < o.ch.length := by omega
   have hkf : k < o.fu.length := by omega
   have e1 : (o.plain.l[k]?).getD (0, false) = (o.ch[k], o.fu[k]) := by
    rw [hz, List.getElem?_eq_getElem (by simp; omega)]; simp
   rw [e1, List.getElem?_eq_getElem hkf]
   simp only [Option.getD_some]
   by_cases h2 : o.fu[k] = true
   ·rw [if_pos h2, if_pos h2]; exact qa9 7
   ·rw [if_neg h2, if_neg h2]
    have hl : (⟨o.ep, o.sh, o.ch, o.fu.set k true, o.ln⟩ : Cf).fu.length = (⟨o.ep, o.sh, o.ch, o.fu.set k true, o.ln⟩ : Cf).ch.length := by simp [hf]
    refine ⟨rfl, ?_, hl, by simp; omega⟩
    have := Cf.plain_zip hl
    simp only [Cf.plain] at this hz ⊢
    rw [this, hz, qrv _ _ _ _ (List.getElem?_eq_getElem hkc) hf.symm]
theorem qfh (n ep : Int) : Agree (o.remove n ep) (o.plain.remove n ep) := by
 unfold Cf.remove Rf.remove
 rw [qrw hf, o.plain_fst]
 have hln : o.plain.ln = o.ln := rfl
 rw [hln]
 cases hm : o.may n ep with
 | false => simp only [if_true]; exact qa9 1
 | true =>
  simp only [Bool.true_eq_false, if_false]
  have hm' := hm
  simp only [Cf.may, Bool.and_eq_true] at hm'
  obtain ⟨⟨hr, _⟩, _⟩ := hm'
  obtain ⟨r1, r2, r3⟩ := Cf.right_len hr
  have hpl : o.place n = ixI n o.ch := by simp [Cf.place, hr]
  rw [hpl]
  have hix := qnl n o.ch
  have hnd := qh8 hf hr
  have hz := Cf.plain_zip hf
  have hrest := qfg (n := n) o.plain.l 0 (by rw [o.plain_fst]; exact hnd)
  rw [o.plain_fst] at hrest
  by_cases h0 : n = o.ln
  ·rw [if_pos h0, if_pos h0.symm]
   have hno : ixF n o.ch 0 = none := by
    cases hi : ixF n o.ch 0 with
    | none => rfl
    | some j =>
     have hc : ctn o.ch n = true := by simp [ctn, ixI, hi]
     rw [q65] at hc
     have hc := of_decide_eq_true hc
     rcases qjy hf hr with h2 | ⟨_, _, h4⟩
     ·have := qjs o.ch 0 (qh7 hf hr) n hc
      omega
     ·rw [<- h0] at h4; exact absurd hc h4
   rw [hno] at hrest
   simp only at hrest
   refine ⟨rfl, ?_, hf, by simp; omega⟩
   rw [show o.plain.rest n = o.plain.l from hrest]
   rfl
  ·rw [if_neg h0, if_neg (show ¬ o.ln = n from fun e => h0 e.symm)]
   by_cases h1 : ixI n o.ch < 0
   ·rw [if_pos h1, if_pos h1]; exact qa9 6
   ·rw [if_neg h1, if_neg h1]
    have hk : ∃ k : Nat, ixF n o.ch 0 = some k /\ ixI n o.ch = k := by
     unfold ixI at h1 ⊢
     cases hi : ixF n o.ch 0 with
     | none => simp [hi] at h1
     | some j => exact ⟨j, rfl, rfl⟩
    obtain ⟨k, hk1, hk⟩ := hk
    rw [hk, Int.toNat_natCast]
    rw [hk1] at hrest
    simp only [Nat.sub_zero] at hrest
    have hrest : o.plain.rest n = (o.ch.eraseIdx k).zip (o.fu.eraseIdx k) := by
     rw [<- qlb _ _ _ hf.symm, <- hz]; exact hrest
    have hkc : k < o.ch.length := by omega
    have hlen : (o.plain.rest n).length = o.ch.length - 1 := by
     rw [hrest, List.length_zip, List.length_eraseIdx_of_lt hkc, List.length_eraseIdx_of_lt (by omega), hf, Nat.min_self]
    have hfu0 := qim hf hr
    have hcond : (o.ch.length = 1 \/ ((k : Int) = 0 /\ o.fu[1]? = some false)) ↔ ((o.plain.rest n).length = 0 \/ (((o.plain.rest n)[0]?).getD (0, false)).2 = false) := by
     rw [hlen]
     by_cases h2 : o.ch.length = 1
     ·simp [h2]
     ·have hlt : 0 < (o.plain.rest n).length := by omega
      have hlt2 : 0 < ((o.ch.eraseIdx k).zip (o.fu.eraseIdx k)).length := by rw [<- hrest]; exact hlt
      have hlt3 : 0 < (o.fu.eraseIdx k).length := by rw [List.length_eraseIdx_of_lt (by omega)]; omega
      have e1 : (((o.plain.rest n)[0]?).getD (0, false)).2 = (o.fu.eraseIdx k)[0] := by
       rw [hrest, List.getElem?_eq_getElem hlt2]; simp
      rw [e1]
      have e2 : (o.fu.eraseIdx k)[0]? = if k = 0 then o.fu[1]? else o.fu[0]? := by
       rw [List.getElem?_eraseIdx]
       by_cases h3 : k = 0
       ·simp [h3]
       ·rw [if_pos (by omega), if_neg h3]
      rw [List.getElem?_eq_getElem hlt3] at e2
      by_cases h3 : k = 0
      ·rw [if_pos h3] at e2
       rw [<- e2]
       simp [h3, h2]
       intro h
       omega
      ·rw [if_neg h3, hfu0] at e2
       injection e2 with e2
       rw [e2]
       simp [h3, h2]
       omega
    by_cases h2 : o.ch.length = 1 \/ ((k : Int) = 0 /\ o.fu[1]? = some false)
    ·rw [if_pos h2, if_pos (hcond.1 h2)]; exact qa9 10
    ·rw [if_neg h2, if_neg (fun e => h2 (hcond.2 e))]
     have hl : (⟨ep, o.sh, o.ch.eraseIdx k, o.fu.eraseIdx k, o.ln⟩ : Cf).fu.length = (⟨ep, o.sh, o.ch.eraseIdx k, o.fu.eraseIdx k, o.ln⟩ : Cf).ch.length := by
      simp only; rw [List.length_eraseIdx_of_lt (by omega), List.length_eraseIdx_of_lt hkc, hf]
     refine ⟨rfl, ?_, hl, by simp only; rw [List.length_eraseIdx_of_lt hkc]; omega⟩
     have := Cf.plain_zip hl
     simp only [Cf.plain] at this hrest ⊢
     rw [this]
     simp only [Rf.rest] at hrest ⊢
     rw [hrest]
end
end Go.Aw
