import Derived.Test.YtnkagdjmjakeiaaGreatDoorV2G
namespace Go.Aw
open Go
set_option linter.all false
set_option maxHeartbeats 4000000
theorem qvz {c : Cm} (hok : c.ok = true) (he : c.ep < 18446744073709551616) : qo1 (wr4 c) = c /\ qjs (wr4 c) = true := by
 have hh := of_decide_eq_true hok
 have e1 : rd1 (wr4 c) = (c.k.toNat, (enc c.sh.toNat ++ (enc c.ep.toNat ++ enc c.nd.toNat), false)) := by
  unfold rd1 wr4
  rw [List.append_assoc, List.append_assoc]
  exact qa0 (by omega) (by omega) _
 have e2 : rd2 (wr4 c) = (c.sh.toNat, (enc c.ep.toNat ++ enc c.nd.toNat, false)) := by
  unfold rd2
  rw [e1]
  exact qa0 (by omega) (by omega) _
 have e3 : rd3 (wr4 c) = (c.ep.toNat, (enc c.nd.toNat, false)) := by
  unfold rd3
  rw [e2]
  exact qa0 (by omega) (by omega) _
 have e4 : rd4 (wr4 c) = (c.nd.toNat, ([], false)) := by
  unfold rd4
  rw [e3]
  have := qa0 (k := 7) (n := c.nd.toNat) (by omega) (by omega) []
  rwa [List.append_nil] at this
 have ec : qo1 (wr4 c) = c := by
  unfold qo1
  rw [e1, e2, e3, e4]
  cases c
  simp only at hh ⊢
  congr 1 <;> omega
 refine ⟨ec, ?_⟩
 unfold qjs
 rw [ec, hok, e4]
 rfl
theorem qw0 (c : Cm) : wr4 c ≠ [] := by
 intro h
 have := congrArg List.length h
 simp only [wr4, List.length_append, List.length_nil] at this
 have := List.length_pos_iff.2 (qq6 c.k.toNat)
 omega
theorem qse {c : Cm} (hok : c.ok = true) (he : c.ep < 18446744073709551616) : (wr4 c).length <= 40 := by
 have hh := of_decide_eq_true hok
 have l1 := q2x (n := c.k.toNat) (by omega)
 have l2 := q2x (n := c.sh.toNat) (by omega)
 have l3 := q2x (n := c.ep.toNat) (by omega)
 have l4 := q2x (n := c.nd.toNat) (by omega)
 simp only [wr4, List.length_append]; omega
def Fit (o : Os) : Prop := 0 <= o.v /\ ∀ c ∈ o.cs, ∀ y, (y = c.ln \/ y ∈ c.ch) -> y < o.v
theorem ql7 {o : Os} (h : Good o) {k : Nat} {old : Cf} (hlt : o.cs[k]? = some old) (hct : o.ct < 18446744073709551615) (c : Cm) (hok : (o.chg c old).2 = 0) : Turned old (o.chg c old).1 (o.ct + 1) c.nd (c.k = 2) := by
 obtain ⟨r1, r2, r3, r4⟩ := h.one _ _ hlt
 have hct0 := h.ct0
 have hw : IntKind.u64.wrap (o.ct + 1) = o.ct + 1 := IntWalk.u64_in _ (by omega)
 have hlt' : old.ep < o.ct + 1 := by omega
 unfold Os.chg at hok ⊢
 rw [hw] at hok ⊢
 by_cases k1 : c.k = 1
 ·rw [if_pos k1] at hok ⊢
  have := qat r1 r3 hlt' hok
  exact ⟨this.right, this.sh, this.ep, this.first, fun y hy hm => (this.mem y hy hm).imp id (fun q => q.1.elim)⟩
 rw [if_neg k1] at hok ⊢
 by_cases k2 : c.k = 2
 ·rw [if_pos k2] at hok ⊢
  have := qbx r1 r3 hlt' hok
  exact ⟨this.right, this.sh, this.ep, this.first, fun y hy hm => (this.mem y hy hm).imp id (fun q => ⟨k2, q.2⟩)⟩
 rw [if_neg k2] at hok ⊢
 by_cases k3 : c.k = 3
 ·rw [if_pos k3] at hok ⊢
  have := q8h r1 r3 hlt' hok
  exact ⟨this.right, this.sh, this.ep, this.first, fun y hy hm => (this.mem y hy hm).imp id (fun q => q.1.elim)⟩
 rw [if_neg k3] at hok ⊢
 have := q9k r1 r3 (e := o.ct + 1) hok
 exact ⟨this.right, this.sh, this.ep, this.first, fun y hy hm => (this.mem y hy hm).imp id (fun q => q.1.elim)⟩
theorem qsf {cs : List Cf} {k : Int} {c : Cf} (h : at? cs k = some c) : 0 <= k /\ cs[k.toNat]? = some c := by
 unfold at? at h
 split at h
 ·exact ⟨by assumption, h⟩
 ·cases h
theorem qw1 {o : Os} (h : Good o) (hf : Fit o) (hct : o.ct < 18446744073709551615) (c : Cm) : Fit (o.do c).1 /\ (o.do c).1.ct <= o.ct + 1 := by
 have stay : ∀ e : Int, Fit (o, e).1 /\ (o, e).1.ct <= o.ct + 1 := fun e => ⟨hf, by simp only; omega⟩
 have hct0 := h.ct0
 unfold Os.do
 rcases hat : at? o.cs c.sh with _ | old
 ·exact stay 1
 simp only
 have hlt := qsf hat
 split
 ·exact stay 1
 rename_i hv
 split
 ·exact stay 8
 split
 ·exact stay 9
 split
 ·exact stay 7
 split
 ·exact stay _
 rename_i hok
 have hok : (o.chg c old).2 = 0 := by simpa using hok
 have hT := ql7 h hlt.2 hct c hok
 have hw : IntKind.u64.wrap (o.ct + 1) = o.ct + 1 := IntWalk.u64_in _ (by omega)
 refine ⟨⟨hf.1, fun d hd y hy => ?_⟩, by simp only; split <;> omega⟩
 by_cases hy0 : 0 <= y
 case neg => have := hf.1; simp only; omega
 rcases List.mem_or_eq_of_mem_set hd with hd | rfl
 ·exact hf.2 d hd y hy
 ·rcases hT.mem y hy0 hy with q | ⟨_, q⟩
  ·exact hf.2 old (List.mem_of_getElem? hlt.2) y q
  ·simp only; omega
theorem qnv {o : Os} (h : Good o) (hf : Fit o) (hct : o.ct < 18446744073709551615) (val : List UInt8) : Fit (o.apply val).1 /\ (o.apply val).1.ct <= o.ct + 1 := by
 have stay : Fit o.step /\ o.step.ct <= o.ct + 1 := ⟨hf, by simp only [Os.step]; omega⟩
 unfold Os.apply
 split
 ·exact stay
 split
 ·exact qw1 (o := o.step) (h.of_cs rfl rfl) hf hct _
 ·exact stay
theorem qz1 {S L : Nat} {v : Int} (h : sok S L v = true) : Fit (os0 S L v) /\ (os0 S L v).ct <= 4 := by
 have hh := of_decide_eq_true h
 refine ⟨⟨by show 0 <= v; omega, fun c hc y hy => ?_⟩, by show ((S : Nat) : Int) <= 4; omega⟩
 simp only [os0, qry, List.mem_map, List.mem_range] at hc
 obtain ⟨k, hk, rfl⟩ := hc
 show y < v
 simp only [cf0, chn, List.mem_map, List.mem_range] at hy
 rcases hy with rfl | ⟨i, hi, rfl⟩
 ·omega
 ·have h1 : (k + 1) * L <= S * L := Nat.mul_le_mul_right _ hk
  rw [Nat.add_mul] at h1
  have h2 : ((S * L : Nat) : Int) = (S : Int) * (L : Int) := by norm_cast
  have h3 : ((k * L : Nat) : Int) = (k : Int) * (L : Int) := by norm_cast
  omega
end Go.Aw
namespace Go.Aw
open Go
set_option linter.all false
set_option maxHeartbeats 4000000
theorem qpt {lim : Int} {l : List Wr} {n : Int} (h : qg3 lim l n = true) : 0 <= n := by
 unfold qg3 at h
 rcases hs : qe7 n with _ | _
 ·rw [hs] at h; simp at h
 ·simp [qe7] at hs; omega
theorem qpu {c : Cf} (hr : c.right = true) (h0 : 0 < c.ep) {e1 e2 : Int} (h1 : c.ep < e1) (h2 : c.ep < e2) (n : Int) (h : (c.remove n e1).2 = 0) : (c.remove n e2).2 = 0 := by
 have m1 := qdn hr h0 h1 (n := n) rfl
 have m2 := qdn hr h0 h2 (n := n) rfl
 unfold Cf.remove at h ⊢
 rw [m1] at h; rw [m2]
 split at h
 ·simp at h
 rename_i q; rw [if_neg q]
 split at h
 ·rename_i q; rw [if_pos q]
 rename_i q; rw [if_neg q]
 split at h
 ·simp at h
 rename_i q; rw [if_neg q]
 split at h
 ·simp at h
 rename_i q; rw [if_neg q]
theorem qnw {lim : Int} {l : List Wr} {c : Cf} : ∀ {us : List Int}, ¬ (ql3 lim l c us).1 = 0 -> ∃ k, ql3 lim l c us = (1, k) /\ k ∈ us /\ qg3 lim l k = true /\ (c.remove k (IntKind.u64.wrap (c.ep + 1))).2 = 0
 | [], h => absurd rfl h
 | k :: ks, h => by
  unfold ql3 at h ⊢
  split at h
  ·rename_i q
   rw [if_pos q]
   exact ⟨k, rfl, .head _, q.1, q.2⟩
  ·rename_i q
   rw [if_neg q]
   obtain ⟨j, a, b, d⟩ := qnw h
   exact ⟨j, a, .tail _ b, d⟩
theorem qnx {l : List Wr} {c : Cf} : ∀ {us : List Int} {i : Nat}, c.ch.drop i = us -> ¬ (ql4 l c us i).1 = 0 -> ∃ (k : Int) (p : Nat), ql4 l c us i = (4, k) /\ c.ch[p]? = some k /\ (c.fu[p]?).getD false = false
 | [], _, _, h => absurd rfl h
 | k :: ks, i, hd, h => by
  obtain ⟨hlt, hy, hd'⟩ := q1e hd
  unfold ql4 at h ⊢
  split at h
  ·rename_i q
   rw [if_pos q]
   exact ⟨k, i, rfl, hy, q.2.1⟩
  ·rename_i q
   rw [if_neg q]
   exact qnx hd' h
theorem qqb {o : Os} {lim : Int} {l : List Wr} : ∀ {m : Nat}, m <= 8 -> ¬ (spR o lim l m).1 = 0 -> ∃ k : Nat, spR o lim l m = (2, (k : Int)) /\ k < 8 /\ o.spare k = true
 | 0, _, h => absurd rfl h
 | m + 1, hm, h => by
  unfold spR at h ⊢
  split at h
  ·rename_i q
   rw [if_pos q]
   exact ⟨7 - m, rfl, by omega, q.2.1⟩
  ·rename_i q
   rw [if_neg q]
   exact qqb (by omega) h
structure Does (o : Os) (c : Cf) (m : Cm) : Prop where
 k : 1 <= m.k /\ m.k <= 4
 nd : 0 <= m.nd /\ m.nd <= 7
 v : m.nd < o.v
 has : m.k = 2 -> o.cs.any (·.has m.nd) = false
 ok : (o.chg m c).2 = 0
 mkd : m.k = 4 -> ∃ p : Nat, c.fu[p]? = some false /\ (o.chg m c).1 = ⟨c.ep, c.sh, c.ch, c.fu.set p true, c.ln⟩
theorem qw2 {o : Os} {lim : Int} {l : List Wr} (hg : Good o) (hf : Fit o) (hct : o.ct < 18446744073709551615) {k : Nat} {c : Cf} (hc : o.cs[k]? = some c) (h : ¬ (qhp o lim l c).1 = 0) :
  Does o c ⟨(qhp o lim l c).1, c.sh, c.ep, (qhp o lim l c).2⟩ /\ ((qhp o lim l c).1 = 1 -> qg3 lim l (qhp o lim l c).2 = true) := by
 obtain ⟨r1, r2, r3, r4⟩ := hg.one _ _ hc
 have R := (q08 c).1 r1
 have hct0 := hg.ct0
 have hw : IntKind.u64.wrap (o.ct + 1) = o.ct + 1 := IntWalk.u64_in _ (by omega)
 have hwe : IntKind.u64.wrap (c.ep + 1) = c.ep + 1 := IntWalk.u64_in _ (by omega)
 have hlt' : c.ep < o.ct + 1 := by omega
 have hfv := hf.2 c (List.mem_of_getElem? hc)
 have hmay := fun n => qdn r1 r3 hlt' (n := n) rfl
 have ht : ∀ n, 0 <= n -> n <= 7 -> srv n = true := fun n h0 h7 => by simp only [srv, decide_eq_true_eq]; omega
 have hln : ¬ c.ln = -1 -> 0 <= c.ln /\ c.ln <= 7 := fun q => by rcases R.ln with w | ⟨w1, w2, _⟩ <;> omega
 unfold qhp at h ⊢
 split
 ·rename_i q
  unfold qvu at q ⊢
  split at q
  case isFalse => exact absurd rfl q
  rename_i hs
  rw [if_pos hs]
  have h0 := qpt hs
  have hl := hln (by omega)
  refine ⟨⟨(show 1 <= (1 : Int) /\ (1 : Int) <= 4 by decide), hl, hfv _ (.inl rfl), fun w => absurd w (show ¬ (1 : Int) = 2 by decide), ?_, fun w => absurd w (show ¬ (1 : Int) = 4 by decide)⟩, fun _ => hs⟩
  unfold Os.chg Cf.remove
  rw [if_pos rfl, hw]
  simp only [hmay, ht _ hl.1 hl.2]
  rfl
 rename_i q1
 rw [if_neg q1] at h
 split
 ·rename_i q
  obtain ⟨n, e1, e2, e3, e4⟩ := qnw q
  rw [e1]
  have := R.srv n e2
  refine ⟨⟨(show 1 <= (1 : Int) /\ (1 : Int) <= 4 by decide), ⟨this.1, by simp only; omega⟩, hfv _ (.inr e2), fun w => absurd w (show ¬ (1 : Int) = 2 by decide), ?_, fun w => absurd w (show ¬ (1 : Int) = 4 by decide)⟩, fun _ => e3⟩
  unfold Os.chg
  rw [if_pos rfl, hw]
  rw [hwe] at e4
  exact qpu r1 r3 (by omega) hlt' n e4
 rename_i q2
 rw [if_neg q2] at h
 split
 ·rename_i q
  obtain ⟨n, p, e1, e2, e3⟩ := qnx (i := 0) (List.drop_zero ..) q
  rw [e1]
  have hmem : n ∈ c.ch := List.mem_of_getElem? e2
  have := R.srv n hmem
  have hp : c.place n = p := by rw [qjy r1]; exact qy9 R.nd e2
  have hpl : p < c.fu.length := by rw [R.fu]; exact (List.getElem?_eq_some_iff.1 e2).1
  have e4 : c.fu[p]? = some false := by
   rw [List.getElem?_eq_getElem hpl] at e3 ⊢
   simpa using e3
  have em : c.mark n = (⟨c.ep, c.sh, c.ch, c.fu.set p true, c.ln⟩, 0) := by
   unfold Cf.mark
   rw [r1, ht n this.1 (by omega), hp, if_neg (by decide), if_neg (by omega), Int.toNat_natCast, e4]
   rfl
  have ec : o.chg ⟨4, c.sh, c.ep, n⟩ c = c.mark n := by
   unfold Os.chg
   rw [if_neg (show ¬ (4 : Int) = 1 by decide), if_neg (show ¬ (4 : Int) = 2 by decide), if_neg (show ¬ (4 : Int) = 3 by decide)]
  refine ⟨⟨(show 1 <= (4 : Int) /\ (4 : Int) <= 4 by decide), ⟨this.1, by simp only; omega⟩, hfv _ (.inr hmem), fun w => absurd w (show ¬ (4 : Int) = 2 by decide), ?_, fun _ => ⟨p, e4, ?_⟩⟩, fun w => absurd w (show ¬ (4 : Int) = 1 by decide)⟩
  ·rw [ec, em]
  ·rw [ec, em]
 rename_i q3
 rw [if_neg q3] at h
 split
 ·rename_i q
  unfold qvv at q ⊢
  split at q
  case isFalse => exact absurd rfl q
  rename_i hs
  rw [if_pos hs]
  have hl := hln hs.2.1
  refine ⟨⟨(show 1 <= (3 : Int) /\ (3 : Int) <= 4 by decide), hl, hfv _ (.inl rfl), fun w => absurd w (show ¬ (3 : Int) = 2 by decide), ?_, fun w => absurd w (show ¬ (3 : Int) = 4 by decide)⟩, fun w => absurd w (show ¬ (3 : Int) = 1 by decide)⟩
  unfold Os.chg Cf.promote
  rw [if_neg (show ¬ (3 : Int) = 1 by decide), if_neg (show ¬ (3 : Int) = 2 by decide), if_pos rfl, hw]
  simp only [hmay, ht _ hl.1 hl.2]
  simp
 rename_i q4
 rw [if_neg q4] at h
 unfold qw5 at h ⊢
 split at h
 ·exact absurd rfl h
 rename_i hs
 rw [if_neg hs]
 obtain ⟨n, e1, e2, e3⟩ := qqb (Nat.le_refl 8) h
 rw [e1]
 unfold Os.spare at e3
 simp only [Bool.and_eq_true, decide_eq_true_eq, Bool.not_eq_true'] at e3
 have hno : c.has n = false := by
  have := e3.2
  rw [List.any_eq_false] at this
  simpa using this c (List.mem_of_getElem? hc)
 have hln1 : c.ln = -1 := Classical.byContradiction fun w => hs (.inl w)
 refine ⟨⟨(show 1 <= (2 : Int) /\ (2 : Int) <= 4 by decide), ⟨by simp only; omega, by simp only; omega⟩, e3.1.2, fun _ => e3.2, ?_, fun w => absurd w (show ¬ (2 : Int) = 4 by decide)⟩, fun w => absurd w (show ¬ (2 : Int) = 1 by decide)⟩
 unfold Os.chg Cf.learn
 rw [if_neg (show ¬ (2 : Int) = 1 by decide), if_pos rfl, hw]
 simp only [hmay, ht _ (show (0 : Int) <= n by omega) (by omega), hno, hln1]
 simp
end Go.Aw
