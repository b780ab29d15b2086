import Derived.Test.YtnkagdjmjakeiaaGreatDoorV22G21G
namespace Go.Aw
open Go
set_option linter.all false
set_option maxHeartbeats 4000000
structure Turned (o a : Cf) (e n : Int) (q : Prop) : Prop where
 right : a.right = true
 sh : a.sh = o.sh
 ep : a.ep = e \/ a.ep = o.ep
 first : ∃ x, a.ch[0]? = some x /\ x ∈ o.ch
 mem : ∀ y, 0 <= y -> (y = a.ln \/ y ∈ a.ch) -> (y = o.ln \/ y ∈ o.ch) \/ (q /\ y = n)
theorem qas {o : Cf} (R : RightP o) : ∃ x, o.ch[0]? = some x /\ x ∈ o.ch := by
 have := R.pos
 exact ⟨o.ch[0], List.getElem?_eq_getElem this, List.getElem_mem ..⟩
section
variable {o : Cf} (hr : o.right = true) (h0 : 0 < o.ep) {e n : Int} (he : o.ep < e)
include hr h0 he
theorem qdn {b : Bool} (h : o.may n e = b) : b = srv n := by
 rw [<- h]
 simp only [Cf.may, hr, Bool.true_and]
 rw [show decide (e <= o.ep) = false from decide_eq_false (by omega)]
 simp
theorem qat (h : (o.remove n e).2 = 0) : Turned o (o.remove n e).1 e n False := by
 have R := (q08 o).1 hr
 unfold Cf.remove at h ⊢
 split at h
 ·simp at h
 rename_i hm
 rw [if_neg hm]
 split at h
 ·rename_i hln
  rw [if_pos hln]
  refine ⟨(q08 _).2 ⟨by simp only; omega, R.sh, .inl rfl, R.pos, R.le, R.fu, R.fu0, R.nd, R.srv⟩, rfl, .inl rfl, (qas R : ∃ x, o.ch[0]? = some x /\ x ∈ o.ch), fun y hy h => ?_⟩
  simp only at h
  rcases h with h | h
  ·omega
  ·exact .inl (.inr h)
 rename_i hln
 rw [if_neg hln]
 split at h
 ·simp at h
 rename_i hpl
 rw [if_neg hpl]
 split at h
 ·simp at h
 rename_i hc
 rw [if_neg hc]
 obtain ⟨k, hk⟩ : ∃ k : Nat, o.place n = k := ⟨(o.place n).toNat, by omega⟩
 have hlt := o.place_lt n
 rw [hk] at hc hlt ⊢
 rw [Int.toNat_natCast]
 have hkl : k < o.ch.length := by omega
 have hsub := List.eraseIdx_sublist o.ch k
 have hle : (o.ch.eraseIdx k).length = o.ch.length - 1 := List.length_eraseIdx_of_lt hkl
 have hl1 : ¬ o.ch.length = 1 := fun e => hc (.inl e)
 have hpos := R.pos
 refine ⟨(q08 _).2 ⟨by simp only; omega, R.sh, ?_, by simp only [hle]; omega, by simp only [hle]; have := R.le; omega, ?_, ?_, R.nd.sublist hsub, fun y hy => R.srv y (hsub.subset hy)⟩, rfl, .inl rfl, ?_, fun y hy h => ?_⟩
 ·rcases R.ln with h | ⟨h1, h2, h3⟩
  ·exact .inl h
  ·exact .inr ⟨h1, h2, fun hm => h3 (hsub.subset hm)⟩
 ·simp only; rw [hle, List.length_eraseIdx_of_lt (by rw [R.fu]; omega), R.fu]
 ·simp only
  rw [List.getElem?_eraseIdx]
  by_cases h3 : k = 0
  ·subst h3
   simp only [Nat.lt_irrefl, if_false, Nat.zero_add]
   have h4 : 1 < o.fu.length := by rw [R.fu]; omega
   have h5 : ¬ o.fu[1]? = some false := fun e => hc (.inr ⟨rfl, e⟩)
   rw [List.getElem?_eq_getElem h4] at h5 ⊢
   cases hb : o.fu[1] with
   | true => rfl
   | false => rw [hb] at h5; exact absurd rfl h5
  ·rw [if_pos (by omega)]; exact R.fu0
 ·have hp : 0 < (o.ch.eraseIdx k).length := by omega
  exact ⟨(o.ch.eraseIdx k)[0], List.getElem?_eq_getElem hp, hsub.subset (List.getElem_mem ..)⟩
 ·simp only at h
  rcases h with h | h
  ·exact .inl (.inl h)
  ·exact .inl (.inr (hsub.subset h))
theorem qbx (h : (o.learn n e).2 = 0) : Turned o (o.learn n e).1 e n True := by
 have R := (q08 o).1 hr
 have hmayr := fun b => qdn hr h0 he (n := n) (b := b)
 unfold Cf.learn at h ⊢
 split at h
 ·simp at h
 rename_i hm
 rw [if_neg hm]
 split at h
 ·simp at h
 rename_i hh
 rw [if_neg hh]
 split at h
 ·simp at h
 rename_i hln
 rw [if_neg hln]
 have hs : srv n = true := by rw [<- hmayr true (by simpa using hm)]
 simp only [srv, decide_eq_true_eq] at hs
 have hno : ¬ n ∈ o.ch := fun hm => hh (by simp [Cf.has, hr, hs.1, qbe, hm])
 refine ⟨(q08 _).2 ⟨by simp only; omega, R.sh, .inr ⟨hs.1, hs.2, hno⟩, R.pos, R.le, R.fu, R.fu0, R.nd, R.srv⟩, rfl, .inl rfl, (qas R : ∃ x, o.ch[0]? = some x /\ x ∈ o.ch), fun y hy h => ?_⟩
 simp only at h
 rcases h with h | h
 ·exact .inr ⟨trivial, h⟩
 ·exact .inl (.inr h)
theorem q8h (h : (o.promote n e).2 = 0) : Turned o (o.promote n e).1 e n False := by
 have R := (q08 o).1 hr
 have hmayr := fun b => qdn hr h0 he (n := n) (b := b)
 unfold Cf.promote at h ⊢
 split at h
 ·simp at h
 rename_i hm
 rw [if_neg hm]
 split at h
 ·simp at h
 rename_i hln
 rw [if_neg hln]
 have hln : n = o.ln := by simpa using hln
 have hs : srv n = true := by rw [<- hmayr true (by simpa using hm)]
 simp only [srv, decide_eq_true_eq] at hs
 have hno : ¬ n ∈ o.ch := by
  rcases R.ln with h | ⟨_, _, h3⟩
  ·omega
  ·rw [hln]; exact h3
 have hnd : (o.ch ++ [n]).Nodup := by
  rw [List.nodup_append]
  refine ⟨R.nd, by simp, fun a ha b hb e => ?_⟩
  simp at hb; subst hb; subst e; exact hno ha
 have hsv : ∀ y ∈ o.ch ++ [n], 0 <= y /\ y < 8 := by
  intro y hy
  rcases List.mem_append.1 hy with h | h
  ·exact R.srv y h
  ·simp at h; subst h; exact hs
 have hle := qqa 8 (o.ch ++ [n]) hnd (by simpa using hsv)
 have hpos := R.pos
 refine ⟨(q08 _).2 ⟨by simp only; omega, R.sh, .inl rfl, by simp, hle, by simp [R.fu], ?_, hnd, hsv⟩, rfl, .inl rfl, ?_, fun y hy h => ?_⟩
 ·simp only
  rw [List.getElem?_append_left (by rw [R.fu]; exact hpos)]; exact R.fu0
 ·obtain ⟨x, h1, h2⟩ := qas R
  refine ⟨x, ?_, h2⟩
  simp only
  rw [List.getElem?_append_left hpos]; exact h1
 ·simp only at h
  rcases h with h | h
  ·omega
  ·rcases List.mem_append.1 h with h | h
   ·exact .inl (.inr h)
   ·simp at h; exact .inl (.inl (by rw [h, hln]))
omit he in
theorem q9k (h : (o.mark n).2 = 0) : Turned o (o.mark n).1 e n False := by
 have R := (q08 o).1 hr
 unfold Cf.mark at h ⊢
 split at h
 ·simp at h
 rename_i hm
 rw [if_neg hm]
 split at h
 ·simp at h
 rename_i hpl
 rw [if_neg hpl]
 split at h
 ·simp at h
 rename_i hf
 rw [if_neg hf]
 have hpos := R.pos
 have hlt := o.place_lt n
 refine ⟨(q08 _).2 ⟨by simp only; omega, R.sh, R.ln, R.pos, R.le, by simp only [List.length_set]; exact R.fu, ?_, R.nd, R.srv⟩, rfl, .inr rfl, (qas R : ∃ x, o.ch[0]? = some x /\ x ∈ o.ch), fun y hy h => .inl h⟩
 simp only
 rw [List.getElem?_set]
 split
 ·rename_i h0
  rw [if_pos (by rw [R.fu]; omega)]
 ·exact R.fu0
end
theorem qga {c : Cf} (hr : c.right = true) (y : Int) : c.has y = true ↔ 0 <= y /\ (y = c.ln \/ y ∈ c.ch) := by
 simp [Cf.has, hr, qbe]
structure Good (o : Os) : Prop where
 len : o.cs.length <= 4
 ct0 : 0 <= o.ct
 ct1 : o.ct < 18446744073709551616
 one : ∀ (k : Nat) c, o.cs[k]? = some c -> c.right = true /\ c.sh = k /\ 0 < c.ep /\ c.ep <= o.ct
 two : ∀ (j k : Nat) c d, o.cs[j]? = some c -> o.cs[k]? = some d -> j ≠ k -> c.ep ≠ d.ep /\ ∀ y, ¬ (c.has y = true /\ d.has y = true)
structure Then (top : Int) (was now : Cf) : Prop where
 le : was.ep <= now.ep
 new : was.ep < now.ep -> top < now.ep
 head : 0 <= was.place (now.at 0)
theorem at0 {c : Cf} (hr : c.right = true) {x : Int} (h : c.ch[0]? = some x) : c.at 0 = x := by
 have hp := (Cf.right_len hr).1
 unfold Cf.at
 rw [if_pos ⟨hr, Int.le_refl _, by omega⟩, show (0 : Int).toNat = 0 from rfl, h]
 rfl
theorem qhl {c : Cf} (hr : c.right = true) {x : Int} (h : x ∈ c.ch) : 0 <= c.place x := by
 rw [qjy hr]
 have : ctn c.ch x = true := by rw [qbe]; exact decide_eq_true h
 exact of_decide_eq_true this
theorem Then.same {c : Cf} (hr : c.right = true) (top : Int) : Then top c c := by
 have R := (q08 c).1 hr
 obtain ⟨x, h1, h2⟩ := qas R
 exact ⟨Int.le_refl _, fun h => absurd h (Int.lt_irrefl _), by rw [at0 hr h1]; exact qhl hr h2⟩
theorem Good.of_cs {o o' : Os} (h : Good o) (h1 : o'.cs = o.cs) (h2 : o'.ct = o.ct) : Good o' := by
 obtain ⟨a, b, c, d, e⟩ := h
 exact ⟨by rw [h1]; exact a, by rw [h2]; exact b, by rw [h2]; exact c, by rw [h1, h2]; exact d, by rw [h1]; exact e⟩
def Thens (top : Int) (o o' : Os) : Prop := o'.cs.length = o.cs.length /\ ∀ (k : Nat) c d, o.cs[k]? = some c -> o'.cs[k]? = some d -> Then top c d
theorem Thens.same {o o' : Os} (h : Good o) (top : Int) (h1 : o'.cs = o.cs) : Thens top o o' := by
 refine ⟨by rw [h1], fun k c d hc hd => ?_⟩
 rw [h1, hc] at hd
 injection hd with hd
 subst hd
 exact .same (h.one k c hc).1 top
theorem qs3 {o : Os} (h : Good o) (c : Cm) : Good (o.do c).1 /\ Thens o.ct o (o.do c).1 := by
 have stay : ∀ e : Int, Good (o, e).1 /\ Thens o.ct o (o, e).1 := fun e => ⟨h, .same h _ rfl⟩
 unfold Os.do
 rcases hat : at? o.cs c.sh with _ | old
 ·exact stay 1
 simp only
 have hlt : 0 <= c.sh /\ o.cs[c.sh.toNat]? = some old := by
  unfold at? at hat
  split at hat
  ·exact ⟨by assumption, hat⟩
  ·cases hat
 split
 ·exact stay 1
 split
 ·exact stay 8
 split
 ·exact stay 9
 rename_i hfull
 split
 ·exact stay 7
 rename_i htak
 split
 ·exact stay _
 rename_i hok
 have hok : (o.chg c old).2 = 0 := by simpa using hok
 obtain ⟨r1, r2, r3, r4⟩ := h.one _ _ hlt.2
 have hct0 := h.ct0
 have hct1 := h.ct1
 obtain ⟨e, hle, hT, hct⟩ : ∃ e : Int, o.ct < e /\ Turned old (o.chg c old).1 e c.nd (c.k = 2) /\ ((o.chg c old).1.ep = old.ep \/ ¬ c.k = 4 /\ (o.chg c old).1.ep = o.ct + 1) := by
  by_cases h4 : o.ct = 18446744073709551615
  ·have hk4 : c.k = 4 := Classical.byContradiction fun hk => hfull ⟨hk, h4⟩
   have e1 : o.chg c old = old.mark c.nd := by unfold Os.chg; rw [if_neg (by omega), if_neg (by omega), if_neg (by omega)]
   rw [e1] at hok ⊢
   have := q9k r1 r3 (e := o.ct + 1) hok
   refine ⟨o.ct + 1, by omega, ⟨this.right, this.sh, this.ep, this.first, fun y hy hm => (this.mem y hy hm).imp id (fun q => q.1.elim)⟩, .inl ?_⟩
   unfold Cf.mark at hok ⊢
   split at hok; · simp at hok
   rename_i q1; rw [if_neg q1]
   split at hok; · simp at hok
   rename_i q2; rw [if_neg q2]
   split at hok; · simp at hok
   rename_i q3; rw [if_neg q3]
  ·have hw : IntKind.u64.wrap (o.ct + 1) = o.ct + 1 := IntWalk.u64_in _ (by omega)
   refine ⟨o.ct + 1, by omega, ?_⟩
   unfold Os.chg at hok ⊢
   rw [hw] at hok ⊢
   have hlt' : old.ep < o.ct + 1 := by omega
   by_cases k1 : c.k = 1
   ·rw [if_pos k1] at hok ⊢
    have := qat r1 r3 hlt' hok
    refine ⟨⟨this.right, this.sh, this.ep, this.first, fun y hy hm => (this.mem y hy hm).imp id (fun q => q.1.elim)⟩, ?_⟩
    rcases this.ep with q | q
    ·exact .inr ⟨by omega, q⟩
    ·exact .inl q
   rw [if_neg k1] at hok ⊢
   by_cases k2 : c.k = 2
   ·rw [if_pos k2] at hok ⊢
    have := qbx r1 r3 hlt' hok
    refine ⟨⟨this.right, this.sh, this.ep, this.first, fun y hy hm => (this.mem y hy hm).imp id (fun q => ⟨k2, q.2⟩)⟩, ?_⟩
    rcases this.ep with q | q
    ·exact .inr ⟨by omega, q⟩
    ·exact .inl q
   rw [if_neg k2] at hok ⊢
   by_cases k3 : c.k = 3
   ·rw [if_pos k3] at hok ⊢
    have := q8h r1 r3 hlt' hok
    refine ⟨⟨this.right, this.sh, this.ep, this.first, fun y hy hm => (this.mem y hy hm).imp id (fun q => q.1.elim)⟩, ?_⟩
    rcases this.ep with q | q
    ·exact .inr ⟨by omega, q⟩
    ·exact .inl q
   rw [if_neg k3] at hok ⊢
   have := q9k r1 r3 (e := o.ct + 1) hok
   refine ⟨⟨this.right, this.sh, this.ep, this.first, fun y hy hm => (this.mem y hy hm).imp id (fun q => q.1.elim)⟩, .inl ?_⟩
   unfold Cf.mark at hok ⊢
   split at hok; · simp at hok
   rename_i q1; rw [if_neg q1]
   split at hok; · simp at hok
   rename_i q2; rw [if_neg q2]
   split at hok; · simp at hok
   rename_i q3; rw [if_neg q3]
 generalize o.chg c old = r at hok hT hct ⊢
 obtain ⟨a, code⟩ := r
 simp only at hok hT hct ⊢
 have hidx : c.sh.toNat < o.cs.length := (List.getElem?_eq_some_iff.1 hlt.2).1
 have hnew : ∀ ct' : Int, ct' = (if c.k = 4 then o.ct else IntKind.u64.wrap (o.ct + 1)) -> o.ct <= ct' /\ ct' < 18446744073709551616 /\ a.ep <= ct' := by
  intro ct' hc'
  by_cases hk4 : c.k = 4
  ·rw [if_pos hk4] at hc'
   rcases hct with q | ⟨q, _⟩
   ·omega
   ·exact absurd hk4 q
  ·rw [if_neg hk4] at hc'
   have hnf : ¬ o.ct = 18446744073709551615 := fun q => hfull ⟨hk4, q⟩
   have hw : IntKind.u64.wrap (o.ct + 1) = o.ct + 1 := IntWalk.u64_in _ (by omega)
   rw [hw] at hc'
   rcases hct with q | ⟨_, q⟩ <;> omega
 obtain ⟨n1, n2, n3⟩ := hnew _ rfl
 generalize (if c.k = 4 then o.ct else IntKind.u64.wrap (o.ct + 1)) = ct' at n1 n2 n3 ⊢
 have get : ∀ (k : Nat) d, (o.cs.set c.sh.toNat a)[k]? = some d -> (k = c.sh.toNat /\ d = a) \/ (k ≠ c.sh.toNat /\ o.cs[k]? = some d) := by
  intro k d hd
  rw [List.getElem?_set] at hd
  split at hd
  ·rename_i hk
   subst hk
   first | rw [if_pos hidx] at hd | skip
   injection hd with hd
   exact .inl ⟨rfl, hd.symm⟩
  ·rename_i hk
   exact .inr ⟨fun q => hk q.symm, hd⟩
 have epos : 0 < a.ep /\ (a.ep = old.ep \/ o.ct < a.ep) := by
  rcases hct with q | ⟨_, q⟩
  ·exact ⟨by omega, .inl q⟩
  ·exact ⟨by omega, .inr (by omega)⟩
 have hmem : ∀ (j : Nat) d, j ≠ c.sh.toNat -> o.cs[j]? = some d -> (∀ y, ¬ (a.has y = true /\ d.has y = true)) /\ a.ep ≠ d.ep := by
  intro j d hj hd
  obtain ⟨q1, q2, q3, q4⟩ := h.one j d hd
  obtain ⟨q5, q6⟩ := h.two _ _ _ _ hlt.2 hd (Ne.symm hj)
  refine ⟨fun y hy => ?_, ?_⟩
  ·have ha := (qga hT.right y).1 hy.1
   rcases hT.mem y ha.1 ha.2 with hm | ⟨hk2, hyn⟩
   ·exact q6 y ⟨(qga r1 y).2 ⟨ha.1, hm⟩, hy.2⟩
   ·refine htak ⟨hk2, ?_⟩
    rw [List.any_eq_true]
    exact ⟨d, List.mem_of_getElem? hd, by rw [<- hyn]; exact hy.2⟩
  ·rcases epos.2 with q | q
   ·rw [q]; exact q5
   ·omega
 refine ⟨⟨by simp only [List.length_set]; exact h.len, by simp only; omega, n2, fun k d hd => ?_, fun j k x y hx hy hjk => ?_⟩, ⟨by simp only [List.length_set], fun k x d hx hd => ?_⟩⟩
 ·rcases get k d hd with ⟨e1, e2⟩ | ⟨e1, e2⟩
  ·subst e1; subst e2
   exact ⟨hT.right, by rw [hT.sh, r2], epos.1, n3⟩
  ·obtain ⟨q1, q2, q3, q4⟩ := h.one k d e2
   exact ⟨q1, q2, q3, by simp only; omega⟩
 ·rcases get j x hx with ⟨e1, e2⟩ | ⟨e1, e2⟩
  ·rcases get k y hy with ⟨f1, f2⟩ | ⟨f1, f2⟩
   ·omega
   ·subst e2
    obtain ⟨m1, m2⟩ := hmem k y f1 f2
    exact ⟨m2, m1⟩
  ·rcases get k y hy with ⟨f1, f2⟩ | ⟨f1, f2⟩
   ·subst f2
    obtain ⟨m1, m2⟩ := hmem j x e1 e2
    exact ⟨Ne.symm m2, fun z hz => m1 z ⟨hz.2, hz.1⟩⟩
   ·exact h.two j k x y e2 f2 hjk
 ·rcases get k d hd with ⟨e1, e2⟩ | ⟨e1, e2⟩
  ·subst e1; subst e2
   rw [hlt.2] at hx
   injection hx with hx
   subst hx
   obtain ⟨z, z1, z2⟩ := hT.first
   refine ⟨?_, fun hq => ?_, by rw [at0 hT.right z1]; exact qhl r1 z2⟩
   ·rcases epos.2 with q | q <;> omega
   ·rcases epos.2 with q | q <;> omega
  ·rw [e2] at hx
   injection hx with hx
   subst hx
   exact .same (h.one k d e2).1 _
theorem ql1 {o : Os} (h : Good o) (val : List UInt8) : Good (o.apply val).1 /\ Thens o.ct o (o.apply val).1 := by
 have hs : Good o.step := h.of_cs rfl rfl
 unfold Os.apply
 split
 ·exact ⟨hs, .same h _ rfl⟩
 split
 ·exact qs3 hs _
 ·exact ⟨hs, .same h _ rfl⟩
theorem Good.small {o : Os} (h : Good o) : (∀ c ∈ o.cs, qaq c) /\ (∀ c ∈ o.cs, c.ep < 18446744073709551616) /\ Len o.cs.length /\ (∀ c ∈ o.cs, c.ch.length < 1000000000 /\ c.fu.length < 1000000000) /\ ∀ c ∈ o.cs, Len c.ch.length := by
 have get : ∀ c ∈ o.cs, c.right = true /\ c.ep <= o.ct := fun c hc => by
  obtain ⟨k, hk⟩ := List.mem_iff_getElem?.1 hc
  obtain ⟨q1, _, _, q4⟩ := h.one k c hk
  exact ⟨q1, q4⟩
 have hct := h.ct1
 have hlen := h.len
 refine ⟨fun c hc => ?_, fun c hc => ?_, by unfold Len; omega, fun c hc => ?_, fun c hc => ?_⟩
 ·obtain ⟨a, b, d⟩ := Cf.right_len (get c hc).1
  exact ⟨by omega, by omega⟩
 ·have := (get c hc).2; omega
 ·obtain ⟨a, b, d⟩ := Cf.right_len (get c hc).1
  exact ⟨by omega, by omega⟩
 ·obtain ⟨a, b, d⟩ := Cf.right_len (get c hc).1
  unfold Len; omega
end Go.Aw
