import Derived.Test.YtnkagdjmjakeiaaGreatDoorV22G21I
namespace Go.Aw
open Go
open Go.Proofs.Tryz (prog)
set_option linter.all false
set_option maxHeartbeats 4000000
theorem z0k {S L : Nat} {v : Int} (h : sok S L v = true) : Good (os0 S L v) := by
 have hh := of_decide_eq_true h
 have hS : S <= 4 := by omega
 have hSL : S * L <= 8 := by
  have : ((S * L : Nat) : Int) = (S : Int) * (L : Int) := by norm_cast
  omega
 have hmem : ∀ k, k < S -> ∀ y, y ∈ chn (k : Int) L L -> ((k * L : Nat) : Int) <= y /\ y < ((k * L + L : Nat) : Int) := by
  intro k hk y hy
  simp only [chn, List.mem_map, List.mem_range] at hy
  obtain ⟨i, hi, rfl⟩ := hy
  have : ((k * L : Nat) : Int) = (k : Int) * (L : Int) := by norm_cast
  omega
 have hkl : ∀ k, k < S -> k * L + L <= 8 := fun k hk => by
  have : (k + 1) * L <= S * L := Nat.mul_le_mul_right _ hk
  rw [Nat.add_mul] at this; omega
 have hright : ∀ k, k < S -> (cf0 L k).right = true := fun k hk => by
  have hk8 := hkl k hk
  refine (q0v _).2 ⟨by simp only [cf0]; omega, by simp only [cf0]; omega, .inl rfl, by simp only [cf0, qjw]; omega, by simp only [cf0, qjw]; omega, by simp only [cf0, qjw, qny], ?_, ?_, fun y hy => ?_⟩
  ·simp only [cf0, qll]
   rw [List.getElem?_replicate, if_pos (by omega)]
  ·simp only [cf0, chn]
   rw [List.nodup_iff_pairwise_ne, List.pairwise_map]
   exact (List.nodup_range (n := L)).imp fun hab he => hab (by omega)
  ·have := hmem k hk y hy
   omega
 have hget : ∀ (k : Nat) c, (os0 S L v).cs[k]? = some c -> k < S /\ c = cf0 L k := by
  intro k c hc
  simp only [os0, qus] at hc
  have hlt := (List.getElem?_eq_some_iff.1 hc).1
  simp only [List.length_map, List.length_range] at hlt
  rw [List.getElem?_map, List.getElem?_range hlt] at hc
  injection hc with hc
  exact ⟨hlt, hc.symm⟩
 refine ⟨by simp [os0, qus]; omega, by simp only [os0]; omega, by simp only [os0]; omega, fun k c hc => ?_, fun j k c d hc hd hjk => ?_⟩
 ·obtain ⟨h1, rfl⟩ := hget k c hc
  exact ⟨hright k h1, rfl, by simp only [cf0]; omega, by simp only [cf0, os0]; omega⟩
 ·obtain ⟨h1, rfl⟩ := hget j c hc
  obtain ⟨h2, rfl⟩ := hget k d hd
  refine ⟨by simp only [cf0]; omega, fun y hy => ?_⟩
  have a1 := (qex (hright j h1) y).1 hy.1
  have a2 := (qex (hright k h2) y).1 hy.2
  simp only [cf0] at a1 a2
  have b1 : y ∈ chn (j : Int) L L := by
   rcases a1.2 with q | q
   ·omega
   ·exact q
  have b2 : y ∈ chn (k : Int) L L := by
   rcases a2.2 with q | q
   ·omega
   ·exact q
  have c1 := hmem j h1 y b1
  have c2 := hmem k h2 y b2
  by_cases hlt : j < k
  ·have : (j + 1) * L <= k * L := Nat.mul_le_mul_right _ hlt
   rw [Nat.add_mul] at this; omega
  ·have : (k + 1) * L <= j * L := Nat.mul_le_mul_right _ (show k < j by omega)
   rw [Nat.add_mul] at this; omega
theorem z3o (o : Os) (c : Cm) : (o.do c).1.n = o.n /\ (o.do c).1.s = o.s /\ (o.do c).1.l = o.l /\ (o.do c).1.v = o.v := by
 unfold Os.do
 split
 ·exact ⟨rfl, rfl, rfl, rfl⟩
 repeat' split
 all_goals exact ⟨rfl, rfl, rfl, rfl⟩
theorem qws (o : Os) (val : List UInt8) : (o.apply val).1.n = IntKind.i64.wrap (o.n + 1) /\ (o.apply val).1.s = o.s /\ (o.apply val).1.l = o.l /\ (o.apply val).1.v = o.v := by
 unfold Os.apply
 split
 ·exact ⟨rfl, rfl, rfl, rfl⟩
 split
 ·exact z3o o.step _
 ·exact ⟨rfl, rfl, rfl, rfl⟩
theorem qwt {cs : List Cf} {c : Cm} (h1 : ∀ c ∈ cs, c.ep < 18446744073709551616) (h2 : c.ep < 18446744073709551616) : (txt cs c).length <= 40 := by
 unfold txt
 split
 ·simp
 split
 ·simp
 split
 ·rename_i hok
  refine wr4_len' hok ?_
  unfold txC
  split
  ·show qwp cs c.sh < _
   unfold qwp at?
   split
   ·rename_i x hx
    split at hx
    ·exact h1 _ (List.mem_of_getElem? hx)
    ·cases hx
   ·decide
  ·exact h2
 ·simp
where
 wr4_len' {c : Cm} (hok : c.ok = true) (he : c.ep < 18446744073709551616) : (wr4 c).length <= 40 := by
  have hh := of_decide_eq_true hok
  have l1 := q8r (n := c.k.toNat) (by omega)
  have l2 := q8r (n := c.sh.toNat) (by omega)
  have l3 := q8r (n := c.ep.toNat) (by omega)
  have l4 := q8r (n := c.nd.toNat) (by omega)
  simp only [wr4, List.length_append]; omega
def qn2 (l : List Cm) : List AV := l.flatMap Cm.cells
theorem qu4 {l : List Cm} {k : Nat} {c : Cm} (h : l[k]? = some c) : (qn2 l).drop (k * 4) = c.cells ++ qn2 (l.drop (k + 1)) := qem (f := Cm.cells) (z := 4) (fun _ => rfl) h
theorem qs4 (l : List Cm) : (qn2 l).length = l.length * 4 := q4g (f := Cm.cells) (z := 4) (fun _ => rfl) l
structure Two (T0 T : Tab) (a ia b ib : Nat) (oa ob : Os) : Prop where
 sa : St T a ia oa
 sb : St T b ib ob
 n1 : a ≠ b
 n2 : a ≠ ib
 n3 : ia ≠ b
 n4 : ia ≠ ib
 le : TabLe T0 T
 u : T0 a = .unused /\ T0 ia = .unused /\ T0 b = .unused /\ T0 ib = .unused
theorem qwu {s l v : Int} (h : sok s l v = true) : ∃ S L : Nat, s = S /\ l = L := by
 have hh := of_decide_eq_true h
 exact ⟨s.toNat, l.toNat, by omega, by omega⟩
end Go.Aw
