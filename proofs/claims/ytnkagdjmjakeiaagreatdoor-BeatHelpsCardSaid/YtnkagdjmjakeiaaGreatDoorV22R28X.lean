import Derived.Test.YtnkagdjmjakeiaaGreatDoorV22G21I
import Derived.Test.YtnkagdjmjakeiaaGreatDoorV22R28K
import Derived.Test.YtnkagdjmjakeiaaGreatDoorV22T16D
namespace Go.Aw
open Go
open Go.Proofs.Tryz (prog)
set_option linter.all false
set_option maxHeartbeats 4000000
theorem qvt {S L : Nat} {v : Int} (h : sok S L v = true) : Good (os0 S L v) := by
 have hh := of_decide_eq_true h
 have hS : S <= 4 := by omega
 have hSL : S * L <= 8 := by
  have : ((S * L : Nat) : Int) = (S : Int) * (L : Int) := by norm_cast
  omega
 have hmem : ∀ k, k < S -> ∀ y, y ∈ chn (k : Int) L L -> ((k * L : Nat) : Int) <= y /\ y < ((k * L + L : Nat) : Int) := by
  intro k hk y hy
  simp only [chn, List.mem_map, List.mem_range] at hy
  obtain ⟨i, hi, rfl⟩ := hy
  have : ((k * L : Nat) : Int) = (k : Int) * (L : Int) := by norm_cast
  omega
 have hkl : ∀ k, k < S -> k * L + L <= 8 := fun k hk => by
  have : (k + 1) * L <= S * L := Nat.mul_le_mul_right _ hk
  rw [Nat.add_mul] at this; omega
 have hright : ∀ k, k < S -> (cf0 L k).right = true := fun k hk => by
  have hk8 := hkl k hk
  refine (q08 _).2 ⟨by simp only [cf0]; omega, by simp only [cf0]; omega, .inl rfl, by simp only [cf0, qg8]; omega, by simp only [cf0, qg8]; omega, by simp only [cf0, qg8, qju], ?_, ?_, fun y hy => ?_⟩
  ·simp only [cf0, qlb]
   rw [List.getElem?_replicate, if_pos (by omega)]
  ·simp only [cf0, chn]
   rw [List.nodup_iff_pairwise_ne, List.pairwise_map]
   exact (List.nodup_range (n := L)).imp fun hab he => hab (by omega)
  ·have := hmem k hk y hy
   omega
 have hget : ∀ (k : Nat) c, (os0 S L v).cs[k]? = some c -> k < S /\ c = cf0 L k := by
  intro k c hc
  simp only [os0, qry] at hc
  have hlt := (List.getElem?_eq_some_iff.1 hc).1
  simp only [List.length_map, List.length_range] at hlt
  rw [List.getElem?_map, List.getElem?_range hlt] at hc
  injection hc with hc
  exact ⟨hlt, hc.symm⟩
 refine ⟨by simp [os0, qry]; omega, by simp only [os0]; omega, by simp only [os0]; omega, fun k c hc => ?_, fun j k c d hc hd hjk => ?_⟩
 ·obtain ⟨h1, rfl⟩ := hget k c hc
  exact ⟨hright k h1, rfl, by simp only [cf0]; omega, by simp only [cf0, os0]; omega⟩
 ·obtain ⟨h1, rfl⟩ := hget j c hc
  obtain ⟨h2, rfl⟩ := hget k d hd
  refine ⟨by simp only [cf0]; omega, fun y hy => ?_⟩
  have a1 := (qga (hright j h1) y).1 hy.1
  have a2 := (qga (hright k h2) y).1 hy.2
  simp only [cf0] at a1 a2
  have b1 : y ∈ chn (j : Int) L L := by
   rcases a1.2 with q | q
   ·omega
   ·exact q
  have b2 : y ∈ chn (k : Int) L L := by
   rcases a2.2 with q | q
   ·omega
   ·exact q
  have c1 := hmem j h1 y b1
  have c2 := hmem k h2 y b2
  by_cases hlt : j < k
  ·have : (j + 1) * L <= k * L := Nat.mul_le_mul_right _ hlt
   rw [Nat.add_mul] at this; omega
  ·have : (k + 1) * L <= j * L := Nat.mul_le_mul_right _ (show k < j by omega)
   rw [Nat.add_mul] at this; omega
theorem qs4 {cs : List Cf} {c : Cm} (h1 : ∀ c ∈ cs, c.ep < 18446744073709551616) (h2 : c.ep < 18446744073709551616) : (txt cs c).length <= 40 := by
 unfold txt
 split
 ·simp
 split
 ·simp
 split
 ·rename_i hok
  refine wr4_len' hok ?_
  unfold txC
  split
  ·show qs1 cs c.sh < _
   unfold qs1 at?
   split
   ·rename_i x hx
    split at hx
    ·exact h1 _ (List.mem_of_getElem? hx)
    ·cases hx
   ·decide
  ·exact h2
 ·simp
where
 wr4_len' {c : Cm} (hok : c.ok = true) (he : c.ep < 18446744073709551616) : (wr4 c).length <= 40 := by
  have hh := of_decide_eq_true hok
  have l1 := q2x (n := c.k.toNat) (by omega)
  have l2 := q2x (n := c.sh.toNat) (by omega)
  have l3 := q2x (n := c.ep.toNat) (by omega)
  have l4 := q2x (n := c.nd.toNat) (by omega)
  simp only [wr4, List.length_append]; omega
def qj3 (l : List Cm) : List AV := l.flatMap Cm.cells
theorem qpq {l : List Cm} {k : Nat} {c : Cm} (h : l[k]? = some c) : (qj3 l).drop (k * 4) = c.cells ++ qj3 (l.drop (k + 1)) := qfg (f := Cm.cells) (z := 4) (fun _ => rfl) h
theorem qns (l : List Cm) : (qj3 l).length = l.length * 4 := q5s (f := Cm.cells) (z := 4) (fun _ => rfl) l
structure Two (T0 T : Tab) (a ia b ib : Nat) (oa ob : Os) : Prop where
 sa : St T a ia oa
 sb : St T b ib ob
 n1 : a ≠ b
 n2 : a ≠ ib
 n3 : ia ≠ b
 n4 : ia ≠ ib
 le : TabLe T0 T
 u : T0 a = .unused /\ T0 ia = .unused /\ T0 b = .unused /\ T0 ib = .unused
theorem Two.setA {T0 T : Tab} {a ia b ib : Nat} {oa ob : Os} (h : Two T0 T a ia b ib oa ob) (o : Os) : Two T0 (oT T a ia o) a ia b ib o ob := by
 refine ⟨qky h.sa.ne, ⟨?_, ?_⟩, h.n1, h.n2, h.n3, h.n4, ?_, h.u⟩
 ·rw [oT, Tab.put_ne _ _ (Ne.symm h.n3), Tab.put_ne _ _ (Ne.symm h.n1)]; exact h.sb.1
 ·rw [oT, Tab.put_ne _ _ (Ne.symm h.n4), Tab.put_ne _ _ (Ne.symm h.n2)]; exact h.sb.2
 ·exact (h.le.put h.u.1).put h.u.2.1
theorem Two.setB {T0 T : Tab} {a ia b ib : Nat} {oa ob : Os} (h : Two T0 T a ia b ib oa ob) (o : Os) : Two T0 (oT T b ib o) a ia b ib oa o := by
 refine ⟨⟨?_, ?_⟩, qky h.sb.ne, h.n1, h.n2, h.n3, h.n4, ?_, h.u⟩
 ·rw [oT, Tab.put_ne _ _ h.n2, Tab.put_ne _ _ h.n1]; exact h.sa.1
 ·rw [oT, Tab.put_ne _ _ h.n4, Tab.put_ne _ _ h.n3]; exact h.sa.2
 ·exact (h.le.put h.u.2.2.1).put h.u.2.2.2
theorem qs5 {s l v : Int} (h : sok s l v = true) : ∃ S L : Nat, s = S /\ l = L := by
 have hh := of_decide_eq_true h
 exact ⟨s.toNat, l.toNat, by omega, by omega⟩
end Go.Aw
namespace Go.Aw
open Go
open Go.Proofs.Tryz (prog)
set_option linter.all false
set_option maxHeartbeats 4000000
end Go.Aw
