import Derived.Test.YtmicojcojlgefaaGreatZ29M17N
import Derived.Test.YtmicojcojlgefaaGreatZ29V28X
namespace Go.Aw
open Go
set_option linter.all false
set_option maxHeartbeats 8000000
set_option maxRecDepth 8000
theorem z3t (l : Lt Cf) (h : ∀ c ∈ l.cs, c.fu.length = c.ch.length) : ((l.cs.map Cf.plain).all Rf.right) = (!(l.cs.any z26)) := by
 generalize l.cs = cs at h
 induction cs with
 | nil => rfl
 | cons c cs ih =>
  simp only [List.map_cons, List.all_cons, List.any_cons, z26, Bool.not_or, Bool.not_not]
  rw [c.plain_right (h c (List.mem_cons_self ..)), ih (fun d hd => h d (List.mem_cons_of_mem _ hd))]
theorem z1g {α : Type} (p : α -> Bool) (l : List α) : l.all p = !(l.any fun x => !p x) := by
 induction l with
 | nil => rfl
 | cons x l ih => simp only [List.all_cons, List.any_cons, Bool.not_or, Bool.not_not, ih]
theorem q1b (t : Tx) : txE t t = true := by
 simp only [txE, decide_true, Bool.true_and]
 rw [qej (e := rdE) (fun x => by simp [rdE]), qej (e := wtE) (fun x => by simp [wtE])]; rfl
theorem q1j (l : List Vt) : eqL vtE l l = true := qej (fun x => by simp [vtE]) l
theorem q1k (l : List Cf) : eqL cfE l l = true := qej (fun x => by
 simp only [cfE, decide_true, Bool.true_and]
 rw [qej (e := z15) (fun x => by simp [z15]), qej (e := qqj) (fun x => by simp [qqj])]; rfl) l
theorem q1l (l : List En) : eqL enE l l = true := qej (fun x => by
 simp only [enE, decide_true, Bool.true_and, q1b]) l
theorem z3u (l : Lt Cf) : ltE l l = true := by
 simp only [ltE, decide_true, Bool.true_and, q1b, q1j, q1k, q1l]
theorem q0r (k : Int) : qai k [115, 104, 97, 114, 100] = (decide (k = 1) || decide (k = 12) || decide (k = 13) || decide (k = 14) || decide (k = 15) || decide (k = 16) || decide (k = 17) || decide (k = 18)) := by
 rcases qdz k with (rfl | rfl | rfl | rfl | rfl | rfl | rfl | rfl | rfl | rfl | rfl | rfl | rfl | rfl | rfl | rfl | rfl | rfl | rfl | rfl | rfl) | h
 any_goals (decide +kernel)
 simp only [qai, h, Bool.false_and, Z8 h 1, Z8 h 12, Z8 h 13, Z8 h 14, Z8 h 15, Z8 h 16, Z8 h 17, Z8 h 18, Bool.or_self]
theorem q0s (k : Int) : qai k [101, 112, 111, 99, 104] = (decide (k = 1) || decide (k = 12) || decide (k = 13) || decide (k = 14) || decide (k = 15)) := by
 rcases qdz k with (rfl | rfl | rfl | rfl | rfl | rfl | rfl | rfl | rfl | rfl | rfl | rfl | rfl | rfl | rfl | rfl | rfl | rfl | rfl | rfl | rfl) | h
 any_goals (decide +kernel)
 simp only [qai, h, Bool.false_and, Z8 h 1, Z8 h 12, Z8 h 13, Z8 h 14, Z8 h 15, Bool.or_self]
theorem qf2 (k : Int) : qai k [110] = (decide (k = 1) || decide (k = 2) || decide (k = 4) || decide (k = 5) || decide (k = 6) || decide (k = 7) || decide (k = 9) || decide (k = 10) || decide (k = 11) || decide (k = 12) || decide (k = 13) || decide (k = 14) || decide (k = 15) || decide (k = 16) || decide (k = 21)) := by
 rcases qdz k with (rfl | rfl | rfl | rfl | rfl | rfl | rfl | rfl | rfl | rfl | rfl | rfl | rfl | rfl | rfl | rfl | rfl | rfl | rfl | rfl | rfl) | h
 any_goals (decide +kernel)
 simp only [qai, h, Bool.false_and, Z8 h 1, Z8 h 2, Z8 h 4, Z8 h 5, Z8 h 6, Z8 h 7, Z8 h 9, Z8 h 10, Z8 h 11, Z8 h 12, Z8 h 13, Z8 h 14, Z8 h 15, Z8 h 16, Z8 h 21, Bool.or_self]
theorem qf3 (k : Int) : qai k [109] = (decide (k = 12)) := by
 rcases qdz k with (rfl | rfl | rfl | rfl | rfl | rfl | rfl | rfl | rfl | rfl | rfl | rfl | rfl | rfl | rfl | rfl | rfl | rfl | rfl | rfl | rfl) | h
 any_goals (decide +kernel)
 simp only [qai, h, Bool.false_and, Z8 h 12, Bool.or_self]
theorem q1w (k : Int) : qai k [110, 111, 100, 101] = (decide (k = 15)) := by
 rcases qdz k with (rfl | rfl | rfl | rfl | rfl | rfl | rfl | rfl | rfl | rfl | rfl | rfl | rfl | rfl | rfl | rfl | rfl | rfl | rfl | rfl | rfl) | h
 any_goals (decide +kernel)
 simp only [qai, h, Bool.false_and, Z8 h 15, Bool.or_self]
theorem q1x (k : Int) : qai k [102, 108, 97, 103] = (decide (k = 1) || decide (k = 13)) := by
 rcases qdz k with (rfl | rfl | rfl | rfl | rfl | rfl | rfl | rfl | rfl | rfl | rfl | rfl | rfl | rfl | rfl | rfl | rfl | rfl | rfl | rfl | rfl) | h
 any_goals (decide +kernel)
 simp only [qai, h, Bool.false_and, Z8 h 1, Z8 h 13, Bool.or_self]
theorem I9 (k : Int) : qai k [98, 97, 108, 108, 111, 116] = (decide (k = 4) || decide (k = 5) || decide (k = 6) || decide (k = 7) || decide (k = 8) || decide (k = 11)) := by
 rcases qdz k with (rfl | rfl | rfl | rfl | rfl | rfl | rfl | rfl | rfl | rfl | rfl | rfl | rfl | rfl | rfl | rfl | rfl | rfl | rfl | rfl | rfl) | h
 any_goals (decide +kernel)
 simp only [qai, h, Bool.false_and, Z8 h 4, Z8 h 5, Z8 h 6, Z8 h 7, Z8 h 8, Z8 h 11, Bool.or_self]
theorem q0t (k : Int) : qai k [118, 111, 116, 101, 115] = (decide (k = 5)) := by
 rcases qdz k with (rfl | rfl | rfl | rfl | rfl | rfl | rfl | rfl | rfl | rfl | rfl | rfl | rfl | rfl | rfl | rfl | rfl | rfl | rfl | rfl | rfl) | h
 any_goals (decide +kernel)
 simp only [qai, h, Bool.false_and, Z8 h 5, Bool.or_self]
theorem q0u (k : Int) : qai k [99, 111, 110, 102, 115] = (decide (k = 2)) := by
 rcases qdz k with (rfl | rfl | rfl | rfl | rfl | rfl | rfl | rfl | rfl | rfl | rfl | rfl | rfl | rfl | rfl | rfl | rfl | rfl | rfl | rfl | rfl) | h
 any_goals (decide +kernel)
 simp only [qai, h, Bool.false_and, Z8 h 2, Bool.or_self]
theorem Z4 (k : Int) : qai k [101, 110, 116, 114, 105, 101, 115] = (decide (k = 12)) := by
 rcases qdz k with (rfl | rfl | rfl | rfl | rfl | rfl | rfl | rfl | rfl | rfl | rfl | rfl | rfl | rfl | rfl | rfl | rfl | rfl | rfl | rfl | rfl) | h
 any_goals (decide +kernel)
 simp only [qai, h, Bool.false_and, Z8 h 12, Bool.or_self]
theorem q3w (k : Int) : qai k [116, 120, 110] = (decide (k = 17) || decide (k = 20)) := by
 rcases qdz k with (rfl | rfl | rfl | rfl | rfl | rfl | rfl | rfl | rfl | rfl | rfl | rfl | rfl | rfl | rfl | rfl | rfl | rfl | rfl | rfl | rfl) | h
 any_goals (decide +kernel)
 simp only [qai, h, Bool.false_and, Z8 h 17, Z8 h 20, Bool.or_self]
theorem q95 (k : Int) : qai k [105, 100] = (decide (k = 15) || decide (k = 16) || decide (k = 18) || decide (k = 19) || decide (k = 21)) := by
 rcases qdz k with (rfl | rfl | rfl | rfl | rfl | rfl | rfl | rfl | rfl | rfl | rfl | rfl | rfl | rfl | rfl | rfl | rfl | rfl | rfl | rfl | rfl) | h
 any_goals (decide +kernel)
 simp only [qai, h, Bool.false_and, Z8 h 15, Z8 h 16, Z8 h 18, Z8 h 19, Z8 h 21, Bool.or_self]
theorem q3x (k : Int) : qai k [118, 97, 108] = (decide (k = 6) || decide (k = 9) || decide (k = 15) || decide (k = 16) || decide (k = 19) || decide (k = 21)) := by
 rcases qdz k with (rfl | rfl | rfl | rfl | rfl | rfl | rfl | rfl | rfl | rfl | rfl | rfl | rfl | rfl | rfl | rfl | rfl | rfl | rfl | rfl | rfl) | h
 any_goals (decide +kernel)
 simp only [qai, h, Bool.false_and, Z8 h 6, Z8 h 9, Z8 h 15, Z8 h 16, Z8 h 19, Z8 h 21, Bool.or_self]
theorem q3y (k : Int) : qai k [110, 117, 109] = (decide (k = 12) || decide (k = 21)) := by
 rcases qdz k with (rfl | rfl | rfl | rfl | rfl | rfl | rfl | rfl | rfl | rfl | rfl | rfl | rfl | rfl | rfl | rfl | rfl | rfl | rfl | rfl | rfl) | h
 any_goals (decide +kernel)
 simp only [qai, h, Bool.false_and, Z8 h 12, Z8 h 21, Bool.or_self]
theorem q1y (k : Int) : qai k [99, 111, 100, 101] = (decide (k = 18) || decide (k = 21)) := by
 rcases qdz k with (rfl | rfl | rfl | rfl | rfl | rfl | rfl | rfl | rfl | rfl | rfl | rfl | rfl | rfl | rfl | rfl | rfl | rfl | rfl | rfl | rfl) | h
 any_goals (decide +kernel)
 simp only [qai, h, Bool.false_and, Z8 h 18, Z8 h 21, Bool.or_self]
theorem z3v (l : Lt Cf) (h : ∀ c ∈ l.cs, c.fu.length = c.ch.length) : rrF l.plain = lrF l := by
 have e1 : l.vs.all qyt = !(l.vs.any z3m) := z1g _ _
 have e2 := z3t l h
 have e3 : l.es.all qoz = !(l.es.any z3n) := z1g _ _
 have ek : l.plain.k = l.k := rfl
 have v0 : l.vs.length = 0 -> l.vs.any z3m = false := fun h => by rw [List.length_eq_zero_iff.1 h]; rfl
 have c0 : l.cs.length = 0 -> l.cs.any z26 = false := fun h => by rw [List.length_eq_zero_iff.1 h]; rfl
 have s0 : l.es.length = 0 -> l.es.any z3n = false := fun h => by rw [List.length_eq_zero_iff.1 h]; rfl
 rcases qdz l.k with (hk | hk | hk | hk | hk | hk | hk | hk | hk | hk | hk | hk | hk | hk | hk | hk | hk | hk | hk | hk | hk) | hk
 ·have eb : baF l l.bare0 (qa8 1) = ⟨l.fk, l.fn, l.tk, l.tn, l.k, l.sh, l.ep, l.n, 0, 0, l.fl, 0, 0, [], [], [], zT, 0, 0, [], 0, 0⟩ := rfl
  have em : ((qa8 1).all fun s => maF l s.toNat) = ((decide (0 <= l.sh) && decide (l.sh < 4)) && (true && (qe0 l.n && (true && true)))) := rfl
  rw [Bool.eq_iff_iff]
  simp only [lrF, rrF, e1, rc1, rc2, rc3, rc4, rc5, eb, em, e2, e3, qp7, Lt.plain, List.length_map, q0r, q0s, qf2, qf3, q1w, q1x, I9, q0t, q0u, Z4, q3w, q95, q3x, q3y, q1y, hk, qf1, Int.reduceEq, Int.reduceLT, Int.reduceLE, decide_false, decide_true, Bool.or_false, Bool.false_or, Bool.or_true, Bool.true_or, Bool.not_true, Bool.not_false, Bool.and_true, Bool.true_and, Bool.and_false, Bool.false_and, inF, if_true, if_false, Bool.false_eq_true, reduceIte, ltE, q1b, q1j, q1k, q1l, q3d, qe0, qcd, qce, qcf, and_self]
  clear e1 e2 e3 h
  clear eb em
  simp only [Bool.and_eq_true, Bool.or_eq_true, Bool.not_eq_true', Bool.and_eq_false_iff, Bool.or_eq_false_iff, Bool.not_eq_false', decide_eq_true_eq, decide_eq_false_iff_not]
  grind
 ·have eb : baF l l.bare0 (qa8 2) = ⟨l.fk, l.fn, l.tk, l.tn, l.k, 0, 0, l.n, 0, 0, false, 0, 0, [], l.cs, [], zT, 0, 0, [], 0, 0⟩ := rfl
  have em : ((qa8 2).all fun s => maF l s.toNat) = (qe0 l.n && (qce l.cs && true)) := rfl
  rw [Bool.eq_iff_iff]
  simp only [lrF, rrF, e1, rc1, rc2, rc3, rc4, rc5, eb, em, e2, e3, qp7, Lt.plain, List.length_map, q0r, q0s, qf2, qf3, q1w, q1x, I9, q0t, q0u, Z4, q3w, q95, q3x, q3y, q1y, hk, qf1, Int.reduceEq, Int.reduceLT, Int.reduceLE, decide_false, decide_true, Bool.or_false, Bool.false_or, Bool.or_true, Bool.true_or, Bool.not_true, Bool.not_false, Bool.and_true, Bool.true_and, Bool.and_false, Bool.false_and, inF, if_true, if_false, Bool.false_eq_true, reduceIte, ltE, q1b, q1j, q1k, q1l, q3d, qe0, qcd, qce, qcf, and_self]
  clear e1 e2 e3 h
  clear eb em
  simp only [Bool.and_eq_true, Bool.or_eq_true, Bool.not_eq_true', Bool.and_eq_false_iff, Bool.or_eq_false_iff, Bool.not_eq_false', decide_eq_true_eq, decide_eq_false_iff_not]
  grind
 ·have eb : baF l l.bare0 (qa8 3) = ⟨l.fk, l.fn, l.tk, l.tn, l.k, 0, 0, 0, 0, 0, false, 0, 0, [], [], [], zT, 0, 0, [], 0, 0⟩ := rfl
  have em : ((qa8 3).all fun s => maF l s.toNat) = true := rfl
  rw [Bool.eq_iff_iff]
  simp only [lrF, rrF, e1, rc1, rc2, rc3, rc4, rc5, eb, em, e2, e3, qp7, Lt.plain, List.length_map, q0r, q0s, qf2, qf3, q1w, q1x, I9, q0t, q0u, Z4, q3w, q95, q3x, q3y, q1y, hk, qf1, Int.reduceEq, Int.reduceLT, Int.reduceLE, decide_false, decide_true, Bool.or_false, Bool.false_or, Bool.or_true, Bool.true_or, Bool.not_true, Bool.not_false, Bool.and_true, Bool.true_and, Bool.and_false, Bool.false_and, inF, if_true, if_false, Bool.false_eq_true, reduceIte, ltE, q1b, q1j, q1k, q1l, q3d, qe0, qcd, qce, qcf, and_self]
  clear e1 e2 e3 h
  clear eb em
  simp only [Bool.and_eq_true, Bool.or_eq_true, Bool.not_eq_true', Bool.and_eq_false_iff, Bool.or_eq_false_iff, Bool.not_eq_false', decide_eq_true_eq, decide_eq_false_iff_not]
  grind
 ·have eb : baF l l.bare0 (qa8 4) = ⟨l.fk, l.fn, l.tk, l.tn, l.k, 0, 0, l.n, 0, 0, false, l.br, l.bn, [], [], [], zT, 0, 0, [], 0, 0⟩ := rfl
  have em : ((qa8 4).all fun s => maF l s.toNat) = (qe0 l.n && (qv1 l.bn && true)) := rfl
  rw [Bool.eq_iff_iff]
  simp only [lrF, rrF, e1, rc1, rc2, rc3, rc4, rc5, eb, em, e2, e3, qp7, Lt.plain, List.length_map, q0r, q0s, qf2, qf3, q1w, q1x, I9, q0t, q0u, Z4, q3w, q95, q3x, q3y, q1y, hk, qf1, Int.reduceEq, Int.reduceLT, Int.reduceLE, decide_false, decide_true, Bool.or_false, Bool.false_or, Bool.or_true, Bool.true_or, Bool.not_true, Bool.not_false, Bool.and_true, Bool.true_and, Bool.and_false, Bool.false_and, inF, if_true, if_false, Bool.false_eq_true, reduceIte, ltE, q1b, q1j, q1k, q1l, q3d, qe0, qcd, qce, qcf, and_self]
  clear e1 e2 e3 h
  clear eb em
  simp only [Bool.and_eq_true, Bool.or_eq_true, Bool.not_eq_true', Bool.and_eq_false_iff, Bool.or_eq_false_iff, Bool.not_eq_false', decide_eq_true_eq, decide_eq_false_iff_not]
  grind
 ·have eb : baF l l.bare0 (qa8 5) = ⟨l.fk, l.fn, l.tk, l.tn, l.k, 0, 0, l.n, 0, 0, false, l.br, l.bn, l.vs, [], [], zT, 0, 0, [], 0, 0⟩ := rfl
  have em : ((qa8 5).all fun s => maF l s.toNat) = (qe0 l.n && (qv1 l.bn && (qcd l.vs && true))) := rfl
  rw [Bool.eq_iff_iff]
  simp only [lrF, rrF, e1, rc1, rc2, rc3, rc4, rc5, eb, em, e2, e3, qp7, Lt.plain, List.length_map, q0r, q0s, qf2, qf3, q1w, q1x, I9, q0t, q0u, Z4, q3w, q95, q3x, q3y, q1y, hk, qf1, Int.reduceEq, Int.reduceLT, Int.reduceLE, decide_false, decide_true, Bool.or_false, Bool.false_or, Bool.or_true, Bool.true_or, Bool.not_true, Bool.not_false, Bool.and_true, Bool.true_and, Bool.and_false, Bool.false_and, inF, if_true, if_false, Bool.false_eq_true, reduceIte, ltE, q1b, q1j, q1k, q1l, q3d, qe0, qcd, qce, qcf, and_self]
  clear e1 e2 e3 h
  clear eb em
  simp only [Bool.and_eq_true, Bool.or_eq_true, Bool.not_eq_true', Bool.and_eq_false_iff, Bool.or_eq_false_iff, Bool.not_eq_false', decide_eq_true_eq, decide_eq_false_iff_not]
  grind
 ·have eb : baF l l.bare0 (qa8 6) = ⟨l.fk, l.fn, l.tk, l.tn, l.k, 0, 0, l.n, 0, 0, false, l.br, l.bn, [], [], [], zT, 0, 0, l.v, 0, 0⟩ := rfl
  have em : ((qa8 6).all fun s => maF l s.toNat) = (qe0 l.n && (qv1 l.bn && (decide ((l.v.length : Int) <= 64) && true))) := rfl
  rw [Bool.eq_iff_iff]
  simp only [lrF, rrF, e1, rc1, rc2, rc3, rc4, rc5, eb, em, e2, e3, qp7, Lt.plain, List.length_map, q0r, q0s, qf2, qf3, q1w, q1x, I9, q0t, q0u, Z4, q3w, q95, q3x, q3y, q1y, hk, qf1, Int.reduceEq, Int.reduceLT, Int.reduceLE, decide_false, decide_true, Bool.or_false, Bool.false_or, Bool.or_true, Bool.true_or, Bool.not_true, Bool.not_false, Bool.and_true, Bool.true_and, Bool.and_false, Bool.false_and, inF, if_true, if_false, Bool.false_eq_true, reduceIte, ltE, q1b, q1j, q1k, q1l, q3d, qe0, qcd, qce, qcf, and_self]
  clear e1 e2 e3 h
  clear eb em
  simp only [Bool.and_eq_true, Bool.or_eq_true, Bool.not_eq_true', Bool.and_eq_false_iff, Bool.or_eq_false_iff, Bool.not_eq_false', decide_eq_true_eq, decide_eq_false_iff_not]
  grind
 ·have eb : baF l l.bare0 (qa8 7) = ⟨l.fk, l.fn, l.tk, l.tn, l.k, 0, 0, l.n, 0, 0, false, l.br, l.bn, [], [], [], zT, 0, 0, [], 0, 0⟩ := rfl
  have em : ((qa8 7).all fun s => maF l s.toNat) = (qe0 l.n && (qv1 l.bn && true)) := rfl
  rw [Bool.eq_iff_iff]
  simp only [lrF, rrF, e1, rc1, rc2, rc3, rc4, rc5, eb, em, e2, e3, qp7, Lt.plain, List.length_map, q0r, q0s, qf2, qf3, q1w, q1x, I9, q0t, q0u, Z4, q3w, q95, q3x, q3y, q1y, hk, qf1, Int.reduceEq, Int.reduceLT, Int.reduceLE, decide_false, decide_true, Bool.or_false, Bool.false_or, Bool.or_true, Bool.true_or, Bool.not_true, Bool.not_false, Bool.and_true, Bool.true_and, Bool.and_false, Bool.false_and, inF, if_true, if_false, Bool.false_eq_true, reduceIte, ltE, q1b, q1j, q1k, q1l, q3d, qe0, qcd, qce, qcf, and_self]
  clear e1 e2 e3 h
  clear eb em
  simp only [Bool.and_eq_true, Bool.or_eq_true, Bool.not_eq_true', Bool.and_eq_false_iff, Bool.or_eq_false_iff, Bool.not_eq_false', decide_eq_true_eq, decide_eq_false_iff_not]
  grind
 ·have eb : baF l l.bare0 (qa8 8) = ⟨l.fk, l.fn, l.tk, l.tn, l.k, 0, 0, 0, 0, 0, false, l.br, l.bn, [], [], [], zT, 0, 0, [], 0, 0⟩ := rfl
  have em : ((qa8 8).all fun s => maF l s.toNat) = (qv1 l.bn && true) := rfl
  rw [Bool.eq_iff_iff]
  simp only [lrF, rrF, e1, rc1, rc2, rc3, rc4, rc5, eb, em, e2, e3, qp7, Lt.plain, List.length_map, q0r, q0s, qf2, qf3, q1w, q1x, I9, q0t, q0u, Z4, q3w, q95, q3x, q3y, q1y, hk, qf1, Int.reduceEq, Int.reduceLT, Int.reduceLE, decide_false, decide_true, Bool.or_false, Bool.false_or, Bool.or_true, Bool.true_or, Bool.not_true, Bool.not_false, Bool.and_true, Bool.true_and, Bool.and_false, Bool.false_and, inF, if_true, if_false, Bool.false_eq_true, reduceIte, ltE, q1b, q1j, q1k, q1l, q3d, qe0, qcd, qce, qcf, and_self]
  clear e1 e2 e3 h
  clear eb em
  simp only [Bool.and_eq_true, Bool.or_eq_true, Bool.not_eq_true', Bool.and_eq_false_iff, Bool.or_eq_false_iff, Bool.not_eq_false', decide_eq_true_eq, decide_eq_false_iff_not]
  grind
 ·have eb : baF l l.bare0 (qa8 9) = ⟨l.fk, l.fn, l.tk, l.tn, l.k, 0, 0, l.n, 0, 0, false, 0, 0, [], [], [], zT, 0, 0, l.v, 0, 0⟩ := rfl
  have em : ((qa8 9).all fun s => maF l s.toNat) = (qe0 l.n && (decide ((l.v.length : Int) <= 64) && true)) := rfl
  rw [Bool.eq_iff_iff]
  simp only [lrF, rrF, e1, rc1, rc2, rc3, rc4, rc5, eb, em, e2, e3, qp7, Lt.plain, List.length_map, q0r, q0s, qf2, qf3, q1w, q1x, I9, q0t, q0u, Z4, q3w, q95, q3x, q3y, q1y, hk, qf1, Int.reduceEq, Int.reduceLT, Int.reduceLE, decide_false, decide_true, Bool.or_false, Bool.false_or, Bool.or_true, Bool.true_or, Bool.not_true, Bool.not_false, Bool.and_true, Bool.true_and, Bool.and_false, Bool.false_and, inF, if_true, if_false, Bool.false_eq_true, reduceIte, ltE, q1b, q1j, q1k, q1l, q3d, qe0, qcd, qce, qcf, and_self]
  clear e1 e2 e3 h
  clear eb em
  simp only [Bool.and_eq_true, Bool.or_eq_true, Bool.not_eq_true', Bool.and_eq_false_iff, Bool.or_eq_false_iff, Bool.not_eq_false', decide_eq_true_eq, decide_eq_false_iff_not]
  grind
 ·have eb : baF l l.bare0 (qa8 10) = ⟨l.fk, l.fn, l.tk, l.tn, l.k, 0, 0, l.n, 0, 0, false, 0, 0, [], [], [], zT, 0, 0, [], 0, 0⟩ := rfl
  have em : ((qa8 10).all fun s => maF l s.toNat) = (qe0 l.n && true) := rfl
  rw [Bool.eq_iff_iff]
  simp only [lrF, rrF, e1, rc1, rc2, rc3, rc4, rc5, eb, em, e2, e3, qp7, Lt.plain, List.length_map, q0r, q0s, qf2, qf3, q1w, q1x, I9, q0t, q0u, Z4, q3w, q95, q3x, q3y, q1y, hk, qf1, Int.reduceEq, Int.reduceLT, Int.reduceLE, decide_false, decide_true, Bool.or_false, Bool.false_or, Bool.or_true, Bool.true_or, Bool.not_true, Bool.not_false, Bool.and_true, Bool.true_and, Bool.and_false, Bool.false_and, inF, if_true, if_false, Bool.false_eq_true, reduceIte, ltE, q1b, q1j, q1k, q1l, q3d, qe0, qcd, qce, qcf, and_self]
  clear e1 e2 e3 h
  clear eb em
  simp only [Bool.and_eq_true, Bool.or_eq_true, Bool.not_eq_true', Bool.and_eq_false_iff, Bool.or_eq_false_iff, Bool.not_eq_false', decide_eq_true_eq, decide_eq_false_iff_not]
  grind
 ·have eb : baF l l.bare0 (qa8 11) = ⟨l.fk, l.fn, l.tk, l.tn, l.k, 0, 0, l.n, 0, 0, false, l.br, l.bn, [], [], [], zT, 0, 0, [], 0, 0⟩ := rfl
  have em : ((qa8 11).all fun s => maF l s.toNat) = (qe0 l.n && (qv1 l.bn && true)) := rfl
  rw [Bool.eq_iff_iff]
  simp only [lrF, rrF, e1, rc1, rc2, rc3, rc4, rc5, eb, em, e2, e3, qp7, Lt.plain, List.length_map, q0r, q0s, qf2, qf3, q1w, q1x, I9, q0t, q0u, Z4, q3w, q95, q3x, q3y, q1y, hk, qf1, Int.reduceEq, Int.reduceLT, Int.reduceLE, decide_false, decide_true, Bool.or_false, Bool.false_or, Bool.or_true, Bool.true_or, Bool.not_true, Bool.not_false, Bool.and_true, Bool.true_and, Bool.and_false, Bool.false_and, inF, if_true, if_false, Bool.false_eq_true, reduceIte, ltE, q1b, q1j, q1k, q1l, q3d, qe0, qcd, qce, qcf, and_self]
  clear e1 e2 e3 h
  clear eb em
  simp only [Bool.and_eq_true, Bool.or_eq_true, Bool.not_eq_true', Bool.and_eq_false_iff, Bool.or_eq_false_iff, Bool.not_eq_false', decide_eq_true_eq, decide_eq_false_iff_not]
  grind
 ·have eb : baF l l.bare0 (qa8 12) = ⟨l.fk, l.fn, l.tk, l.tn, l.k, l.sh, l.ep, l.n, l.m, 0, false, 0, 0, [], [], l.es, zT, 0, 0, [], l.q, 0⟩ := rfl
  have em : ((qa8 12).all fun s => maF l s.toNat) = ((decide (0 <= l.sh) && decide (l.sh < 4)) && (true && (qe0 l.n && (qe0 l.m && (true && (qcf l.es && true)))))) := rfl
  rw [Bool.eq_iff_iff]
  simp only [lrF, rrF, e1, rc1, rc2, rc3, rc4, rc5, eb, em, e2, e3, qp7, Lt.plain, List.length_map, q0r, q0s, qf2, qf3, q1w, q1x, I9, q0t, q0u, Z4, q3w, q95, q3x, q3y, q1y, hk, qf1, Int.reduceEq, Int.reduceLT, Int.reduceLE, decide_false, decide_true, Bool.or_false, Bool.false_or, Bool.or_true, Bool.true_or, Bool.not_true, Bool.not_false, Bool.and_true, Bool.true_and, Bool.and_false, Bool.false_and, inF, if_true, if_false, Bool.false_eq_true, reduceIte, ltE, q1b, q1j, q1k, q1l, q3d, qe0, qcd, qce, qcf, and_self]
  clear e1 e2 e3 h
  clear eb em
  simp only [Bool.and_eq_true, Bool.or_eq_true, Bool.not_eq_true', Bool.and_eq_false_iff, Bool.or_eq_false_iff, Bool.not_eq_false', decide_eq_true_eq, decide_eq_false_iff_not]
  grind
 ·have eb : baF l l.bare0 (qa8 13) = ⟨l.fk, l.fn, l.tk, l.tn, l.k, l.sh, l.ep, l.n, 0, 0, l.fl, 0, 0, [], [], [], zT, 0, 0, [], 0, 0⟩ := rfl
  have em : ((qa8 13).all fun s => maF l s.toNat) = ((decide (0 <= l.sh) && decide (l.sh < 4)) && (true && (qe0 l.n && (true && true)))) := rfl
  rw [Bool.eq_iff_iff]
  simp only [lrF, rrF, e1, rc1, rc2, rc3, rc4, rc5, eb, em, e2, e3, qp7, Lt.plain, List.length_map, q0r, q0s, qf2, qf3, q1w, q1x, I9, q0t, q0u, Z4, q3w, q95, q3x, q3y, q1y, hk, qf1, Int.reduceEq, Int.reduceLT, Int.reduceLE, decide_false, decide_true, Bool.or_false, Bool.false_or, Bool.or_true, Bool.true_or, Bool.not_true, Bool.not_false, Bool.and_true, Bool.true_and, Bool.and_false, Bool.false_and, inF, if_true, if_false, Bool.false_eq_true, reduceIte, ltE, q1b, q1j, q1k, q1l, q3d, qe0, qcd, qce, qcf, and_self]
  clear e1 e2 e3 h
  clear eb em
  simp only [Bool.and_eq_true, Bool.or_eq_true, Bool.not_eq_true', Bool.and_eq_false_iff, Bool.or_eq_false_iff, Bool.not_eq_false', decide_eq_true_eq, decide_eq_false_iff_not]
  grind
 ·have eb : baF l l.bare0 (qa8 14) = ⟨l.fk, l.fn, l.tk, l.tn, l.k, l.sh, l.ep, l.n, 0, 0, false, 0, 0, [], [], [], zT, 0, 0, [], 0, 0⟩ := rfl
  have em : ((qa8 14).all fun s => maF l s.toNat) = ((decide (0 <= l.sh) && decide (l.sh < 4)) && (true && (qe0 l.n && true))) := rfl
  rw [Bool.eq_iff_iff]
  simp only [lrF, rrF, e1, rc1, rc2, rc3, rc4, rc5, eb, em, e2, e3, qp7, Lt.plain, List.length_map, q0r, q0s, qf2, qf3, q1w, q1x, I9, q0t, q0u, Z4, q3w, q95, q3x, q3y, q1y, hk, qf1, Int.reduceEq, Int.reduceLT, Int.reduceLE, decide_false, decide_true, Bool.or_false, Bool.false_or, Bool.or_true, Bool.true_or, Bool.not_true, Bool.not_false, Bool.and_true, Bool.true_and, Bool.and_false, Bool.false_and, inF, if_true, if_false, Bool.false_eq_true, reduceIte, ltE, q1b, q1j, q1k, q1l, q3d, qe0, qcd, qce, qcf, and_self]
  clear e1 e2 e3 h
  clear eb em
  simp only [Bool.and_eq_true, Bool.or_eq_true, Bool.not_eq_true', Bool.and_eq_false_iff, Bool.or_eq_false_iff, Bool.not_eq_false', decide_eq_true_eq, decide_eq_false_iff_not]
  grind
 ·have eb : baF l l.bare0 (qa8 15) = ⟨l.fk, l.fn, l.tk, l.tn, l.k, l.sh, l.ep, l.n, 0, l.nd, false, 0, 0, [], [], [], zT, l.cl, l.sq, l.v, 0, 0⟩ := rfl
  have em : ((qa8 15).all fun s => maF l s.toNat) = ((decide (0 <= l.sh) && decide (l.sh < 4)) && (true && (qe0 l.n && ((decide (0 <= l.nd) && decide (l.nd < 8)) && (qp6 l.cl l.sq && (decide ((l.v.length : Int) <= 64) && true)))))) := rfl
  rw [Bool.eq_iff_iff]
  simp only [lrF, rrF, e1, rc1, rc2, rc3, rc4, rc5, eb, em, e2, e3, qp7, Lt.plain, List.length_map, q0r, q0s, qf2, qf3, q1w, q1x, I9, q0t, q0u, Z4, q3w, q95, q3x, q3y, q1y, hk, qf1, Int.reduceEq, Int.reduceLT, Int.reduceLE, decide_false, decide_true, Bool.or_false, Bool.false_or, Bool.or_true, Bool.true_or, Bool.not_true, Bool.not_false, Bool.and_true, Bool.true_and, Bool.and_false, Bool.false_and, inF, if_true, if_false, Bool.false_eq_true, reduceIte, ltE, q1b, q1j, q1k, q1l, q3d, qe0, qcd, qce, qcf, and_self]
  clear e1 e2 e3 h
  clear eb em
  simp only [Bool.and_eq_true, Bool.or_eq_true, Bool.not_eq_true', Bool.and_eq_false_iff, Bool.or_eq_false_iff, Bool.not_eq_false', decide_eq_true_eq, decide_eq_false_iff_not]
  grind
 ·have eb : baF l l.bare0 (qa8 16) = ⟨l.fk, l.fn, l.tk, l.tn, l.k, l.sh, 0, l.n, 0, 0, false, 0, 0, [], [], [], zT, l.cl, l.sq, l.v, 0, 0⟩ := rfl
  have em : ((qa8 16).all fun s => maF l s.toNat) = ((decide (0 <= l.sh) && decide (l.sh < 4)) && (qe0 l.n && (qp6 l.cl l.sq && (decide ((l.v.length : Int) <= 64) && true)))) := rfl
  rw [Bool.eq_iff_iff]
  simp only [lrF, rrF, e1, rc1, rc2, rc3, rc4, rc5, eb, em, e2, e3, qp7, Lt.plain, List.length_map, q0r, q0s, qf2, qf3, q1w, q1x, I9, q0t, q0u, Z4, q3w, q95, q3x, q3y, q1y, hk, qf1, Int.reduceEq, Int.reduceLT, Int.reduceLE, decide_false, decide_true, Bool.or_false, Bool.false_or, Bool.or_true, Bool.true_or, Bool.not_true, Bool.not_false, Bool.and_true, Bool.true_and, Bool.and_false, Bool.false_and, inF, if_true, if_false, Bool.false_eq_true, reduceIte, ltE, q1b, q1j, q1k, q1l, q3d, qe0, qcd, qce, qcf, and_self]
  clear e1 e2 e3 h
  clear eb em
  simp only [Bool.and_eq_true, Bool.or_eq_true, Bool.not_eq_true', Bool.and_eq_false_iff, Bool.or_eq_false_iff, Bool.not_eq_false', decide_eq_true_eq, decide_eq_false_iff_not]
  grind
 ·have eb : baF l l.bare0 (qa8 17) = ⟨l.fk, l.fn, l.tk, l.tn, l.k, l.sh, 0, 0, 0, 0, false, 0, 0, [], [], [], l.t, 0, 0, [], 0, 0⟩ := rfl
  have em : ((qa8 17).all fun s => maF l s.toNat) = ((decide (0 <= l.sh) && decide (l.sh < 4)) && (qgd l.t && true)) := rfl
  rw [Bool.eq_iff_iff]
  simp only [lrF, rrF, e1, rc1, rc2, rc3, rc4, rc5, eb, em, e2, e3, qp7, Lt.plain, List.length_map, q0r, q0s, qf2, qf3, q1w, q1x, I9, q0t, q0u, Z4, q3w, q95, q3x, q3y, q1y, hk, qf1, Int.reduceEq, Int.reduceLT, Int.reduceLE, decide_false, decide_true, Bool.or_false, Bool.false_or, Bool.or_true, Bool.true_or, Bool.not_true, Bool.not_false, Bool.and_true, Bool.true_and, Bool.and_false, Bool.false_and, inF, if_true, if_false, Bool.false_eq_true, reduceIte, ltE, q1b, q1j, q1k, q1l, q3d, qe0, qcd, qce, qcf, and_self]
  clear e1 e2 e3 h
  clear eb em
  simp only [Bool.and_eq_true, Bool.or_eq_true, Bool.not_eq_true', Bool.and_eq_false_iff, Bool.or_eq_false_iff, Bool.not_eq_false', decide_eq_true_eq, decide_eq_false_iff_not]
  grind
 ·have eb : baF l l.bare0 (qa8 18) = ⟨l.fk, l.fn, l.tk, l.tn, l.k, l.sh, 0, 0, 0, 0, false, 0, 0, [], [], [], zT, l.cl, l.sq, [], 0, l.co⟩ := rfl
  have em : ((qa8 18).all fun s => maF l s.toNat) = ((decide (0 <= l.sh) && decide (l.sh < 4)) && (qp6 l.cl l.sq && ((decide (0 <= l.co) && decide (l.co <= 99)) && true))) := rfl
  rw [Bool.eq_iff_iff]
  simp only [lrF, rrF, e1, rc1, rc2, rc3, rc4, rc5, eb, em, e2, e3, qp7, Lt.plain, List.length_map, q0r, q0s, qf2, qf3, q1w, q1x, I9, q0t, q0u, Z4, q3w, q95, q3x, q3y, q1y, hk, qf1, Int.reduceEq, Int.reduceLT, Int.reduceLE, decide_false, decide_true, Bool.or_false, Bool.false_or, Bool.or_true, Bool.true_or, Bool.not_true, Bool.not_false, Bool.and_true, Bool.true_and, Bool.and_false, Bool.false_and, inF, if_true, if_false, Bool.false_eq_true, reduceIte, ltE, q1b, q1j, q1k, q1l, q3d, qe0, qcd, qce, qcf, and_self]
  clear e1 e2 e3 h
  clear eb em
  simp only [Bool.and_eq_true, Bool.or_eq_true, Bool.not_eq_true', Bool.and_eq_false_iff, Bool.or_eq_false_iff, Bool.not_eq_false', decide_eq_true_eq, decide_eq_false_iff_not]
  grind
 ·have eb : baF l l.bare0 (qa8 19) = ⟨l.fk, l.fn, l.tk, l.tn, l.k, 0, 0, 0, 0, 0, false, 0, 0, [], [], [], zT, l.cl, l.sq, l.v, 0, 0⟩ := rfl
  have em : ((qa8 19).all fun s => maF l s.toNat) = (qp6 l.cl l.sq && (decide ((l.v.length : Int) <= 64) && true)) := rfl
  rw [Bool.eq_iff_iff]
  simp only [lrF, rrF, e1, rc1, rc2, rc3, rc4, rc5, eb, em, e2, e3, qp7, Lt.plain, List.length_map, q0r, q0s, qf2, qf3, q1w, q1x, I9, q0t, q0u, Z4, q3w, q95, q3x, q3y, q1y, hk, qf1, Int.reduceEq, Int.reduceLT, Int.reduceLE, decide_false, decide_true, Bool.or_false, Bool.false_or, Bool.or_true, Bool.true_or, Bool.not_true, Bool.not_false, Bool.and_true, Bool.true_and, Bool.and_false, Bool.false_and, inF, if_true, if_false, Bool.false_eq_true, reduceIte, ltE, q1b, q1j, q1k, q1l, q3d, qe0, qcd, qce, qcf, and_self]
  clear e1 e2 e3 h
  clear eb em
  simp only [Bool.and_eq_true, Bool.or_eq_true, Bool.not_eq_true', Bool.and_eq_false_iff, Bool.or_eq_false_iff, Bool.not_eq_false', decide_eq_true_eq, decide_eq_false_iff_not]
  grind
 ·have eb : baF l l.bare0 (qa8 20) = ⟨l.fk, l.fn, l.tk, l.tn, l.k, 0, 0, 0, 0, 0, false, 0, 0, [], [], [], l.t, 0, 0, [], 0, 0⟩ := rfl
  have em : ((qa8 20).all fun s => maF l s.toNat) = (qgd l.t && true) := rfl
  rw [Bool.eq_iff_iff]
  simp only [lrF, rrF, e1, rc1, rc2, rc3, rc4, rc5, eb, em, e2, e3, qp7, Lt.plain, List.length_map, q0r, q0s, qf2, qf3, q1w, q1x, I9, q0t, q0u, Z4, q3w, q95, q3x, q3y, q1y, hk, qf1, Int.reduceEq, Int.reduceLT, Int.reduceLE, decide_false, decide_true, Bool.or_false, Bool.false_or, Bool.or_true, Bool.true_or, Bool.not_true, Bool.not_false, Bool.and_true, Bool.true_and, Bool.and_false, Bool.false_and, inF, if_true, if_false, Bool.false_eq_true, reduceIte, ltE, q1b, q1j, q1k, q1l, q3d, qe0, qcd, qce, qcf, and_self]
  clear e1 e2 e3 h
  clear eb em
  simp only [Bool.and_eq_true, Bool.or_eq_true, Bool.not_eq_true', Bool.and_eq_false_iff, Bool.or_eq_false_iff, Bool.not_eq_false', decide_eq_true_eq, decide_eq_false_iff_not]
  grind
 ·have eb : baF l l.bare0 (qa8 21) = ⟨l.fk, l.fn, l.tk, l.tn, l.k, 0, 0, l.n, 0, 0, false, 0, 0, [], [], [], zT, l.cl, l.sq, l.v, l.q, l.co⟩ := rfl
  have em : ((qa8 21).all fun s => maF l s.toNat) = (qe0 l.n && (qp6 l.cl l.sq && (decide ((l.v.length : Int) <= 64) && (true && ((decide (0 <= l.co) && decide (l.co <= 99)) && true))))) := rfl
  rw [Bool.eq_iff_iff]
  simp only [lrF, rrF, e1, rc1, rc2, rc3, rc4, rc5, eb, em, e2, e3, qp7, Lt.plain, List.length_map, q0r, q0s, qf2, qf3, q1w, q1x, I9, q0t, q0u, Z4, q3w, q95, q3x, q3y, q1y, hk, qf1, Int.reduceEq, Int.reduceLT, Int.reduceLE, decide_false, decide_true, Bool.or_false, Bool.false_or, Bool.or_true, Bool.true_or, Bool.not_true, Bool.not_false, Bool.and_true, Bool.true_and, Bool.and_false, Bool.false_and, inF, if_true, if_false, Bool.false_eq_true, reduceIte, ltE, q1b, q1j, q1k, q1l, q3d, qe0, qcd, qce, qcf, and_self]
  clear e1 e2 e3 h
  clear eb em
  simp only [Bool.and_eq_true, Bool.or_eq_true, Bool.not_eq_true', Bool.and_eq_false_iff, Bool.or_eq_false_iff, Bool.not_eq_false', decide_eq_true_eq, decide_eq_false_iff_not]
  grind
 ·have a1 : rc1 l.plain = true := by
   simp only [qf1, decide_eq_false_iff_not] at hk
   simp only [rc1, ek]
   have : decide (l.k < 1) = true \/ decide (21 < l.k) = true := by simp only [decide_eq_true_eq]; omega
   rcases this with h | h <;> simp only [h, Bool.true_or, Bool.or_true]
  simp only [rrF, lrF, a1, hk, Bool.not_true, Bool.false_and]
end Go.Aw
