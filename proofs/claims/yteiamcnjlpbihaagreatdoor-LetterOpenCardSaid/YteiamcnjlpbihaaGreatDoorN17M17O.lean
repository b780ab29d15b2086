import Derived.Test.YteiamcnjlpbihaaGreatDoorN17T16J
namespace Go.Aw
open Go
set_option linter.all false
set_option maxHeartbeats 8000000
set_option maxRecDepth 8000
theorem z1x (l : Lt Cf) (h : ∀ c ∈ l.cs, c.fu.length = c.ch.length) : ((l.cs.map Cf.plain).all Rf.right) = (!(l.cs.any z3h)) := by
 generalize l.cs = cs at h
 induction cs with
 | nil => rfl
 | cons c cs ih =>
  simp only [List.map_cons, List.all_cons, List.any_cons, z3h, Bool.not_or, Bool.not_not]
  rw [c.plain_right (h c (List.mem_cons_self ..)), ih (fun d hd => h d (List.mem_cons_of_mem _ hd))]
theorem z6e {α : Type} (p : α -> Bool) (l : List α) : l.all p = !(l.any fun x => !p x) := by
 induction l with
 | nil => rfl
 | cons x l ih => simp only [List.all_cons, List.any_cons, Bool.not_or, Bool.not_not, ih]
theorem q1k (t : Tx) : txE t t = true := by
 simp only [txE, decide_true, Bool.true_and]
 rw [qe4 (e := rdE) (fun x => by simp [rdE]), qe4 (e := wtE) (fun x => by simp [wtE])]; rfl
theorem q1t (l : List Vt) : eqL vtE l l = true := qe4 (fun x => by simp [vtE]) l
theorem q1u (l : List Cf) : eqL cfE l l = true := qe4 (fun x => by
 simp only [cfE, decide_true, Bool.true_and]
 rw [qe4 (e := z5z) (fun x => by simp [z5z]), qe4 (e := qs4) (fun x => by simp [qs4])]; rfl) l
theorem q1v (l : List En) : eqL enE l l = true := qe4 (fun x => by
 simp only [enE, decide_true, Bool.true_and, q1k]) l
theorem z92 (l : Lt Cf) : ltE l l = true := by
 simp only [ltE, decide_true, Bool.true_and, q1k, q1t, q1u, q1v]
theorem q0u (k : Int) : q6z k [115, 104, 97, 114, 100] = (decide (k = 1) || decide (k = 12) || decide (k = 13) || decide (k = 14) || decide (k = 15) || decide (k = 16) || decide (k = 17) || decide (k = 18)) := by
 rcases kinds k with (rfl | rfl | rfl | rfl | rfl | rfl | rfl | rfl | rfl | rfl | rfl | rfl | rfl | rfl | rfl | rfl | rfl | rfl | rfl | rfl | rfl) | h
 any_goals (decide +kernel)
 simp only [q6z, h, Bool.false_and, I4 h 1, I4 h 12, I4 h 13, I4 h 14, I4 h 15, I4 h 16, I4 h 17, I4 h 18, Bool.or_self]
theorem q0v (k : Int) : q6z k [101, 112, 111, 99, 104] = (decide (k = 1) || decide (k = 12) || decide (k = 13) || decide (k = 14) || decide (k = 15)) := by
 rcases kinds k with (rfl | rfl | rfl | rfl | rfl | rfl | rfl | rfl | rfl | rfl | rfl | rfl | rfl | rfl | rfl | rfl | rfl | rfl | rfl | rfl | rfl) | h
 any_goals (decide +kernel)
 simp only [q6z, h, Bool.false_and, I4 h 1, I4 h 12, I4 h 13, I4 h 14, I4 h 15, Bool.or_self]
theorem qdd (k : Int) : q6z k [110] = (decide (k = 1) || decide (k = 2) || decide (k = 4) || decide (k = 5) || decide (k = 6) || decide (k = 7) || decide (k = 9) || decide (k = 10) || decide (k = 11) || decide (k = 12) || decide (k = 13) || decide (k = 14) || decide (k = 15) || decide (k = 16) || decide (k = 21)) := by
 rcases kinds k with (rfl | rfl | rfl | rfl | rfl | rfl | rfl | rfl | rfl | rfl | rfl | rfl | rfl | rfl | rfl | rfl | rfl | rfl | rfl | rfl | rfl) | h
 any_goals (decide +kernel)
 simp only [q6z, h, Bool.false_and, I4 h 1, I4 h 2, I4 h 4, I4 h 5, I4 h 6, I4 h 7, I4 h 9, I4 h 10, I4 h 11, I4 h 12, I4 h 13, I4 h 14, I4 h 15, I4 h 16, I4 h 21, Bool.or_self]
theorem qde (k : Int) : q6z k [109] = (decide (k = 12)) := by
 rcases kinds k with (rfl | rfl | rfl | rfl | rfl | rfl | rfl | rfl | rfl | rfl | rfl | rfl | rfl | rfl | rfl | rfl | rfl | rfl | rfl | rfl | rfl) | h
 any_goals (decide +kernel)
 simp only [q6z, h, Bool.false_and, I4 h 12, Bool.or_self]
theorem q1w (k : Int) : q6z k [110, 111, 100, 101] = (decide (k = 15)) := by
 rcases kinds k with (rfl | rfl | rfl | rfl | rfl | rfl | rfl | rfl | rfl | rfl | rfl | rfl | rfl | rfl | rfl | rfl | rfl | rfl | rfl | rfl | rfl) | h
 any_goals (decide +kernel)
 simp only [q6z, h, Bool.false_and, I4 h 15, Bool.or_self]
theorem q1x (k : Int) : q6z k [102, 108, 97, 103] = (decide (k = 1) || decide (k = 13)) := by
 rcases kinds k with (rfl | rfl | rfl | rfl | rfl | rfl | rfl | rfl | rfl | rfl | rfl | rfl | rfl | rfl | rfl | rfl | rfl | rfl | rfl | rfl | rfl) | h
 any_goals (decide +kernel)
 simp only [q6z, h, Bool.false_and, I4 h 1, I4 h 13, Bool.or_self]
theorem q08 (k : Int) : q6z k [98, 97, 108, 108, 111, 116] = (decide (k = 4) || decide (k = 5) || decide (k = 6) || decide (k = 7) || decide (k = 8) || decide (k = 11)) := by
 rcases kinds k with (rfl | rfl | rfl | rfl | rfl | rfl | rfl | rfl | rfl | rfl | rfl | rfl | rfl | rfl | rfl | rfl | rfl | rfl | rfl | rfl | rfl) | h
 any_goals (decide +kernel)
 simp only [q6z, h, Bool.false_and, I4 h 4, I4 h 5, I4 h 6, I4 h 7, I4 h 8, I4 h 11, Bool.or_self]
theorem q0w (k : Int) : q6z k [118, 111, 116, 101, 115] = (decide (k = 5)) := by
 rcases kinds k with (rfl | rfl | rfl | rfl | rfl | rfl | rfl | rfl | rfl | rfl | rfl | rfl | rfl | rfl | rfl | rfl | rfl | rfl | rfl | rfl | rfl) | h
 any_goals (decide +kernel)
 simp only [q6z, h, Bool.false_and, I4 h 5, Bool.or_self]
theorem q0x (k : Int) : q6z k [99, 111, 110, 102, 115] = (decide (k = 2)) := by
 rcases kinds k with (rfl | rfl | rfl | rfl | rfl | rfl | rfl | rfl | rfl | rfl | rfl | rfl | rfl | rfl | rfl | rfl | rfl | rfl | rfl | rfl | rfl) | h
 any_goals (decide +kernel)
 simp only [q6z, h, Bool.false_and, I4 h 2, Bool.or_self]
theorem G5 (k : Int) : q6z k [101, 110, 116, 114, 105, 101, 115] = (decide (k = 12)) := by
 rcases kinds k with (rfl | rfl | rfl | rfl | rfl | rfl | rfl | rfl | rfl | rfl | rfl | rfl | rfl | rfl | rfl | rfl | rfl | rfl | rfl | rfl | rfl) | h
 any_goals (decide +kernel)
 simp only [q6z, h, Bool.false_and, I4 h 12, Bool.or_self]
theorem q3q (k : Int) : q6z k [116, 120, 110] = (decide (k = 17) || decide (k = 20)) := by
 rcases kinds k with (rfl | rfl | rfl | rfl | rfl | rfl | rfl | rfl | rfl | rfl | rfl | rfl | rfl | rfl | rfl | rfl | rfl | rfl | rfl | rfl | rfl) | h
 any_goals (decide +kernel)
 simp only [q6z, h, Bool.false_and, I4 h 17, I4 h 20, Bool.or_self]
theorem q86 (k : Int) : q6z k [105, 100] = (decide (k = 15) || decide (k = 16) || decide (k = 18) || decide (k = 19) || decide (k = 21)) := by
 rcases kinds k with (rfl | rfl | rfl | rfl | rfl | rfl | rfl | rfl | rfl | rfl | rfl | rfl | rfl | rfl | rfl | rfl | rfl | rfl | rfl | rfl | rfl) | h
 any_goals (decide +kernel)
 simp only [q6z, h, Bool.false_and, I4 h 15, I4 h 16, I4 h 18, I4 h 19, I4 h 21, Bool.or_self]
theorem q3r (k : Int) : q6z k [118, 97, 108] = (decide (k = 6) || decide (k = 9) || decide (k = 15) || decide (k = 16) || decide (k = 19) || decide (k = 21)) := by
 rcases kinds k with (rfl | rfl | rfl | rfl | rfl | rfl | rfl | rfl | rfl | rfl | rfl | rfl | rfl | rfl | rfl | rfl | rfl | rfl | rfl | rfl | rfl) | h
 any_goals (decide +kernel)
 simp only [q6z, h, Bool.false_and, I4 h 6, I4 h 9, I4 h 15, I4 h 16, I4 h 19, I4 h 21, Bool.or_self]
theorem q3s (k : Int) : q6z k [110, 117, 109] = (decide (k = 12) || decide (k = 21)) := by
 rcases kinds k with (rfl | rfl | rfl | rfl | rfl | rfl | rfl | rfl | rfl | rfl | rfl | rfl | rfl | rfl | rfl | rfl | rfl | rfl | rfl | rfl | rfl) | h
 any_goals (decide +kernel)
 simp only [q6z, h, Bool.false_and, I4 h 12, I4 h 21, Bool.or_self]
theorem q1y (k : Int) : q6z k [99, 111, 100, 101] = (decide (k = 18) || decide (k = 21)) := by
 rcases kinds k with (rfl | rfl | rfl | rfl | rfl | rfl | rfl | rfl | rfl | rfl | rfl | rfl | rfl | rfl | rfl | rfl | rfl | rfl | rfl | rfl | rfl) | h
 any_goals (decide +kernel)
 simp only [q6z, h, Bool.false_and, I4 h 18, I4 h 21, Bool.or_self]
theorem qvv (l : Lt Cf) (h : ∀ c ∈ l.cs, c.fu.length = c.ch.length) : rrF l.plain = lrF l := by
 have e1 : l.vs.all qz3 = !(l.vs.any z63) := z6e _ _
 have e2 := z1x l h
 have e3 : l.es.all qeo = !(l.es.any z64) := z6e _ _
 have ek : l.plain.k = l.k := rfl
 have v0 : l.vs.length = 0 -> l.vs.any z63 = false := fun h => by rw [List.length_eq_zero_iff.1 h]; rfl
 have c0 : l.cs.length = 0 -> l.cs.any z3h = false := fun h => by rw [List.length_eq_zero_iff.1 h]; rfl
 have s0 : l.es.length = 0 -> l.es.any z64 = false := fun h => by rw [List.length_eq_zero_iff.1 h]; rfl
 rcases kinds l.k with (hk | hk | hk | hk | hk | hk | hk | hk | hk | hk | hk | hk | hk | hk | hk | hk | hk | hk | hk | hk | hk) | hk
 ·have eb : baF l l.bare0 (q6c 1) = ⟨l.fk, l.fn, l.tk, l.tn, l.k, l.sh, l.ep, l.n, 0, 0, l.fl, 0, 0, [], [], [], zT, 0, 0, [], 0, 0⟩ := rfl
  have em : ((q6c 1).all fun s => maF l s.toNat) = ((decide (0 <= l.sh) && decide (l.sh < 4)) && (true && (qap l.n && (true && true)))) := rfl
  rw [Bool.eq_iff_iff]
  simp only [lrF, rrF, e1, rc1, rc2, rc3, rc4, rc5, eb, em, e2, e3, qqj, Lt.plain, List.length_map, q0u, q0v, qdd, qde, q1w, q1x, q08, q0w, q0x, G5, q3q, q86, q3r, q3s, q1y, hk, qd9, Int.reduceEq, Int.reduceLT, Int.reduceLE, decide_false, decide_true, Bool.or_false, Bool.false_or, Bool.or_true, Bool.true_or, Bool.not_true, Bool.not_false, Bool.and_true, Bool.true_and, Bool.and_false, Bool.false_and, inF, if_true, if_false, Bool.false_eq_true, reduceIte, ltE, q1k, q1t, q1u, q1v, q3p, qap, q9p, q9q, q9r, and_self]
  clear e1 e2 e3 h
  clear eb em
  simp only [Bool.and_eq_true, Bool.or_eq_true, Bool.not_eq_true', Bool.and_eq_false_iff, Bool.or_eq_false_iff, Bool.not_eq_false', decide_eq_true_eq, decide_eq_false_iff_not]
  grind
 ·have eb : baF l l.bare0 (q6c 2) = ⟨l.fk, l.fn, l.tk, l.tn, l.k, 0, 0, l.n, 0, 0, false, 0, 0, [], l.cs, [], zT, 0, 0, [], 0, 0⟩ := rfl
  have em : ((q6c 2).all fun s => maF l s.toNat) = (qap l.n && (q9q l.cs && true)) := rfl
  rw [Bool.eq_iff_iff]
  simp only [lrF, rrF, e1, rc1, rc2, rc3, rc4, rc5, eb, em, e2, e3, qqj, Lt.plain, List.length_map, q0u, q0v, qdd, qde, q1w, q1x, q08, q0w, q0x, G5, q3q, q86, q3r, q3s, q1y, hk, qd9, Int.reduceEq, Int.reduceLT, Int.reduceLE, decide_false, decide_true, Bool.or_false, Bool.false_or, Bool.or_true, Bool.true_or, Bool.not_true, Bool.not_false, Bool.and_true, Bool.true_and, Bool.and_false, Bool.false_and, inF, if_true, if_false, Bool.false_eq_true, reduceIte, ltE, q1k, q1t, q1u, q1v, q3p, qap, q9p, q9q, q9r, and_self]
  clear e1 e2 e3 h
  clear eb em
  simp only [Bool.and_eq_true, Bool.or_eq_true, Bool.not_eq_true', Bool.and_eq_false_iff, Bool.or_eq_false_iff, Bool.not_eq_false', decide_eq_true_eq, decide_eq_false_iff_not]
  grind
 ·have eb : baF l l.bare0 (q6c 3) = ⟨l.fk, l.fn, l.tk, l.tn, l.k, 0, 0, 0, 0, 0, false, 0, 0, [], [], [], zT, 0, 0, [], 0, 0⟩ := rfl
  have em : ((q6c 3).all fun s => maF l s.toNat) = true := rfl
  rw [Bool.eq_iff_iff]
  simp only [lrF, rrF, e1, rc1, rc2, rc3, rc4, rc5, eb, em, e2, e3, qqj, Lt.plain, List.length_map, q0u, q0v, qdd, qde, q1w, q1x, q08, q0w, q0x, G5, q3q, q86, q3r, q3s, q1y, hk, qd9, Int.reduceEq, Int.reduceLT, Int.reduceLE, decide_false, decide_true, Bool.or_false, Bool.false_or, Bool.or_true, Bool.true_or, Bool.not_true, Bool.not_false, Bool.and_true, Bool.true_and, Bool.and_false, Bool.false_and, inF, if_true, if_false, Bool.false_eq_true, reduceIte, ltE, q1k, q1t, q1u, q1v, q3p, qap, q9p, q9q, q9r, and_self]
  clear e1 e2 e3 h
  clear eb em
  simp only [Bool.and_eq_true, Bool.or_eq_true, Bool.not_eq_true', Bool.and_eq_false_iff, Bool.or_eq_false_iff, Bool.not_eq_false', decide_eq_true_eq, decide_eq_false_iff_not]
  grind
 ·have eb : baF l l.bare0 (q6c 4) = ⟨l.fk, l.fn, l.tk, l.tn, l.k, 0, 0, l.n, 0, 0, false, l.br, l.bn, [], [], [], zT, 0, 0, [], 0, 0⟩ := rfl
  have em : ((q6c 4).all fun s => maF l s.toNat) = (qap l.n && (qh1 l.bn && true)) := rfl
  rw [Bool.eq_iff_iff]
  simp only [lrF, rrF, e1, rc1, rc2, rc3, rc4, rc5, eb, em, e2, e3, qqj, Lt.plain, List.length_map, q0u, q0v, qdd, qde, q1w, q1x, q08, q0w, q0x, G5, q3q, q86, q3r, q3s, q1y, hk, qd9, Int.reduceEq, Int.reduceLT, Int.reduceLE, decide_false, decide_true, Bool.or_false, Bool.false_or, Bool.or_true, Bool.true_or, Bool.not_true, Bool.not_false, Bool.and_true, Bool.true_and, Bool.and_false, Bool.false_and, inF, if_true, if_false, Bool.false_eq_true, reduceIte, ltE, q1k, q1t, q1u, q1v, q3p, qap, q9p, q9q, q9r, and_self]
  clear e1 e2 e3 h
  clear eb em
  simp only [Bool.and_eq_true, Bool.or_eq_true, Bool.not_eq_true', Bool.and_eq_false_iff, Bool.or_eq_false_iff, Bool.not_eq_false', decide_eq_true_eq, decide_eq_false_iff_not]
  grind
 ·have eb : baF l l.bare0 (q6c 5) = ⟨l.fk, l.fn, l.tk, l.tn, l.k, 0, 0, l.n, 0, 0, false, l.br, l.bn, l.vs, [], [], zT, 0, 0, [], 0, 0⟩ := rfl
  have em : ((q6c 5).all fun s => maF l s.toNat) = (qap l.n && (qh1 l.bn && (q9p l.vs && true))) := rfl
  rw [Bool.eq_iff_iff]
  simp only [lrF, rrF, e1, rc1, rc2, rc3, rc4, rc5, eb, em, e2, e3, qqj, Lt.plain, List.length_map, q0u, q0v, qdd, qde, q1w, q1x, q08, q0w, q0x, G5, q3q, q86, q3r, q3s, q1y, hk, qd9, Int.reduceEq, Int.reduceLT, Int.reduceLE, decide_false, decide_true, Bool.or_false, Bool.false_or, Bool.or_true, Bool.true_or, Bool.not_true, Bool.not_false, Bool.and_true, Bool.true_and, Bool.and_false, Bool.false_and, inF, if_true, if_false, Bool.false_eq_true, reduceIte, ltE, q1k, q1t, q1u, q1v, q3p, qap, q9p, q9q, q9r, and_self]
  clear e1 e2 e3 h
  clear eb em
  simp only [Bool.and_eq_true, Bool.or_eq_true, Bool.not_eq_true', Bool.and_eq_false_iff, Bool.or_eq_false_iff, Bool.not_eq_false', decide_eq_true_eq, decide_eq_false_iff_not]
  grind
 ·have eb : baF l l.bare0 (q6c 6) = ⟨l.fk, l.fn, l.tk, l.tn, l.k, 0, 0, l.n, 0, 0, false, l.br, l.bn, [], [], [], zT, 0, 0, l.v, 0, 0⟩ := rfl
  have em : ((q6c 6).all fun s => maF l s.toNat) = (qap l.n && (qh1 l.bn && (decide ((l.v.length : Int) <= 64) && true))) := rfl
  rw [Bool.eq_iff_iff]
  simp only [lrF, rrF, e1, rc1, rc2, rc3, rc4, rc5, eb, em, e2, e3, qqj, Lt.plain, List.length_map, q0u, q0v, qdd, qde, q1w, q1x, q08, q0w, q0x, G5, q3q, q86, q3r, q3s, q1y, hk, qd9, Int.reduceEq, Int.reduceLT, Int.reduceLE, decide_false, decide_true, Bool.or_false, Bool.false_or, Bool.or_true, Bool.true_or, Bool.not_true, Bool.not_false, Bool.and_true, Bool.true_and, Bool.and_false, Bool.false_and, inF, if_true, if_false, Bool.false_eq_true, reduceIte, ltE, q1k, q1t, q1u, q1v, q3p, qap, q9p, q9q, q9r, and_self]
  clear e1 e2 e3 h
  clear eb em
  simp only [Bool.and_eq_true, Bool.or_eq_true, Bool.not_eq_true', Bool.and_eq_false_iff, Bool.or_eq_false_iff, Bool.not_eq_false', decide_eq_true_eq, decide_eq_false_iff_not]
  grind
 ·have eb : baF l l.bare0 (q6c 7) = ⟨l.fk, l.fn, l.tk, l.tn, l.k, 0, 0, l.n, 0, 0, false, l.br, l.bn, [], [], [], zT, 0, 0, [], 0, 0⟩ := rfl
  have em : ((q6c 7).all fun s => maF l s.toNat) = (qap l.n && (qh1 l.bn && true)) := rfl
  rw [Bool.eq_iff_iff]
  simp only [lrF, rrF, e1, rc1, rc2, rc3, rc4, rc5, eb, em, e2, e3, qqj, Lt.plain, List.length_map, q0u, q0v, qdd, qde, q1w, q1x, q08, q0w, q0x, G5, q3q, q86, q3r, q3s, q1y, hk, qd9, Int.reduceEq, Int.reduceLT, Int.reduceLE, decide_false, decide_true, Bool.or_false, Bool.false_or, Bool.or_true, Bool.true_or, Bool.not_true, Bool.not_false, Bool.and_true, Bool.true_and, Bool.and_false, Bool.false_and, inF, if_true, if_false, Bool.false_eq_true, reduceIte, ltE, q1k, q1t, q1u, q1v, q3p, qap, q9p, q9q, q9r, and_self]
  clear e1 e2 e3 h
  clear eb em
  simp only [Bool.and_eq_true, Bool.or_eq_true, Bool.not_eq_true', Bool.and_eq_false_iff, Bool.or_eq_false_iff, Bool.not_eq_false', decide_eq_true_eq, decide_eq_false_iff_not]
  grind
 ·have eb : baF l l.bare0 (q6c 8) = ⟨l.fk, l.fn, l.tk, l.tn, l.k, 0, 0, 0, 0, 0, false, l.br, l.bn, [], [], [], zT, 0, 0, [], 0, 0⟩ := rfl
  have em : ((q6c 8).all fun s => maF l s.toNat) = (qh1 l.bn && true) := rfl
  rw [Bool.eq_iff_iff]
  simp only [lrF, rrF, e1, rc1, rc2, rc3, rc4, rc5, eb, em, e2, e3, qqj, Lt.plain, List.length_map, q0u, q0v, qdd, qde, q1w, q1x, q08, q0w, q0x, G5, q3q, q86, q3r, q3s, q1y, hk, qd9, Int.reduceEq, Int.reduceLT, Int.reduceLE, decide_false, decide_true, Bool.or_false, Bool.false_or, Bool.or_true, Bool.true_or, Bool.not_true, Bool.not_false, Bool.and_true, Bool.true_and, Bool.and_false, Bool.false_and, inF, if_true, if_false, Bool.false_eq_true, reduceIte, ltE, q1k, q1t, q1u, q1v, q3p, qap, q9p, q9q, q9r, and_self]
  clear e1 e2 e3 h
  clear eb em
  simp only [Bool.and_eq_true, Bool.or_eq_true, Bool.not_eq_true', Bool.and_eq_false_iff, Bool.or_eq_false_iff, Bool.not_eq_false', decide_eq_true_eq, decide_eq_false_iff_not]
  grind
 ·have eb : baF l l.bare0 (q6c 9) = ⟨l.fk, l.fn, l.tk, l.tn, l.k, 0, 0, l.n, 0, 0, false, 0, 0, [], [], [], zT, 0, 0, l.v, 0, 0⟩ := rfl
  have em : ((q6c 9).all fun s => maF l s.toNat) = (qap l.n && (decide ((l.v.length : Int) <= 64) && true)) := rfl
  rw [Bool.eq_iff_iff]
  simp only [lrF, rrF, e1, rc1, rc2, rc3, rc4, rc5, eb, em, e2, e3, qqj, Lt.plain, List.length_map, q0u, q0v, qdd, qde, q1w, q1x, q08, q0w, q0x, G5, q3q, q86, q3r, q3s, q1y, hk, qd9, Int.reduceEq, Int.reduceLT, Int.reduceLE, decide_false, decide_true, Bool.or_false, Bool.false_or, Bool.or_true, Bool.true_or, Bool.not_true, Bool.not_false, Bool.and_true, Bool.true_and, Bool.and_false, Bool.false_and, inF, if_true, if_false, Bool.false_eq_true, reduceIte, ltE, q1k, q1t, q1u, q1v, q3p, qap, q9p, q9q, q9r, and_self]
  clear e1 e2 e3 h
  clear eb em
  simp only [Bool.and_eq_true, Bool.or_eq_true, Bool.not_eq_true', Bool.and_eq_false_iff, Bool.or_eq_false_iff, Bool.not_eq_false', decide_eq_true_eq, decide_eq_false_iff_not]
  grind
 ·have eb : baF l l.bare0 (q6c 10) = ⟨l.fk, l.fn, l.tk, l.tn, l.k, 0, 0, l.n, 0, 0, false, 0, 0, [], [], [], zT, 0, 0, [], 0, 0⟩ := rfl
  have em : ((q6c 10).all fun s => maF l s.toNat) = (qap l.n && true) := rfl
  rw [Bool.eq_iff_iff]
  simp only [lrF, rrF, e1, rc1, rc2, rc3, rc4, rc5, eb, em, e2, e3, qqj, Lt.plain, List.length_map, q0u, q0v, qdd, qde, q1w, q1x, q08, q0w, q0x, G5, q3q, q86, q3r, q3s, q1y, hk, qd9, Int.reduceEq, Int.reduceLT, Int.reduceLE, decide_false, decide_true, Bool.or_false, Bool.false_or, Bool.or_true, Bool.true_or, Bool.not_true, Bool.not_false, Bool.and_true, Bool.true_and, Bool.and_false, Bool.false_and, inF, if_true, if_false, Bool.false_eq_true, reduceIte, ltE, q1k, q1t, q1u, q1v, q3p, qap, q9p, q9q, q9r, and_self]
  clear e1 e2 e3 h
  clear eb em
  simp only [Bool.and_eq_true, Bool.or_eq_true, Bool.not_eq_true', Bool.and_eq_false_iff, Bool.or_eq_false_iff, Bool.not_eq_false', decide_eq_true_eq, decide_eq_false_iff_not]
  grind
 ·have eb : baF l l.bare0 (q6c 11) = ⟨l.fk, l.fn, l.tk, l.tn, l.k, 0, 0, l.n, 0, 0, false, l.br, l.bn, [], [], [], zT, 0, 0, [], 0, 0⟩ := rfl
  have em : ((q6c 11).all fun s => maF l s.toNat) = (qap l.n && (qh1 l.bn && true)) := rfl
  rw [Bool.eq_iff_iff]
  simp only [lrF, rrF, e1, rc1, rc2, rc3, rc4, rc5, eb, em, e2, e3, qqj, Lt.plain, List.length_map, q0u, q0v, qdd, qde, q1w, q1x, q08, q0w, q0x, G5, q3q, q86, q3r, q3s, q1y, hk, qd9, Int.reduceEq, Int.reduceLT, Int.reduceLE, decide_false, decide_true, Bool.or_false, Bool.false_or, Bool.or_true, Bool.true_or, Bool.not_true, Bool.not_false, Bool.and_true, Bool.true_and, Bool.and_false, Bool.false_and, inF, if_true, if_false, Bool.false_eq_true, reduceIte, ltE, q1k, q1t, q1u, q1v, q3p, qap, q9p, q9q, q9r, and_self]
  clear e1 e2 e3 h
  clear eb em
  simp only [Bool.and_eq_true, Bool.or_eq_true, Bool.not_eq_true', Bool.and_eq_false_iff, Bool.or_eq_false_iff, Bool.not_eq_false', decide_eq_true_eq, decide_eq_false_iff_not]
  grind
 ·have eb : baF l l.bare0 (q6c 12) = ⟨l.fk, l.fn, l.tk, l.tn, l.k, l.sh, l.ep, l.n, l.m, 0, false, 0, 0, [], [], l.es, zT, 0, 0, [], l.q, 0⟩ := rfl
  have em : ((q6c 12).all fun s => maF l s.toNat) = ((decide (0 <= l.sh) && decide (l.sh < 4)) && (true && (qap l.n && (qap l.m && (true && (q9r l.es && true)))))) := rfl
  rw [Bool.eq_iff_iff]
  simp only [lrF, rrF, e1, rc1, rc2, rc3, rc4, rc5, eb, em, e2, e3, qqj, Lt.plain, List.length_map, q0u, q0v, qdd, qde, q1w, q1x, q08, q0w, q0x, G5, q3q, q86, q3r, q3s, q1y, hk, qd9, Int.reduceEq, Int.reduceLT, Int.reduceLE, decide_false, decide_true, Bool.or_false, Bool.false_or, Bool.or_true, Bool.true_or, Bool.not_true, Bool.not_false, Bool.and_true, Bool.true_and, Bool.and_false, Bool.false_and, inF, if_true, if_false, Bool.false_eq_true, reduceIte, ltE, q1k, q1t, q1u, q1v, q3p, qap, q9p, q9q, q9r, and_self]
  clear e1 e2 e3 h
  clear eb em
  simp only [Bool.and_eq_true, Bool.or_eq_true, Bool.not_eq_true', Bool.and_eq_false_iff, Bool.or_eq_false_iff, Bool.not_eq_false', decide_eq_true_eq, decide_eq_false_iff_not]
  grind
 ·have eb : baF l l.bare0 (q6c 13) = ⟨l.fk, l.fn, l.tk, l.tn, l.k, l.sh, l.ep, l.n, 0, 0, l.fl, 0, 0, [], [], [], zT, 0, 0, [], 0, 0⟩ := rfl
  have em : ((q6c 13).all fun s => maF l s.toNat) = ((decide (0 <= l.sh) && decide (l.sh < 4)) && (true && (qap l.n && (true && true)))) := rfl
  rw [Bool.eq_iff_iff]
  simp only [lrF, rrF, e1, rc1, rc2, rc3, rc4, rc5, eb, em, e2, e3, qqj, Lt.plain, List.length_map, q0u, q0v, qdd, qde, q1w, q1x, q08, q0w, q0x, G5, q3q, q86, q3r, q3s, q1y, hk, qd9, Int.reduceEq, Int.reduceLT, Int.reduceLE, decide_false, decide_true, Bool.or_false, Bool.false_or, Bool.or_true, Bool.true_or, Bool.not_true, Bool.not_false, Bool.and_true, Bool.true_and, Bool.and_false, Bool.false_and, inF, if_true, if_false, Bool.false_eq_true, reduceIte, ltE, q1k, q1t, q1u, q1v, q3p, qap, q9p, q9q, q9r, and_self]
  clear e1 e2 e3 h
  clear eb em
  simp only [Bool.and_eq_true, Bool.or_eq_true, Bool.not_eq_true', Bool.and_eq_false_iff, Bool.or_eq_false_iff, Bool.not_eq_false', decide_eq_true_eq, decide_eq_false_iff_not]
  grind
 ·have eb : baF l l.bare0 (q6c 14) = ⟨l.fk, l.fn, l.tk, l.tn, l.k, l.sh, l.ep, l.n, 0, 0, false, 0, 0, [], [], [], zT, 0, 0, [], 0, 0⟩ := rfl
  have em : ((q6c 14).all fun s => maF l s.toNat) = ((decide (0 <= l.sh) && decide (l.sh < 4)) && (true && (qap l.n && true))) := rfl
  rw [Bool.eq_iff_iff]
  simp only [lrF, rrF, e1, rc1, rc2, rc3, rc4, rc5, eb, em, e2, e3, qqj, Lt.plain, List.length_map, q0u, q0v, qdd, qde, q1w, q1x, q08, q0w, q0x, G5, q3q, q86, q3r, q3s, q1y, hk, qd9, Int.reduceEq, Int.reduceLT, Int.reduceLE, decide_false, decide_true, Bool.or_false, Bool.false_or, Bool.or_true, Bool.true_or, Bool.not_true, Bool.not_false, Bool.and_true, Bool.true_and, Bool.and_false, Bool.false_and, inF, if_true, if_false, Bool.false_eq_true, reduceIte, ltE, q1k, q1t, q1u, q1v, q3p, qap, q9p, q9q, q9r, and_self]
  clear e1 e2 e3 h
  clear eb em
  simp only [Bool.and_eq_true, Bool.or_eq_true, Bool.not_eq_true', Bool.and_eq_false_iff, Bool.or_eq_false_iff, Bool.not_eq_false', decide_eq_true_eq, decide_eq_false_iff_not]
  grind
 ·have eb : baF l l.bare0 (q6c 15) = ⟨l.fk, l.fn, l.tk, l.tn, l.k, l.sh, l.ep, l.n, 0, l.nd, false, 0, 0, [], [], [], zT, l.cl, l.sq, l.v, 0, 0⟩ := rfl
  have em : ((q6c 15).all fun s => maF l s.toNat) = ((decide (0 <= l.sh) && decide (l.sh < 4)) && (true && (qap l.n && ((decide (0 <= l.nd) && decide (l.nd < 8)) && (qj0 l.cl l.sq && (decide ((l.v.length : Int) <= 64) && true)))))) := rfl
  rw [Bool.eq_iff_iff]
  simp only [lrF, rrF, e1, rc1, rc2, rc3, rc4, rc5, eb, em, e2, e3, qqj, Lt.plain, List.length_map, q0u, q0v, qdd, qde, q1w, q1x, q08, q0w, q0x, G5, q3q, q86, q3r, q3s, q1y, hk, qd9, Int.reduceEq, Int.reduceLT, Int.reduceLE, decide_false, decide_true, Bool.or_false, Bool.false_or, Bool.or_true, Bool.true_or, Bool.not_true, Bool.not_false, Bool.and_true, Bool.true_and, Bool.and_false, Bool.false_and, inF, if_true, if_false, Bool.false_eq_true, reduceIte, ltE, q1k, q1t, q1u, q1v, q3p, qap, q9p, q9q, q9r, and_self]
  clear e1 e2 e3 h
  clear eb em
  simp only [Bool.and_eq_true, Bool.or_eq_true, Bool.not_eq_true', Bool.and_eq_false_iff, Bool.or_eq_false_iff, Bool.not_eq_false', decide_eq_true_eq, decide_eq_false_iff_not]
  grind
 ·have eb : baF l l.bare0 (q6c 16) = ⟨l.fk, l.fn, l.tk, l.tn, l.k, l.sh, 0, l.n, 0, 0, false, 0, 0, [], [], [], zT, l.cl, l.sq, l.v, 0, 0⟩ := rfl
  have em : ((q6c 16).all fun s => maF l s.toNat) = ((decide (0 <= l.sh) && decide (l.sh < 4)) && (qap l.n && (qj0 l.cl l.sq && (decide ((l.v.length : Int) <= 64) && true)))) := rfl
  rw [Bool.eq_iff_iff]
  simp only [lrF, rrF, e1, rc1, rc2, rc3, rc4, rc5, eb, em, e2, e3, qqj, Lt.plain, List.length_map, q0u, q0v, qdd, qde, q1w, q1x, q08, q0w, q0x, G5, q3q, q86, q3r, q3s, q1y, hk, qd9, Int.reduceEq, Int.reduceLT, Int.reduceLE, decide_false, decide_true, Bool.or_false, Bool.false_or, Bool.or_true, Bool.true_or, Bool.not_true, Bool.not_false, Bool.and_true, Bool.true_and, Bool.and_false, Bool.false_and, inF, if_true, if_false, Bool.false_eq_true, reduceIte, ltE, q1k, q1t, q1u, q1v, q3p, qap, q9p, q9q, q9r, and_self]
  clear e1 e2 e3 h
  clear eb em
  simp only [Bool.and_eq_true, Bool.or_eq_true, Bool.not_eq_true', Bool.and_eq_false_iff, Bool.or_eq_false_iff, Bool.not_eq_false', decide_eq_true_eq, decide_eq_false_iff_not]
  grind
 ·have eb : baF l l.bare0 (q6c 17) = ⟨l.fk, l.fn, l.tk, l.tn, l.k, l.sh, 0, 0, 0, 0, false, 0, 0, [], [], [], l.t, 0, 0, [], 0, 0⟩ := rfl
  have em : ((q6c 17).all fun s => maF l s.toNat) = ((decide (0 <= l.sh) && decide (l.sh < 4)) && (qqi l.t && true)) := rfl
  rw [Bool.eq_iff_iff]
  simp only [lrF, rrF, e1, rc1, rc2, rc3, rc4, rc5, eb, em, e2, e3, qqj, Lt.plain, List.length_map, q0u, q0v, qdd, qde, q1w, q1x, q08, q0w, q0x, G5, q3q, q86, q3r, q3s, q1y, hk, qd9, Int.reduceEq, Int.reduceLT, Int.reduceLE, decide_false, decide_true, Bool.or_false, Bool.false_or, Bool.or_true, Bool.true_or, Bool.not_true, Bool.not_false, Bool.and_true, Bool.true_and, Bool.and_false, Bool.false_and, inF, if_true, if_false, Bool.false_eq_true, reduceIte, ltE, q1k, q1t, q1u, q1v, q3p, qap, q9p, q9q, q9r, and_self]
  clear e1 e2 e3 h
  clear eb em
  simp only [Bool.and_eq_true, Bool.or_eq_true, Bool.not_eq_true', Bool.and_eq_false_iff, Bool.or_eq_false_iff, Bool.not_eq_false', decide_eq_true_eq, decide_eq_false_iff_not]
  grind
 ·have eb : baF l l.bare0 (q6c 18) = ⟨l.fk, l.fn, l.tk, l.tn, l.k, l.sh, 0, 0, 0, 0, false, 0, 0, [], [], [], zT, l.cl, l.sq, [], 0, l.co⟩ := rfl
  have em : ((q6c 18).all fun s => maF l s.toNat) = ((decide (0 <= l.sh) && decide (l.sh < 4)) && (qj0 l.cl l.sq && ((decide (0 <= l.co) && decide (l.co <= 99)) && true))) := rfl
  rw [Bool.eq_iff_iff]
  simp only [lrF, rrF, e1, rc1, rc2, rc3, rc4, rc5, eb, em, e2, e3, qqj, Lt.plain, List.length_map, q0u, q0v, qdd, qde, q1w, q1x, q08, q0w, q0x, G5, q3q, q86, q3r, q3s, q1y, hk, qd9, Int.reduceEq, Int.reduceLT, Int.reduceLE, decide_false, decide_true, Bool.or_false, Bool.false_or, Bool.or_true, Bool.true_or, Bool.not_true, Bool.not_false, Bool.and_true, Bool.true_and, Bool.and_false, Bool.false_and, inF, if_true, if_false, Bool.false_eq_true, reduceIte, ltE, q1k, q1t, q1u, q1v, q3p, qap, q9p, q9q, q9r, and_self]
  clear e1 e2 e3 h
  clear eb em
  simp only [Bool.and_eq_true, Bool.or_eq_true, Bool.not_eq_true', Bool.and_eq_false_iff, Bool.or_eq_false_iff, Bool.not_eq_false', decide_eq_true_eq, decide_eq_false_iff_not]
  grind
 ·have eb : baF l l.bare0 (q6c 19) = ⟨l.fk, l.fn, l.tk, l.tn, l.k, 0, 0, 0, 0, 0, false, 0, 0, [], [], [], zT, l.cl, l.sq, l.v, 0, 0⟩ := rfl
  have em : ((q6c 19).all fun s => maF l s.toNat) = (qj0 l.cl l.sq && (decide ((l.v.length : Int) <= 64) && true)) := rfl
  rw [Bool.eq_iff_iff]
  simp only [lrF, rrF, e1, rc1, rc2, rc3, rc4, rc5, eb, em, e2, e3, qqj, Lt.plain, List.length_map, q0u, q0v, qdd, qde, q1w, q1x, q08, q0w, q0x, G5, q3q, q86, q3r, q3s, q1y, hk, qd9, Int.reduceEq, Int.reduceLT, Int.reduceLE, decide_false, decide_true, Bool.or_false, Bool.false_or, Bool.or_true, Bool.true_or, Bool.not_true, Bool.not_false, Bool.and_true, Bool.true_and, Bool.and_false, Bool.false_and, inF, if_true, if_false, Bool.false_eq_true, reduceIte, ltE, q1k, q1t, q1u, q1v, q3p, qap, q9p, q9q, q9r, and_self]
  clear e1 e2 e3 h
  clear eb em
  simp only [Bool.and_eq_true, Bool.or_eq_true, Bool.not_eq_true', Bool.and_eq_false_iff, Bool.or_eq_false_iff, Bool.not_eq_false', decide_eq_true_eq, decide_eq_false_iff_not]
  grind
 ·have eb : baF l l.bare0 (q6c 20) = ⟨l.fk, l.fn, l.tk, l.tn, l.k, 0, 0, 0, 0, 0, false, 0, 0, [], [], [], l.t, 0, 0, [], 0, 0⟩ := rfl
  have em : ((q6c 20).all fun s => maF l s.toNat) = (qqi l.t && true) := rfl
  rw [Bool.eq_iff_iff]
  simp only [lrF, rrF, e1, rc1, rc2, rc3, rc4, rc5, eb, em, e2, e3, qqj, Lt.plain, List.length_map, q0u, q0v, qdd, qde, q1w, q1x, q08, q0w, q0x, G5, q3q, q86, q3r, q3s, q1y, hk, qd9, Int.reduceEq, Int.reduceLT, Int.reduceLE, decide_false, decide_true, Bool.or_false, Bool.false_or, Bool.or_true, Bool.true_or, Bool.not_true, Bool.not_false, Bool.and_true, Bool.true_and, Bool.and_false, Bool.false_and, inF, if_true, if_false, Bool.false_eq_true, reduceIte, ltE, q1k, q1t, q1u, q1v, q3p, qap, q9p, q9q, q9r, and_self]
  clear e1 e2 e3 h
  clear eb em
  simp only [Bool.and_eq_true, Bool.or_eq_true, Bool.not_eq_true', Bool.and_eq_false_iff, Bool.or_eq_false_iff, Bool.not_eq_false', decide_eq_true_eq, decide_eq_false_iff_not]
  grind
 ·have eb : baF l l.bare0 (q6c 21) = ⟨l.fk, l.fn, l.tk, l.tn, l.k, 0, 0, l.n, 0, 0, false, 0, 0, [], [], [], zT, l.cl, l.sq, l.v, l.q, l.co⟩ := rfl
  have em : ((q6c 21).all fun s => maF l s.toNat) = (qap l.n && (qj0 l.cl l.sq && (decide ((l.v.length : Int) <= 64) && (true && ((decide (0 <= l.co) && decide (l.co <= 99)) && true))))) := rfl
  rw [Bool.eq_iff_iff]
  simp only [lrF, rrF, e1, rc1, rc2, rc3, rc4, rc5, eb, em, e2, e3, qqj, Lt.plain, List.length_map, q0u, q0v, qdd, qde, q1w, q1x, q08, q0w, q0x, G5, q3q, q86, q3r, q3s, q1y, hk, qd9, Int.reduceEq, Int.reduceLT, Int.reduceLE, decide_false, decide_true, Bool.or_false, Bool.false_or, Bool.or_true, Bool.true_or, Bool.not_true, Bool.not_false, Bool.and_true, Bool.true_and, Bool.and_false, Bool.false_and, inF, if_true, if_false, Bool.false_eq_true, reduceIte, ltE, q1k, q1t, q1u, q1v, q3p, qap, q9p, q9q, q9r, and_self]
  clear e1 e2 e3 h
  clear eb em
  simp only [Bool.and_eq_true, Bool.or_eq_true, Bool.not_eq_true', Bool.and_eq_false_iff, Bool.or_eq_false_iff, Bool.not_eq_false', decide_eq_true_eq, decide_eq_false_iff_not]
  grind
 ·have a1 : rc1 l.plain = true := by
   simp only [qd9, decide_eq_false_iff_not] at hk
   simp only [rc1, ek]
   have : decide (l.k < 1) = true \/ decide (21 < l.k) = true := by simp only [decide_eq_true_eq]; omega
   rcases this with h | h <;> simp only [h, Bool.true_or, Bool.or_true]
  simp only [rrF, lrF, a1, hk, Bool.not_true, Bool.false_and]
end Go.Aw
