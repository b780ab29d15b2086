import Derived.Test.YteiamcnjlpbihaaGreatDoorN17T16J
namespace Go.Aw
open Go
set_option linter.all false
set_option maxHeartbeats 8000000
set_option maxRecDepth 8000
theorem z4u (l : Lt Cf) (h : ∀ c ∈ l.cs, c.fu.length = c.ch.length) : ((l.cs.map Cf.plain).all Rf.right) = (!(l.cs.any qz4)) := by
 generalize l.cs = cs at h
 induction cs with
 | nil => rfl
 | cons c cs ih =>
  simp only [List.map_cons, List.all_cons, List.any_cons, qz4, Bool.not_or, Bool.not_not]
  rw [c.plain_right (h c (List.mem_cons_self ..)), ih (fun d hd => h d (List.mem_cons_of_mem _ hd))]
theorem z1m {α : Type} (p : α -> Bool) (l : List α) : l.all p = !(l.any fun x => !p x) := by
 induction l with
 | nil => rfl
 | cons x l ih => simp only [List.all_cons, List.any_cons, Bool.not_or, Bool.not_not, ih]
theorem q1f (t : Tx) : txE t t = true := by
 simp only [txE, decide_true, Bool.true_and]
 rw [qc3 (e := rdE) (fun x => by simp [rdE]), qc3 (e := wtE) (fun x => by simp [wtE])]; rfl
theorem q1r (l : List Vt) : eqL vtE l l = true := qc3 (fun x => by simp [vtE]) l
theorem q1s (l : List Cf) : eqL cfE l l = true := qc3 (fun x => by
 simp only [cfE, decide_true, Bool.true_and]
 rw [qc3 (e := z15) (fun x => by simp [z15]), qc3 (e := qob) (fun x => by simp [qob])]; rfl) l
theorem q1t (l : List En) : eqL enE l l = true := qc3 (fun x => by
 simp only [enE, decide_true, Bool.true_and, q1f]) l
theorem q0m (k : Int) : q98 k [115, 104, 97, 114, 100] = (decide (k = 1) || decide (k = 12) || decide (k = 13) || decide (k = 14) || decide (k = 15) || decide (k = 16) || decide (k = 17) || decide (k = 18)) := by
 rcases kinds k with (rfl | rfl | rfl | rfl | rfl | rfl | rfl | rfl | rfl | rfl | rfl | rfl | rfl | rfl | rfl | rfl | rfl | rfl | rfl | rfl | rfl) | h
 any_goals (decide +kernel)
 simp only [q98, h, Bool.false_and, G3 h 1, G3 h 12, G3 h 13, G3 h 14, G3 h 15, G3 h 16, G3 h 17, G3 h 18, Bool.or_self]
theorem q0n (k : Int) : q98 k [101, 112, 111, 99, 104] = (decide (k = 1) || decide (k = 12) || decide (k = 13) || decide (k = 14) || decide (k = 15)) := by
 rcases kinds k with (rfl | rfl | rfl | rfl | rfl | rfl | rfl | rfl | rfl | rfl | rfl | rfl | rfl | rfl | rfl | rfl | rfl | rfl | rfl | rfl | rfl) | h
 any_goals (decide +kernel)
 simp only [q98, h, Bool.false_and, G3 h 1, G3 h 12, G3 h 13, G3 h 14, G3 h 15, Bool.or_self]
theorem qch (k : Int) : q98 k [110] = (decide (k = 1) || decide (k = 2) || decide (k = 4) || decide (k = 5) || decide (k = 6) || decide (k = 7) || decide (k = 9) || decide (k = 10) || decide (k = 11) || decide (k = 12) || decide (k = 13) || decide (k = 14) || decide (k = 15) || decide (k = 16) || decide (k = 21)) := by
 rcases kinds k with (rfl | rfl | rfl | rfl | rfl | rfl | rfl | rfl | rfl | rfl | rfl | rfl | rfl | rfl | rfl | rfl | rfl | rfl | rfl | rfl | rfl) | h
 any_goals (decide +kernel)
 simp only [q98, h, Bool.false_and, G3 h 1, G3 h 2, G3 h 4, G3 h 5, G3 h 6, G3 h 7, G3 h 9, G3 h 10, G3 h 11, G3 h 12, G3 h 13, G3 h 14, G3 h 15, G3 h 16, G3 h 21, Bool.or_self]
theorem qci (k : Int) : q98 k [109] = (decide (k = 12)) := by
 rcases kinds k with (rfl | rfl | rfl | rfl | rfl | rfl | rfl | rfl | rfl | rfl | rfl | rfl | rfl | rfl | rfl | rfl | rfl | rfl | rfl | rfl | rfl) | h
 any_goals (decide +kernel)
 simp only [q98, h, Bool.false_and, G3 h 12, Bool.or_self]
theorem q1u (k : Int) : q98 k [110, 111, 100, 101] = (decide (k = 15)) := by
 rcases kinds k with (rfl | rfl | rfl | rfl | rfl | rfl | rfl | rfl | rfl | rfl | rfl | rfl | rfl | rfl | rfl | rfl | rfl | rfl | rfl | rfl | rfl) | h
 any_goals (decide +kernel)
 simp only [q98, h, Bool.false_and, G3 h 15, Bool.or_self]
theorem q1v (k : Int) : q98 k [102, 108, 97, 103] = (decide (k = 1) || decide (k = 13)) := by
 rcases kinds k with (rfl | rfl | rfl | rfl | rfl | rfl | rfl | rfl | rfl | rfl | rfl | rfl | rfl | rfl | rfl | rfl | rfl | rfl | rfl | rfl | rfl) | h
 any_goals (decide +kernel)
 simp only [q98, h, Bool.false_and, G3 h 1, G3 h 13, Bool.or_self]
theorem q02 (k : Int) : q98 k [98, 97, 108, 108, 111, 116] = (decide (k = 4) || decide (k = 5) || decide (k = 6) || decide (k = 7) || decide (k = 8) || decide (k = 11)) := by
 rcases kinds k with (rfl | rfl | rfl | rfl | rfl | rfl | rfl | rfl | rfl | rfl | rfl | rfl | rfl | rfl | rfl | rfl | rfl | rfl | rfl | rfl | rfl) | h
 any_goals (decide +kernel)
 simp only [q98, h, Bool.false_and, G3 h 4, G3 h 5, G3 h 6, G3 h 7, G3 h 8, G3 h 11, Bool.or_self]
theorem q0o (k : Int) : q98 k [118, 111, 116, 101, 115] = (decide (k = 5)) := by
 rcases kinds k with (rfl | rfl | rfl | rfl | rfl | rfl | rfl | rfl | rfl | rfl | rfl | rfl | rfl | rfl | rfl | rfl | rfl | rfl | rfl | rfl | rfl) | h
 any_goals (decide +kernel)
 simp only [q98, h, Bool.false_and, G3 h 5, Bool.or_self]
theorem q0p (k : Int) : q98 k [99, 111, 110, 102, 115] = (decide (k = 2)) := by
 rcases kinds k with (rfl | rfl | rfl | rfl | rfl | rfl | rfl | rfl | rfl | rfl | rfl | rfl | rfl | rfl | rfl | rfl | rfl | rfl | rfl | rfl | rfl) | h
 any_goals (decide +kernel)
 simp only [q98, h, Bool.false_and, G3 h 2, Bool.or_self]
theorem Z8 (k : Int) : q98 k [101, 110, 116, 114, 105, 101, 115] = (decide (k = 12)) := by
 rcases kinds k with (rfl | rfl | rfl | rfl | rfl | rfl | rfl | rfl | rfl | rfl | rfl | rfl | rfl | rfl | rfl | rfl | rfl | rfl | rfl | rfl | rfl) | h
 any_goals (decide +kernel)
 simp only [q98, h, Bool.false_and, G3 h 12, Bool.or_self]
theorem q3u (k : Int) : q98 k [116, 120, 110] = (decide (k = 17) || decide (k = 20)) := by
 rcases kinds k with (rfl | rfl | rfl | rfl | rfl | rfl | rfl | rfl | rfl | rfl | rfl | rfl | rfl | rfl | rfl | rfl | rfl | rfl | rfl | rfl | rfl) | h
 any_goals (decide +kernel)
 simp only [q98, h, Bool.false_and, G3 h 17, G3 h 20, Bool.or_self]
theorem q7m (k : Int) : q98 k [105, 100] = (decide (k = 15) || decide (k = 16) || decide (k = 18) || decide (k = 19) || decide (k = 21)) := by
 rcases kinds k with (rfl | rfl | rfl | rfl | rfl | rfl | rfl | rfl | rfl | rfl | rfl | rfl | rfl | rfl | rfl | rfl | rfl | rfl | rfl | rfl | rfl) | h
 any_goals (decide +kernel)
 simp only [q98, h, Bool.false_and, G3 h 15, G3 h 16, G3 h 18, G3 h 19, G3 h 21, Bool.or_self]
theorem q3v (k : Int) : q98 k [118, 97, 108] = (decide (k = 6) || decide (k = 9) || decide (k = 15) || decide (k = 16) || decide (k = 19) || decide (k = 21)) := by
 rcases kinds k with (rfl | rfl | rfl | rfl | rfl | rfl | rfl | rfl | rfl | rfl | rfl | rfl | rfl | rfl | rfl | rfl | rfl | rfl | rfl | rfl | rfl) | h
 any_goals (decide +kernel)
 simp only [q98, h, Bool.false_and, G3 h 6, G3 h 9, G3 h 15, G3 h 16, G3 h 19, G3 h 21, Bool.or_self]
theorem q3w (k : Int) : q98 k [110, 117, 109] = (decide (k = 12) || decide (k = 21)) := by
 rcases kinds k with (rfl | rfl | rfl | rfl | rfl | rfl | rfl | rfl | rfl | rfl | rfl | rfl | rfl | rfl | rfl | rfl | rfl | rfl | rfl | rfl | rfl) | h
 any_goals (decide +kernel)
 simp only [q98, h, Bool.false_and, G3 h 12, G3 h 21, Bool.or_self]
theorem q1w (k : Int) : q98 k [99, 111, 100, 101] = (decide (k = 18) || decide (k = 21)) := by
 rcases kinds k with (rfl | rfl | rfl | rfl | rfl | rfl | rfl | rfl | rfl | rfl | rfl | rfl | rfl | rfl | rfl | rfl | rfl | rfl | rfl | rfl | rfl) | h
 any_goals (decide +kernel)
 simp only [q98, h, Bool.false_and, G3 h 18, G3 h 21, Bool.or_self]
theorem z4v (l : Lt Cf) (h : ∀ c ∈ l.cs, c.fu.length = c.ch.length) : rrF l.plain = lrF l := by
 have e1 : l.vs.all qyi = !(l.vs.any z19) := z1m _ _
 have e2 := z4u l h
 have e3 : l.es.all qdb = !(l.es.any z1a) := z1m _ _
 have ek : l.plain.k = l.k := rfl
 have v0 : l.vs.length = 0 -> l.vs.any z19 = false := fun h => by rw [List.length_eq_zero_iff.1 h]; rfl
 have c0 : l.cs.length = 0 -> l.cs.any qz4 = false := fun h => by rw [List.length_eq_zero_iff.1 h]; rfl
 have s0 : l.es.length = 0 -> l.es.any z1a = false := fun h => by rw [List.length_eq_zero_iff.1 h]; rfl
 rcases kinds l.k with (hk | hk | hk | hk | hk | hk | hk | hk | hk | hk | hk | hk | hk | hk | hk | hk | hk | hk | hk | hk | hk) | hk
 ·have eb : baF l l.bare0 (q66 1) = ⟨l.fk, l.fn, l.tk, l.tn, l.k, l.sh, l.ep, l.n, 0, 0, l.fl, 0, 0, [], [], [], zT, 0, 0, [], 0, 0⟩ := rfl
  have em : ((q66 1).all fun s => maF l s.toNat) = ((decide (0 <= l.sh) && decide (l.sh < 4)) && (true && (q94 l.n && (true && true)))) := rfl
  rw [Bool.eq_iff_iff]
  simp only [lrF, rrF, e1, rc1, rc2, rc3, rc4, rc5, eb, em, e2, e3, qmn, Lt.plain, List.length_map, q0m, q0n, qch, qci, q1u, q1v, q02, q0o, q0p, Z8, q3u, q7m, q3v, q3w, q1w, hk, qbq, Int.reduceEq, Int.reduceLT, Int.reduceLE, decide_false, decide_true, Bool.or_false, Bool.false_or, Bool.or_true, Bool.true_or, Bool.not_true, Bool.not_false, Bool.and_true, Bool.true_and, Bool.and_false, Bool.false_and, inF, if_true, if_false, Bool.false_eq_true, reduceIte, ltE, q1f, q1r, q1s, q1t, q36, q94, q95, q96, q97, and_self]
  clear e1 e2 e3 h
  clear eb em
  simp only [Bool.and_eq_true, Bool.or_eq_true, Bool.not_eq_true', Bool.and_eq_false_iff, Bool.or_eq_false_iff, Bool.not_eq_false', decide_eq_true_eq, decide_eq_false_iff_not]
  grind
 ·have eb : baF l l.bare0 (q66 2) = ⟨l.fk, l.fn, l.tk, l.tn, l.k, 0, 0, l.n, 0, 0, false, 0, 0, [], l.cs, [], zT, 0, 0, [], 0, 0⟩ := rfl
  have em : ((q66 2).all fun s => maF l s.toNat) = (q94 l.n && (q96 l.cs && true)) := rfl
  rw [Bool.eq_iff_iff]
  simp only [lrF, rrF, e1, rc1, rc2, rc3, rc4, rc5, eb, em, e2, e3, qmn, Lt.plain, List.length_map, q0m, q0n, qch, qci, q1u, q1v, q02, q0o, q0p, Z8, q3u, q7m, q3v, q3w, q1w, hk, qbq, Int.reduceEq, Int.reduceLT, Int.reduceLE, decide_false, decide_true, Bool.or_false, Bool.false_or, Bool.or_true, Bool.true_or, Bool.not_true, Bool.not_false, Bool.and_true, Bool.true_and, Bool.and_false, Bool.false_and, inF, if_true, if_false, Bool.false_eq_true, reduceIte, ltE, q1f, q1r, q1s, q1t, q36, q94, q95, q96, q97, and_self]
  clear e1 e2 e3 h
  clear eb em
  simp only [Bool.and_eq_true, Bool.or_eq_true, Bool.not_eq_true', Bool.and_eq_false_iff, Bool.or_eq_false_iff, Bool.not_eq_false', decide_eq_true_eq, decide_eq_false_iff_not]
  grind
 ·have eb : baF l l.bare0 (q66 3) = ⟨l.fk, l.fn, l.tk, l.tn, l.k, 0, 0, 0, 0, 0, false, 0, 0, [], [], [], zT, 0, 0, [], 0, 0⟩ := rfl
  have em : ((q66 3).all fun s => maF l s.toNat) = true := rfl
  rw [Bool.eq_iff_iff]
  simp only [lrF, rrF, e1, rc1, rc2, rc3, rc4, rc5, eb, em, e2, e3, qmn, Lt.plain, List.length_map, q0m, q0n, qch, qci, q1u, q1v, q02, q0o, q0p, Z8, q3u, q7m, q3v, q3w, q1w, hk, qbq, Int.reduceEq, Int.reduceLT, Int.reduceLE, decide_false, decide_true, Bool.or_false, Bool.false_or, Bool.or_true, Bool.true_or, Bool.not_true, Bool.not_false, Bool.and_true, Bool.true_and, Bool.and_false, Bool.false_and, inF, if_true, if_false, Bool.false_eq_true, reduceIte, ltE, q1f, q1r, q1s, q1t, q36, q94, q95, q96, q97, and_self]
  clear e1 e2 e3 h
  clear eb em
  simp only [Bool.and_eq_true, Bool.or_eq_true, Bool.not_eq_true', Bool.and_eq_false_iff, Bool.or_eq_false_iff, Bool.not_eq_false', decide_eq_true_eq, decide_eq_false_iff_not]
  grind
 ·have eb : baF l l.bare0 (q66 4) = ⟨l.fk, l.fn, l.tk, l.tn, l.k, 0, 0, l.n, 0, 0, false, l.br, l.bn, [], [], [], zT, 0, 0, [], 0, 0⟩ := rfl
  have em : ((q66 4).all fun s => maF l s.toNat) = (q94 l.n && (qhy l.bn && true)) := rfl
  rw [Bool.eq_iff_iff]
  simp only [lrF, rrF, e1, rc1, rc2, rc3, rc4, rc5, eb, em, e2, e3, qmn, Lt.plain, List.length_map, q0m, q0n, qch, qci, q1u, q1v, q02, q0o, q0p, Z8, q3u, q7m, q3v, q3w, q1w, hk, qbq, Int.reduceEq, Int.reduceLT, Int.reduceLE, decide_false, decide_true, Bool.or_false, Bool.false_or, Bool.or_true, Bool.true_or, Bool.not_true, Bool.not_false, Bool.and_true, Bool.true_and, Bool.and_false, Bool.false_and, inF, if_true, if_false, Bool.false_eq_true, reduceIte, ltE, q1f, q1r, q1s, q1t, q36, q94, q95, q96, q97, and_self]
  clear e1 e2 e3 h
  clear eb em
  simp only [Bool.and_eq_true, Bool.or_eq_true, Bool.not_eq_true', Bool.and_eq_false_iff, Bool.or_eq_false_iff, Bool.not_eq_false', decide_eq_true_eq, decide_eq_false_iff_not]
  grind
 ·have eb : baF l l.bare0 (q66 5) = ⟨l.fk, l.fn, l.tk, l.tn, l.k, 0, 0, l.n, 0, 0, false, l.br, l.bn, l.vs, [], [], zT, 0, 0, [], 0, 0⟩ := rfl
  have em : ((q66 5).all fun s => maF l s.toNat) = (q94 l.n && (qhy l.bn && (q95 l.vs && true))) := rfl
  rw [Bool.eq_iff_iff]
  simp only [lrF, rrF, e1, rc1, rc2, rc3, rc4, rc5, eb, em, e2, e3, qmn, Lt.plain, List.length_map, q0m, q0n, qch, qci, q1u, q1v, q02, q0o, q0p, Z8, q3u, q7m, q3v, q3w, q1w, hk, qbq, Int.reduceEq, Int.reduceLT, Int.reduceLE, decide_false, decide_true, Bool.or_false, Bool.false_or, Bool.or_true, Bool.true_or, Bool.not_true, Bool.not_false, Bool.and_true, Bool.true_and, Bool.and_false, Bool.false_and, inF, if_true, if_false, Bool.false_eq_true, reduceIte, ltE, q1f, q1r, q1s, q1t, q36, q94, q95, q96, q97, and_self]
  clear e1 e2 e3 h
  clear eb em
  simp only [Bool.and_eq_true, Bool.or_eq_true, Bool.not_eq_true', Bool.and_eq_false_iff, Bool.or_eq_false_iff, Bool.not_eq_false', decide_eq_true_eq, decide_eq_false_iff_not]
  grind
 ·have eb : baF l l.bare0 (q66 6) = ⟨l.fk, l.fn, l.tk, l.tn, l.k, 0, 0, l.n, 0, 0, false, l.br, l.bn, [], [], [], zT, 0, 0, l.v, 0, 0⟩ := rfl
  have em : ((q66 6).all fun s => maF l s.toNat) = (q94 l.n && (qhy l.bn && (decide ((l.v.length : Int) <= 64) && true))) := rfl
  rw [Bool.eq_iff_iff]
  simp only [lrF, rrF, e1, rc1, rc2, rc3, rc4, rc5, eb, em, e2, e3, qmn, Lt.plain, List.length_map, q0m, q0n, qch, qci, q1u, q1v, q02, q0o, q0p, Z8, q3u, q7m, q3v, q3w, q1w, hk, qbq, Int.reduceEq, Int.reduceLT, Int.reduceLE, decide_false, decide_true, Bool.or_false, Bool.false_or, Bool.or_true, Bool.true_or, Bool.not_true, Bool.not_false, Bool.and_true, Bool.true_and, Bool.and_false, Bool.false_and, inF, if_true, if_false, Bool.false_eq_true, reduceIte, ltE, q1f, q1r, q1s, q1t, q36, q94, q95, q96, q97, and_self]
  clear e1 e2 e3 h
  clear eb em
  simp only [Bool.and_eq_true, Bool.or_eq_true, Bool.not_eq_true', Bool.and_eq_false_iff, Bool.or_eq_false_iff, Bool.not_eq_false', decide_eq_true_eq, decide_eq_false_iff_not]
  grind
 ·have eb : baF l l.bare0 (q66 7) = ⟨l.fk, l.fn, l.tk, l.tn, l.k, 0, 0, l.n, 0, 0, false, l.br, l.bn, [], [], [], zT, 0, 0, [], 0, 0⟩ := rfl
  have em : ((q66 7).all fun s => maF l s.toNat) = (q94 l.n && (qhy l.bn && true)) := rfl
  rw [Bool.eq_iff_iff]
  simp only [lrF, rrF, e1, rc1, rc2, rc3, rc4, rc5, eb, em, e2, e3, qmn, Lt.plain, List.length_map, q0m, q0n, qch, qci, q1u, q1v, q02, q0o, q0p, Z8, q3u, q7m, q3v, q3w, q1w, hk, qbq, Int.reduceEq, Int.reduceLT, Int.reduceLE, decide_false, decide_true, Bool.or_false, Bool.false_or, Bool.or_true, Bool.true_or, Bool.not_true, Bool.not_false, Bool.and_true, Bool.true_and, Bool.and_false, Bool.false_and, inF, if_true, if_false, Bool.false_eq_true, reduceIte, ltE, q1f, q1r, q1s, q1t, q36, q94, q95, q96, q97, and_self]
  clear e1 e2 e3 h
  clear eb em
  simp only [Bool.and_eq_true, Bool.or_eq_true, Bool.not_eq_true', Bool.and_eq_false_iff, Bool.or_eq_false_iff, Bool.not_eq_false', decide_eq_true_eq, decide_eq_false_iff_not]
  grind
 ·have eb : baF l l.bare0 (q66 8) = ⟨l.fk, l.fn, l.tk, l.tn, l.k, 0, 0, 0, 0, 0, false, l.br, l.bn, [], [], [], zT, 0, 0, [], 0, 0⟩ := rfl
  have em : ((q66 8).all fun s => maF l s.toNat) = (qhy l.bn && true) := rfl
  rw [Bool.eq_iff_iff]
  simp only [lrF, rrF, e1, rc1, rc2, rc3, rc4, rc5, eb, em, e2, e3, qmn, Lt.plain, List.length_map, q0m, q0n, qch, qci, q1u, q1v, q02, q0o, q0p, Z8, q3u, q7m, q3v, q3w, q1w, hk, qbq, Int.reduceEq, Int.reduceLT, Int.reduceLE, decide_false, decide_true, Bool.or_false, Bool.false_or, Bool.or_true, Bool.true_or, Bool.not_true, Bool.not_false, Bool.and_true, Bool.true_and, Bool.and_false, Bool.false_and, inF, if_true, if_false, Bool.false_eq_true, reduceIte, ltE, q1f, q1r, q1s, q1t, q36, q94, q95, q96, q97, and_self]
  clear e1 e2 e3 h
  clear eb em
  simp only [Bool.and_eq_true, Bool.or_eq_true, Bool.not_eq_true', Bool.and_eq_false_iff, Bool.or_eq_false_iff, Bool.not_eq_false', decide_eq_true_eq, decide_eq_false_iff_not]
  grind
 ·have eb : baF l l.bare0 (q66 9) = ⟨l.fk, l.fn, l.tk, l.tn, l.k, 0, 0, l.n, 0, 0, false, 0, 0, [], [], [], zT, 0, 0, l.v, 0, 0⟩ := rfl
  have em : ((q66 9).all fun s => maF l s.toNat) = (q94 l.n && (decide ((l.v.length : Int) <= 64) && true)) := rfl
  rw [Bool.eq_iff_iff]
  simp only [lrF, rrF, e1, rc1, rc2, rc3, rc4, rc5, eb, em, e2, e3, qmn, Lt.plain, List.length_map, q0m, q0n, qch, qci, q1u, q1v, q02, q0o, q0p, Z8, q3u, q7m, q3v, q3w, q1w, hk, qbq, Int.reduceEq, Int.reduceLT, Int.reduceLE, decide_false, decide_true, Bool.or_false, Bool.false_or, Bool.or_true, Bool.true_or, Bool.not_true, Bool.not_false, Bool.and_true, Bool.true_and, Bool.and_false, Bool.false_and, inF, if_true, if_false, Bool.false_eq_true, reduceIte, ltE, q1f, q1r, q1s, q1t, q36, q94, q95, q96, q97, and_self]
  clear e1 e2 e3 h
  clear eb em
  simp only [Bool.and_eq_true, Bool.or_eq_true, Bool.not_eq_true', Bool.and_eq_false_iff, Bool.or_eq_false_iff, Bool.not_eq_false', decide_eq_true_eq, decide_eq_false_iff_not]
  grind
 ·have eb : baF l l.bare0 (q66 10) = ⟨l.fk, l.fn, l.tk, l.tn, l.k, 0, 0, l.n, 0, 0, false, 0, 0, [], [], [], zT, 0, 0, [], 0, 0⟩ := rfl
  have em : ((q66 10).all fun s => maF l s.toNat) = (q94 l.n && true) := rfl
  rw [Bool.eq_iff_iff]
  simp only [lrF, rrF, e1, rc1, rc2, rc3, rc4, rc5, eb, em, e2, e3, qmn, Lt.plain, List.length_map, q0m, q0n, qch, qci, q1u, q1v, q02, q0o, q0p, Z8, q3u, q7m, q3v, q3w, q1w, hk, qbq, Int.reduceEq, Int.reduceLT, Int.reduceLE, decide_false, decide_true, Bool.or_false, Bool.false_or, Bool.or_true, Bool.true_or, Bool.not_true, Bool.not_false, Bool.and_true, Bool.true_and, Bool.and_false, Bool.false_and, inF, if_true, if_false, Bool.false_eq_true, reduceIte, ltE, q1f, q1r, q1s, q1t, q36, q94, q95, q96, q97, and_self]
  clear e1 e2 e3 h
  clear eb em
  simp only [Bool.and_eq_true, Bool.or_eq_true, Bool.not_eq_true', Bool.and_eq_false_iff, Bool.or_eq_false_iff, Bool.not_eq_false', decide_eq_true_eq, decide_eq_false_iff_not]
  grind
 ·have eb : baF l l.bare0 (q66 11) = ⟨l.fk, l.fn, l.tk, l.tn, l.k, 0, 0, l.n, 0, 0, false, l.br, l.bn, [], [], [], zT, 0, 0, [], 0, 0⟩ := rfl
  have em : ((q66 11).all fun s => maF l s.toNat) = (q94 l.n && (qhy l.bn && true)) := rfl
  rw [Bool.eq_iff_iff]
  simp only [lrF, rrF, e1, rc1, rc2, rc3, rc4, rc5, eb, em, e2, e3, qmn, Lt.plain, List.length_map, q0m, q0n, qch, qci, q1u, q1v, q02, q0o, q0p, Z8, q3u, q7m, q3v, q3w, q1w, hk, qbq, Int.reduceEq, Int.reduceLT, Int.reduceLE, decide_false, decide_true, Bool.or_false, Bool.false_or, Bool.or_true, Bool.true_or, Bool.not_true, Bool.not_false, Bool.and_true, Bool.true_and, Bool.and_false, Bool.false_and, inF, if_true, if_false, Bool.false_eq_true, reduceIte, ltE, q1f, q1r, q1s, q1t, q36, q94, q95, q96, q97, and_self]
  clear e1 e2 e3 h
  clear eb em
  simp only [Bool.and_eq_true, Bool.or_eq_true, Bool.not_eq_true', Bool.and_eq_false_iff, Bool.or_eq_false_iff, Bool.not_eq_false', decide_eq_true_eq, decide_eq_false_iff_not]
  grind
 ·have eb : baF l l.bare0 (q66 12) = ⟨l.fk, l.fn, l.tk, l.tn, l.k, l.sh, l.ep, l.n, l.m, 0, false, 0, 0, [], [], l.es, zT, 0, 0, [], l.q, 0⟩ := rfl
  have em : ((q66 12).all fun s => maF l s.toNat) = ((decide (0 <= l.sh) && decide (l.sh < 4)) && (true && (q94 l.n && (q94 l.m && (true && (q97 l.es && true)))))) := rfl
  rw [Bool.eq_iff_iff]
  simp only [lrF, rrF, e1, rc1, rc2, rc3, rc4, rc5, eb, em, e2, e3, qmn, Lt.plain, List.length_map, q0m, q0n, qch, qci, q1u, q1v, q02, q0o, q0p, Z8, q3u, q7m, q3v, q3w, q1w, hk, qbq, Int.reduceEq, Int.reduceLT, Int.reduceLE, decide_false, decide_true, Bool.or_false, Bool.false_or, Bool.or_true, Bool.true_or, Bool.not_true, Bool.not_false, Bool.and_true, Bool.true_and, Bool.and_false, Bool.false_and, inF, if_true, if_false, Bool.false_eq_true, reduceIte, ltE, q1f, q1r, q1s, q1t, q36, q94, q95, q96, q97, and_self]
  clear e1 e2 e3 h
  clear eb em
  simp only [Bool.and_eq_true, Bool.or_eq_true, Bool.not_eq_true', Bool.and_eq_false_iff, Bool.or_eq_false_iff, Bool.not_eq_false', decide_eq_true_eq, decide_eq_false_iff_not]
  grind
 ·have eb : baF l l.bare0 (q66 13) = ⟨l.fk, l.fn, l.tk, l.tn, l.k, l.sh, l.ep, l.n, 0, 0, l.fl, 0, 0, [], [], [], zT, 0, 0, [], 0, 0⟩ := rfl
  have em : ((q66 13).all fun s => maF l s.toNat) = ((decide (0 <= l.sh) && decide (l.sh < 4)) && (true && (q94 l.n && (true && true)))) := rfl
  rw [Bool.eq_iff_iff]
  simp only [lrF, rrF, e1, rc1, rc2, rc3, rc4, rc5, eb, em, e2, e3, qmn, Lt.plain, List.length_map, q0m, q0n, qch, qci, q1u, q1v, q02, q0o, q0p, Z8, q3u, q7m, q3v, q3w, q1w, hk, qbq, Int.reduceEq, Int.reduceLT, Int.reduceLE, decide_false, decide_true, Bool.or_false, Bool.false_or, Bool.or_true, Bool.true_or, Bool.not_true, Bool.not_false, Bool.and_true, Bool.true_and, Bool.and_false, Bool.false_and, inF, if_true, if_false, Bool.false_eq_true, reduceIte, ltE, q1f, q1r, q1s, q1t, q36, q94, q95, q96, q97, and_self]
  clear e1 e2 e3 h
  clear eb em
  simp only [Bool.and_eq_true, Bool.or_eq_true, Bool.not_eq_true', Bool.and_eq_false_iff, Bool.or_eq_false_iff, Bool.not_eq_false', decide_eq_true_eq, decide_eq_false_iff_not]
  grind
 ·have eb : baF l l.bare0 (q66 14) = ⟨l.fk, l.fn, l.tk, l.tn, l.k, l.sh, l.ep, l.n, 0, 0, false, 0, 0, [], [], [], zT, 0, 0, [], 0, 0⟩ := rfl
  have em : ((q66 14).all fun s => maF l s.toNat) = ((decide (0 <= l.sh) && decide (l.sh < 4)) && (true && (q94 l.n && true))) := rfl
  rw [Bool.eq_iff_iff]
  simp only [lrF, rrF, e1, rc1, rc2, rc3, rc4, rc5, eb, em, e2, e3, qmn, Lt.plain, List.length_map, q0m, q0n, qch, qci, q1u, q1v, q02, q0o, q0p, Z8, q3u, q7m, q3v, q3w, q1w, hk, qbq, Int.reduceEq, Int.reduceLT, Int.reduceLE, decide_false, decide_true, Bool.or_false, Bool.false_or, Bool.or_true, Bool.true_or, Bool.not_true, Bool.not_false, Bool.and_true, Bool.true_and, Bool.and_false, Bool.false_and, inF, if_true, if_false, Bool.false_eq_true, reduceIte, ltE, q1f, q1r, q1s, q1t, q36, q94, q95, q96, q97, and_self]
  clear e1 e2 e3 h
  clear eb em
  simp only [Bool.and_eq_true, Bool.or_eq_true, Bool.not_eq_true', Bool.and_eq_false_iff, Bool.or_eq_false_iff, Bool.not_eq_false', decide_eq_true_eq, decide_eq_false_iff_not]
  grind
 ·have eb : baF l l.bare0 (q66 15) = ⟨l.fk, l.fn, l.tk, l.tn, l.k, l.sh, l.ep, l.n, 0, l.nd, false, 0, 0, [], [], [], zT, l.cl, l.sq, l.v, 0, 0⟩ := rfl
  have em : ((q66 15).all fun s => maF l s.toNat) = ((decide (0 <= l.sh) && decide (l.sh < 4)) && (true && (q94 l.n && ((decide (0 <= l.nd) && decide (l.nd < 8)) && (qhx l.cl l.sq && (decide ((l.v.length : Int) <= 64) && true)))))) := rfl
  rw [Bool.eq_iff_iff]
  simp only [lrF, rrF, e1, rc1, rc2, rc3, rc4, rc5, eb, em, e2, e3, qmn, Lt.plain, List.length_map, q0m, q0n, qch, qci, q1u, q1v, q02, q0o, q0p, Z8, q3u, q7m, q3v, q3w, q1w, hk, qbq, Int.reduceEq, Int.reduceLT, Int.reduceLE, decide_false, decide_true, Bool.or_false, Bool.false_or, Bool.or_true, Bool.true_or, Bool.not_true, Bool.not_false, Bool.and_true, Bool.true_and, Bool.and_false, Bool.false_and, inF, if_true, if_false, Bool.false_eq_true, reduceIte, ltE, q1f, q1r, q1s, q1t, q36, q94, q95, q96, q97, and_self]
  clear e1 e2 e3 h
  clear eb em
  simp only [Bool.and_eq_true, Bool.or_eq_true, Bool.not_eq_true', Bool.and_eq_false_iff, Bool.or_eq_false_iff, Bool.not_eq_false', decide_eq_true_eq, decide_eq_false_iff_not]
  grind
 ·have eb : baF l l.bare0 (q66 16) = ⟨l.fk, l.fn, l.tk, l.tn, l.k, l.sh, 0, l.n, 0, 0, false, 0, 0, [], [], [], zT, l.cl, l.sq, l.v, 0, 0⟩ := rfl
  have em : ((q66 16).all fun s => maF l s.toNat) = ((decide (0 <= l.sh) && decide (l.sh < 4)) && (q94 l.n && (qhx l.cl l.sq && (decide ((l.v.length : Int) <= 64) && true)))) := rfl
  rw [Bool.eq_iff_iff]
  simp only [lrF, rrF, e1, rc1, rc2, rc3, rc4, rc5, eb, em, e2, e3, qmn, Lt.plain, List.length_map, q0m, q0n, qch, qci, q1u, q1v, q02, q0o, q0p, Z8, q3u, q7m, q3v, q3w, q1w, hk, qbq, Int.reduceEq, Int.reduceLT, Int.reduceLE, decide_false, decide_true, Bool.or_false, Bool.false_or, Bool.or_true, Bool.true_or, Bool.not_true, Bool.not_false, Bool.and_true, Bool.true_and, Bool.and_false, Bool.false_and, inF, if_true, if_false, Bool.false_eq_true, reduceIte, ltE, q1f, q1r, q1s, q1t, q36, q94, q95, q96, q97, and_self]
  clear e1 e2 e3 h
  clear eb em
  simp only [Bool.and_eq_true, Bool.or_eq_true, Bool.not_eq_true', Bool.and_eq_false_iff, Bool.or_eq_false_iff, Bool.not_eq_false', decide_eq_true_eq, decide_eq_false_iff_not]
  grind
 ·have eb : baF l l.bare0 (q66 17) = ⟨l.fk, l.fn, l.tk, l.tn, l.k, l.sh, 0, 0, 0, 0, false, 0, 0, [], [], [], l.t, 0, 0, [], 0, 0⟩ := rfl
  have em : ((q66 17).all fun s => maF l s.toNat) = ((decide (0 <= l.sh) && decide (l.sh < 4)) && (qo7 l.t && true)) := rfl
  rw [Bool.eq_iff_iff]
  simp only [lrF, rrF, e1, rc1, rc2, rc3, rc4, rc5, eb, em, e2, e3, qmn, Lt.plain, List.length_map, q0m, q0n, qch, qci, q1u, q1v, q02, q0o, q0p, Z8, q3u, q7m, q3v, q3w, q1w, hk, qbq, Int.reduceEq, Int.reduceLT, Int.reduceLE, decide_false, decide_true, Bool.or_false, Bool.false_or, Bool.or_true, Bool.true_or, Bool.not_true, Bool.not_false, Bool.and_true, Bool.true_and, Bool.and_false, Bool.false_and, inF, if_true, if_false, Bool.false_eq_true, reduceIte, ltE, q1f, q1r, q1s, q1t, q36, q94, q95, q96, q97, and_self]
  clear e1 e2 e3 h
  clear eb em
  simp only [Bool.and_eq_true, Bool.or_eq_true, Bool.not_eq_true', Bool.and_eq_false_iff, Bool.or_eq_false_iff, Bool.not_eq_false', decide_eq_true_eq, decide_eq_false_iff_not]
  grind
 ·have eb : baF l l.bare0 (q66 18) = ⟨l.fk, l.fn, l.tk, l.tn, l.k, l.sh, 0, 0, 0, 0, false, 0, 0, [], [], [], zT, l.cl, l.sq, [], 0, l.co⟩ := rfl
  have em : ((q66 18).all fun s => maF l s.toNat) = ((decide (0 <= l.sh) && decide (l.sh < 4)) && (qhx l.cl l.sq && ((decide (0 <= l.co) && decide (l.co <= 99)) && true))) := rfl
  rw [Bool.eq_iff_iff]
  simp only [lrF, rrF, e1, rc1, rc2, rc3, rc4, rc5, eb, em, e2, e3, qmn, Lt.plain, List.length_map, q0m, q0n, qch, qci, q1u, q1v, q02, q0o, q0p, Z8, q3u, q7m, q3v, q3w, q1w, hk, qbq, Int.reduceEq, Int.reduceLT, Int.reduceLE, decide_false, decide_true, Bool.or_false, Bool.false_or, Bool.or_true, Bool.true_or, Bool.not_true, Bool.not_false, Bool.and_true, Bool.true_and, Bool.and_false, Bool.false_and, inF, if_true, if_false, Bool.false_eq_true, reduceIte, ltE, q1f, q1r, q1s, q1t, q36, q94, q95, q96, q97, and_self]
  clear e1 e2 e3 h
  clear eb em
  simp only [Bool.and_eq_true, Bool.or_eq_true, Bool.not_eq_true', Bool.and_eq_false_iff, Bool.or_eq_false_iff, Bool.not_eq_false', decide_eq_true_eq, decide_eq_false_iff_not]
  grind
 ·have eb : baF l l.bare0 (q66 19) = ⟨l.fk, l.fn, l.tk, l.tn, l.k, 0, 0, 0, 0, 0, false, 0, 0, [], [], [], zT, l.cl, l.sq, l.v, 0, 0⟩ := rfl
  have em : ((q66 19).all fun s => maF l s.toNat) = (qhx l.cl l.sq && (decide ((l.v.length : Int) <= 64) && true)) := rfl
  rw [Bool.eq_iff_iff]
  simp only [lrF, rrF, e1, rc1, rc2, rc3, rc4, rc5, eb, em, e2, e3, qmn, Lt.plain, List.length_map, q0m, q0n, qch, qci, q1u, q1v, q02, q0o, q0p, Z8, q3u, q7m, q3v, q3w, q1w, hk, qbq, Int.reduceEq, Int.reduceLT, Int.reduceLE, decide_false, decide_true, Bool.or_false, Bool.false_or, Bool.or_true, Bool.true_or, Bool.not_true, Bool.not_false, Bool.and_true, Bool.true_and, Bool.and_false, Bool.false_and, inF, if_true, if_false, Bool.false_eq_true, reduceIte, ltE, q1f, q1r, q1s, q1t, q36, q94, q95, q96, q97, and_self]
  clear e1 e2 e3 h
  clear eb em
  simp only [Bool.and_eq_true, Bool.or_eq_true, Bool.not_eq_true', Bool.and_eq_false_iff, Bool.or_eq_false_iff, Bool.not_eq_false', decide_eq_true_eq, decide_eq_false_iff_not]
  grind
 ·have eb : baF l l.bare0 (q66 20) = ⟨l.fk, l.fn, l.tk, l.tn, l.k, 0, 0, 0, 0, 0, false, 0, 0, [], [], [], l.t, 0, 0, [], 0, 0⟩ := rfl
  have em : ((q66 20).all fun s => maF l s.toNat) = (qo7 l.t && true) := rfl
  rw [Bool.eq_iff_iff]
  simp only [lrF, rrF, e1, rc1, rc2, rc3, rc4, rc5, eb, em, e2, e3, qmn, Lt.plain, List.length_map, q0m, q0n, qch, qci, q1u, q1v, q02, q0o, q0p, Z8, q3u, q7m, q3v, q3w, q1w, hk, qbq, Int.reduceEq, Int.reduceLT, Int.reduceLE, decide_false, decide_true, Bool.or_false, Bool.false_or, Bool.or_true, Bool.true_or, Bool.not_true, Bool.not_false, Bool.and_true, Bool.true_and, Bool.and_false, Bool.false_and, inF, if_true, if_false, Bool.false_eq_true, reduceIte, ltE, q1f, q1r, q1s, q1t, q36, q94, q95, q96, q97, and_self]
  clear e1 e2 e3 h
  clear eb em
  simp only [Bool.and_eq_true, Bool.or_eq_true, Bool.not_eq_true', Bool.and_eq_false_iff, Bool.or_eq_false_iff, Bool.not_eq_false', decide_eq_true_eq, decide_eq_false_iff_not]
  grind
 ·have eb : baF l l.bare0 (q66 21) = ⟨l.fk, l.fn, l.tk, l.tn, l.k, 0, 0, l.n, 0, 0, false, 0, 0, [], [], [], zT, l.cl, l.sq, l.v, l.q, l.co⟩ := rfl
  have em : ((q66 21).all fun s => maF l s.toNat) = (q94 l.n && (qhx l.cl l.sq && (decide ((l.v.length : Int) <= 64) && (true && ((decide (0 <= l.co) && decide (l.co <= 99)) && true))))) := rfl
  rw [Bool.eq_iff_iff]
  simp only [lrF, rrF, e1, rc1, rc2, rc3, rc4, rc5, eb, em, e2, e3, qmn, Lt.plain, List.length_map, q0m, q0n, qch, qci, q1u, q1v, q02, q0o, q0p, Z8, q3u, q7m, q3v, q3w, q1w, hk, qbq, Int.reduceEq, Int.reduceLT, Int.reduceLE, decide_false, decide_true, Bool.or_false, Bool.false_or, Bool.or_true, Bool.true_or, Bool.not_true, Bool.not_false, Bool.and_true, Bool.true_and, Bool.and_false, Bool.false_and, inF, if_true, if_false, Bool.false_eq_true, reduceIte, ltE, q1f, q1r, q1s, q1t, q36, q94, q95, q96, q97, and_self]
  clear e1 e2 e3 h
  clear eb em
  simp only [Bool.and_eq_true, Bool.or_eq_true, Bool.not_eq_true', Bool.and_eq_false_iff, Bool.or_eq_false_iff, Bool.not_eq_false', decide_eq_true_eq, decide_eq_false_iff_not]
  grind
 ·have a1 : rc1 l.plain = true := by
   simp only [qbq, decide_eq_false_iff_not] at hk
   simp only [rc1, ek]
   have : decide (l.k < 1) = true \/ decide (21 < l.k) = true := by simp only [decide_eq_true_eq]; omega
   rcases this with h | h <;> simp only [h, Bool.true_or, Bool.or_true]
  simp only [rrF, lrF, a1, hk, Bool.not_true, Bool.false_and]
end Go.Aw
