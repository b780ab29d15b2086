import Derived.Test.YteiamcnjlpbihaaM17N
import Derived.Test.YteiamcnjlpbihaaL17T16J
namespace Go.Aw
open Go
set_option linter.all false
set_option maxHeartbeats 8000000
set_option maxRecDepth 8000

/-! The plain law: a letter is right here if it is right there. -/
theorem lists_eq (l : Lt Cf) (h : ∀ c ∈ l.cs, c.fu.length = c.ch.length) : ((l.cs.map Cf.plain).all Rf.right) = (!(l.cs.any cfNo)) := by
  generalize l.cs = cs at h
  induction cs with
  | nil => rfl
  | cons c cs ih =>
    simp only [List.map_cons, List.all_cons, List.any_cons, cfNo, Bool.not_or, Bool.not_not]
    rw [c.plain_right (h c (List.mem_cons_self ..)), ih (fun d hd => h d (List.mem_cons_of_mem _ hd))]
theorem all_not {α : Type} (p : α → Bool) (l : List α) : l.all p = !(l.any fun x => !p x) := by
  induction l with
  | nil => rfl
  | cons x l ih => simp only [List.all_cons, List.any_cons, Bool.not_or, Bool.not_not, ih]
theorem ltE_prog (l o : Lt Cf) : ltE l o = ltE l o := rfl
theorem txE_refl (t : Tx) : txE t t = true := by
  simp only [txE, decide_true, Bool.true_and]
  rw [eqL_refl (e := rdE) (fun x => by simp [rdE]), eqL_refl (e := wtE) (fun x => by simp [wtE])]; rfl
theorem vtE_refl (l : List Vt) : eqL vtE l l = true := eqL_refl (fun x => by simp [vtE]) l
theorem cfE_refl (l : List Cf) : eqL cfE l l = true := eqL_refl (fun x => by
  simp only [cfE, decide_true, Bool.true_and]
  rw [eqL_refl (e := intE) (fun x => by simp [intE]), eqL_refl (e := boolE) (fun x => by simp [boolE])]; rfl) l
theorem enE_refl (l : List En) : eqL enE l l = true := eqL_refl (fun x => by
  simp only [enE, decide_true, Bool.true_and, txE_refl]) l
theorem ltE_refl (l : Lt Cf) : ltE l l = true := by
  simp only [ltE, decide_true, Bool.true_and, txE_refl, vtE_refl, cfE_refl, enE_refl]
theorem has_shard (k : Int) : hasF k [115, 104, 97, 114, 100] = (decide (k = 1) || decide (k = 12) || decide (k = 13) || decide (k = 14) || decide (k = 15) || decide (k = 16) || decide (k = 17) || decide (k = 18)) := by
  rcases kinds k with (rfl | rfl | rfl | rfl | rfl | rfl | rfl | rfl | rfl | rfl | rfl | rfl | rfl | rfl | rfl | rfl | rfl | rfl | rfl | rfl | rfl) | h
  any_goals (decide +kernel)
  simp only [hasF, h, Bool.false_and, kd_ne h 1, kd_ne h 12, kd_ne h 13, kd_ne h 14, kd_ne h 15, kd_ne h 16, kd_ne h 17, kd_ne h 18, Bool.or_self]
theorem has_epoch (k : Int) : hasF k [101, 112, 111, 99, 104] = (decide (k = 1) || decide (k = 12) || decide (k = 13) || decide (k = 14) || decide (k = 15)) := by
  rcases kinds k with (rfl | rfl | rfl | rfl | rfl | rfl | rfl | rfl | rfl | rfl | rfl | rfl | rfl | rfl | rfl | rfl | rfl | rfl | rfl | rfl | rfl) | h
  any_goals (decide +kernel)
  simp only [hasF, h, Bool.false_and, kd_ne h 1, kd_ne h 12, kd_ne h 13, kd_ne h 14, kd_ne h 15, Bool.or_self]
theorem has_n (k : Int) : hasF k [110] = (decide (k = 1) || decide (k = 2) || decide (k = 4) || decide (k = 5) || decide (k = 6) || decide (k = 7) || decide (k = 9) || decide (k = 10) || decide (k = 11) || decide (k = 12) || decide (k = 13) || decide (k = 14) || decide (k = 15) || decide (k = 16) || decide (k = 21)) := by
  rcases kinds k with (rfl | rfl | rfl | rfl | rfl | rfl | rfl | rfl | rfl | rfl | rfl | rfl | rfl | rfl | rfl | rfl | rfl | rfl | rfl | rfl | rfl) | h
  any_goals (decide +kernel)
  simp only [hasF, h, Bool.false_and, kd_ne h 1, kd_ne h 2, kd_ne h 4, kd_ne h 5, kd_ne h 6, kd_ne h 7, kd_ne h 9, kd_ne h 10, kd_ne h 11, kd_ne h 12, kd_ne h 13, kd_ne h 14, kd_ne h 15, kd_ne h 16, kd_ne h 21, Bool.or_self]
theorem has_m (k : Int) : hasF k [109] = (decide (k = 12)) := by
  rcases kinds k with (rfl | rfl | rfl | rfl | rfl | rfl | rfl | rfl | rfl | rfl | rfl | rfl | rfl | rfl | rfl | rfl | rfl | rfl | rfl | rfl | rfl) | h
  any_goals (decide +kernel)
  simp only [hasF, h, Bool.false_and, kd_ne h 12, Bool.or_self]
theorem has_node (k : Int) : hasF k [110, 111, 100, 101] = (decide (k = 15)) := by
  rcases kinds k with (rfl | rfl | rfl | rfl | rfl | rfl | rfl | rfl | rfl | rfl | rfl | rfl | rfl | rfl | rfl | rfl | rfl | rfl | rfl | rfl | rfl) | h
  any_goals (decide +kernel)
  simp only [hasF, h, Bool.false_and, kd_ne h 15, Bool.or_self]
theorem has_flag (k : Int) : hasF k [102, 108, 97, 103] = (decide (k = 1) || decide (k = 13)) := by
  rcases kinds k with (rfl | rfl | rfl | rfl | rfl | rfl | rfl | rfl | rfl | rfl | rfl | rfl | rfl | rfl | rfl | rfl | rfl | rfl | rfl | rfl | rfl) | h
  any_goals (decide +kernel)
  simp only [hasF, h, Bool.false_and, kd_ne h 1, kd_ne h 13, Bool.or_self]
theorem has_ballot (k : Int) : hasF k [98, 97, 108, 108, 111, 116] = (decide (k = 4) || decide (k = 5) || decide (k = 6) || decide (k = 7) || decide (k = 8) || decide (k = 11)) := by
  rcases kinds k with (rfl | rfl | rfl | rfl | rfl | rfl | rfl | rfl | rfl | rfl | rfl | rfl | rfl | rfl | rfl | rfl | rfl | rfl | rfl | rfl | rfl) | h
  any_goals (decide +kernel)
  simp only [hasF, h, Bool.false_and, kd_ne h 4, kd_ne h 5, kd_ne h 6, kd_ne h 7, kd_ne h 8, kd_ne h 11, Bool.or_self]
theorem has_votes (k : Int) : hasF k [118, 111, 116, 101, 115] = (decide (k = 5)) := by
  rcases kinds k with (rfl | rfl | rfl | rfl | rfl | rfl | rfl | rfl | rfl | rfl | rfl | rfl | rfl | rfl | rfl | rfl | rfl | rfl | rfl | rfl | rfl) | h
  any_goals (decide +kernel)
  simp only [hasF, h, Bool.false_and, kd_ne h 5, Bool.or_self]
theorem has_confs (k : Int) : hasF k [99, 111, 110, 102, 115] = (decide (k = 2)) := by
  rcases kinds k with (rfl | rfl | rfl | rfl | rfl | rfl | rfl | rfl | rfl | rfl | rfl | rfl | rfl | rfl | rfl | rfl | rfl | rfl | rfl | rfl | rfl) | h
  any_goals (decide +kernel)
  simp only [hasF, h, Bool.false_and, kd_ne h 2, Bool.or_self]
theorem has_entries (k : Int) : hasF k [101, 110, 116, 114, 105, 101, 115] = (decide (k = 12)) := by
  rcases kinds k with (rfl | rfl | rfl | rfl | rfl | rfl | rfl | rfl | rfl | rfl | rfl | rfl | rfl | rfl | rfl | rfl | rfl | rfl | rfl | rfl | rfl) | h
  any_goals (decide +kernel)
  simp only [hasF, h, Bool.false_and, kd_ne h 12, Bool.or_self]
theorem has_txn (k : Int) : hasF k [116, 120, 110] = (decide (k = 17) || decide (k = 20)) := by
  rcases kinds k with (rfl | rfl | rfl | rfl | rfl | rfl | rfl | rfl | rfl | rfl | rfl | rfl | rfl | rfl | rfl | rfl | rfl | rfl | rfl | rfl | rfl) | h
  any_goals (decide +kernel)
  simp only [hasF, h, Bool.false_and, kd_ne h 17, kd_ne h 20, Bool.or_self]
theorem has_id (k : Int) : hasF k [105, 100] = (decide (k = 15) || decide (k = 16) || decide (k = 18) || decide (k = 19) || decide (k = 21)) := by
  rcases kinds k with (rfl | rfl | rfl | rfl | rfl | rfl | rfl | rfl | rfl | rfl | rfl | rfl | rfl | rfl | rfl | rfl | rfl | rfl | rfl | rfl | rfl) | h
  any_goals (decide +kernel)
  simp only [hasF, h, Bool.false_and, kd_ne h 15, kd_ne h 16, kd_ne h 18, kd_ne h 19, kd_ne h 21, Bool.or_self]
theorem has_val (k : Int) : hasF k [118, 97, 108] = (decide (k = 6) || decide (k = 9) || decide (k = 15) || decide (k = 16) || decide (k = 19) || decide (k = 21)) := by
  rcases kinds k with (rfl | rfl | rfl | rfl | rfl | rfl | rfl | rfl | rfl | rfl | rfl | rfl | rfl | rfl | rfl | rfl | rfl | rfl | rfl | rfl | rfl) | h
  any_goals (decide +kernel)
  simp only [hasF, h, Bool.false_and, kd_ne h 6, kd_ne h 9, kd_ne h 15, kd_ne h 16, kd_ne h 19, kd_ne h 21, Bool.or_self]
theorem has_num (k : Int) : hasF k [110, 117, 109] = (decide (k = 12) || decide (k = 21)) := by
  rcases kinds k with (rfl | rfl | rfl | rfl | rfl | rfl | rfl | rfl | rfl | rfl | rfl | rfl | rfl | rfl | rfl | rfl | rfl | rfl | rfl | rfl | rfl) | h
  any_goals (decide +kernel)
  simp only [hasF, h, Bool.false_and, kd_ne h 12, kd_ne h 21, Bool.or_self]
theorem has_code (k : Int) : hasF k [99, 111, 100, 101] = (decide (k = 18) || decide (k = 21)) := by
  rcases kinds k with (rfl | rfl | rfl | rfl | rfl | rfl | rfl | rfl | rfl | rfl | rfl | rfl | rfl | rfl | rfl | rfl | rfl | rfl | rfl | rfl | rfl) | h
  any_goals (decide +kernel)
  simp only [hasF, h, Bool.false_and, kd_ne h 18, kd_ne h 21, Bool.or_self]

theorem right_eq (l : Lt Cf) (h : ∀ c ∈ l.cs, c.fu.length = c.ch.length) : rrF l.plain = lrF l := by
  have e1 : l.vs.all vtOk = !(l.vs.any vtNo) := all_not _ _
  have e2 := lists_eq l h
  have e3 : l.es.all enOk = !(l.es.any enNo) := all_not _ _
  have ek : l.plain.k = l.k := rfl
  have v0 : l.vs.length = 0 → l.vs.any vtNo = false := fun h => by rw [List.length_eq_zero_iff.1 h]; rfl
  have c0 : l.cs.length = 0 → l.cs.any cfNo = false := fun h => by rw [List.length_eq_zero_iff.1 h]; rfl
  have s0 : l.es.length = 0 → l.es.any enNo = false := fun h => by rw [List.length_eq_zero_iff.1 h]; rfl
  rcases kinds l.k with (hk | hk | hk | hk | hk | hk | hk | hk | hk | hk | hk | hk | hk | hk | hk | hk | hk | hk | hk | hk | hk) | hk
  · have eb : baF l l.bare0 (sgnR 1) = ⟨l.fk, l.fn, l.tk, l.tn, l.k, l.sh, l.ep, l.n, 0, 0, l.fl, 0, 0, [], [], [], zT, 0, 0, [], 0, 0⟩ := rfl
    have em : ((sgnR 1).all fun s => maF l s.toNat) = ((decide (0 ≤ l.sh) && decide (l.sh < 4)) && (true && (shOk l.n && (true && true)))) := rfl
    rw [Bool.eq_iff_iff]
    simp only [lrF, rrF, e1, rc1, rc2, rc3, rc4, rc5, eb, em, e2, e3, rliF, Lt.plain, List.length_map, has_shard, has_epoch, has_n, has_m, has_node, has_flag, has_ballot, has_votes, has_confs, has_entries, has_txn, has_id, has_val, has_num, has_code, hk, kdOk, Int.reduceEq, Int.reduceLT, Int.reduceLE, decide_false, decide_true, Bool.or_false, Bool.false_or, Bool.or_true, Bool.true_or, Bool.not_true, Bool.not_false, Bool.and_true, Bool.true_and, Bool.and_false, Bool.false_and, inF, if_true, if_false, Bool.false_eq_true, reduceIte, ltE, txE_refl, vtE_refl, cfE_refl, enE_refl, eqL_nil, shOk, vtsOk, cfsOk, ensOk, and_self]
    clear e1 e2 e3 h
    clear eb em
    simp only [Bool.and_eq_true, Bool.or_eq_true, Bool.not_eq_true', Bool.and_eq_false_iff, Bool.or_eq_false_iff, Bool.not_eq_false', decide_eq_true_eq, decide_eq_false_iff_not]
    grind
  · have eb : baF l l.bare0 (sgnR 2) = ⟨l.fk, l.fn, l.tk, l.tn, l.k, 0, 0, l.n, 0, 0, false, 0, 0, [], l.cs, [], zT, 0, 0, [], 0, 0⟩ := rfl
    have em : ((sgnR 2).all fun s => maF l s.toNat) = (shOk l.n && (cfsOk l.cs && true)) := rfl
    rw [Bool.eq_iff_iff]
    simp only [lrF, rrF, e1, rc1, rc2, rc3, rc4, rc5, eb, em, e2, e3, rliF, Lt.plain, List.length_map, has_shard, has_epoch, has_n, has_m, has_node, has_flag, has_ballot, has_votes, has_confs, has_entries, has_txn, has_id, has_val, has_num, has_code, hk, kdOk, Int.reduceEq, Int.reduceLT, Int.reduceLE, decide_false, decide_true, Bool.or_false, Bool.false_or, Bool.or_true, Bool.true_or, Bool.not_true, Bool.not_false, Bool.and_true, Bool.true_and, Bool.and_false, Bool.false_and, inF, if_true, if_false, Bool.false_eq_true, reduceIte, ltE, txE_refl, vtE_refl, cfE_refl, enE_refl, eqL_nil, shOk, vtsOk, cfsOk, ensOk, and_self]
    clear e1 e2 e3 h
    clear eb em
    simp only [Bool.and_eq_true, Bool.or_eq_true, Bool.not_eq_true', Bool.and_eq_false_iff, Bool.or_eq_false_iff, Bool.not_eq_false', decide_eq_true_eq, decide_eq_false_iff_not]
    grind
  · have eb : baF l l.bare0 (sgnR 3) = ⟨l.fk, l.fn, l.tk, l.tn, l.k, 0, 0, 0, 0, 0, false, 0, 0, [], [], [], zT, 0, 0, [], 0, 0⟩ := rfl
    have em : ((sgnR 3).all fun s => maF l s.toNat) = true := rfl
    rw [Bool.eq_iff_iff]
    simp only [lrF, rrF, e1, rc1, rc2, rc3, rc4, rc5, eb, em, e2, e3, rliF, Lt.plain, List.length_map, has_shard, has_epoch, has_n, has_m, has_node, has_flag, has_ballot, has_votes, has_confs, has_entries, has_txn, has_id, has_val, has_num, has_code, hk, kdOk, Int.reduceEq, Int.reduceLT, Int.reduceLE, decide_false, decide_true, Bool.or_false, Bool.false_or, Bool.or_true, Bool.true_or, Bool.not_true, Bool.not_false, Bool.and_true, Bool.true_and, Bool.and_false, Bool.false_and, inF, if_true, if_false, Bool.false_eq_true, reduceIte, ltE, txE_refl, vtE_refl, cfE_refl, enE_refl, eqL_nil, shOk, vtsOk, cfsOk, ensOk, and_self]
    clear e1 e2 e3 h
    clear eb em
    simp only [Bool.and_eq_true, Bool.or_eq_true, Bool.not_eq_true', Bool.and_eq_false_iff, Bool.or_eq_false_iff, Bool.not_eq_false', decide_eq_true_eq, decide_eq_false_iff_not]
    grind
  · have eb : baF l l.bare0 (sgnR 4) = ⟨l.fk, l.fn, l.tk, l.tn, l.k, 0, 0, l.n, 0, 0, false, l.br, l.bn, [], [], [], zT, 0, 0, [], 0, 0⟩ := rfl
    have em : ((sgnR 4).all fun s => maF l s.toNat) = (shOk l.n && (baOk l.bn && true)) := rfl
    rw [Bool.eq_iff_iff]
    simp only [lrF, rrF, e1, rc1, rc2, rc3, rc4, rc5, eb, em, e2, e3, rliF, Lt.plain, List.length_map, has_shard, has_epoch, has_n, has_m, has_node, has_flag, has_ballot, has_votes, has_confs, has_entries, has_txn, has_id, has_val, has_num, has_code, hk, kdOk, Int.reduceEq, Int.reduceLT, Int.reduceLE, decide_false, decide_true, Bool.or_false, Bool.false_or, Bool.or_true, Bool.true_or, Bool.not_true, Bool.not_false, Bool.and_true, Bool.true_and, Bool.and_false, Bool.false_and, inF, if_true, if_false, Bool.false_eq_true, reduceIte, ltE, txE_refl, vtE_refl, cfE_refl, enE_refl, eqL_nil, shOk, vtsOk, cfsOk, ensOk, and_self]
    clear e1 e2 e3 h
    clear eb em
    simp only [Bool.and_eq_true, Bool.or_eq_true, Bool.not_eq_true', Bool.and_eq_false_iff, Bool.or_eq_false_iff, Bool.not_eq_false', decide_eq_true_eq, decide_eq_false_iff_not]
    grind
  · have eb : baF l l.bare0 (sgnR 5) = ⟨l.fk, l.fn, l.tk, l.tn, l.k, 0, 0, l.n, 0, 0, false, l.br, l.bn, l.vs, [], [], zT, 0, 0, [], 0, 0⟩ := rfl
    have em : ((sgnR 5).all fun s => maF l s.toNat) = (shOk l.n && (baOk l.bn && (vtsOk l.vs && true))) := rfl
    rw [Bool.eq_iff_iff]
    simp only [lrF, rrF, e1, rc1, rc2, rc3, rc4, rc5, eb, em, e2, e3, rliF, Lt.plain, List.length_map, has_shard, has_epoch, has_n, has_m, has_node, has_flag, has_ballot, has_votes, has_confs, has_entries, has_txn, has_id, has_val, has_num, has_code, hk, kdOk, Int.reduceEq, Int.reduceLT, Int.reduceLE, decide_false, decide_true, Bool.or_false, Bool.false_or, Bool.or_true, Bool.true_or, Bool.not_true, Bool.not_false, Bool.and_true, Bool.true_and, Bool.and_false, Bool.false_and, inF, if_true, if_false, Bool.false_eq_true, reduceIte, ltE, txE_refl, vtE_refl, cfE_refl, enE_refl, eqL_nil, shOk, vtsOk, cfsOk, ensOk, and_self]
    clear e1 e2 e3 h
    clear eb em
    simp only [Bool.and_eq_true, Bool.or_eq_true, Bool.not_eq_true', Bool.and_eq_false_iff, Bool.or_eq_false_iff, Bool.not_eq_false', decide_eq_true_eq, decide_eq_false_iff_not]
    grind
  · have eb : baF l l.bare0 (sgnR 6) = ⟨l.fk, l.fn, l.tk, l.tn, l.k, 0, 0, l.n, 0, 0, false, l.br, l.bn, [], [], [], zT, 0, 0, l.v, 0, 0⟩ := rfl
    have em : ((sgnR 6).all fun s => maF l s.toNat) = (shOk l.n && (baOk l.bn && (decide ((l.v.length : Int) ≤ 64) && true))) := rfl
    rw [Bool.eq_iff_iff]
    simp only [lrF, rrF, e1, rc1, rc2, rc3, rc4, rc5, eb, em, e2, e3, rliF, Lt.plain, List.length_map, has_shard, has_epoch, has_n, has_m, has_node, has_flag, has_ballot, has_votes, has_confs, has_entries, has_txn, has_id, has_val, has_num, has_code, hk, kdOk, Int.reduceEq, Int.reduceLT, Int.reduceLE, decide_false, decide_true, Bool.or_false, Bool.false_or, Bool.or_true, Bool.true_or, Bool.not_true, Bool.not_false, Bool.and_true, Bool.true_and, Bool.and_false, Bool.false_and, inF, if_true, if_false, Bool.false_eq_true, reduceIte, ltE, txE_refl, vtE_refl, cfE_refl, enE_refl, eqL_nil, shOk, vtsOk, cfsOk, ensOk, and_self]
    clear e1 e2 e3 h
    clear eb em
    simp only [Bool.and_eq_true, Bool.or_eq_true, Bool.not_eq_true', Bool.and_eq_false_iff, Bool.or_eq_false_iff, Bool.not_eq_false', decide_eq_true_eq, decide_eq_false_iff_not]
    grind
  · have eb : baF l l.bare0 (sgnR 7) = ⟨l.fk, l.fn, l.tk, l.tn, l.k, 0, 0, l.n, 0, 0, false, l.br, l.bn, [], [], [], zT, 0, 0, [], 0, 0⟩ := rfl
    have em : ((sgnR 7).all fun s => maF l s.toNat) = (shOk l.n && (baOk l.bn && true)) := rfl
    rw [Bool.eq_iff_iff]
    simp only [lrF, rrF, e1, rc1, rc2, rc3, rc4, rc5, eb, em, e2, e3, rliF, Lt.plain, List.length_map, has_shard, has_epoch, has_n, has_m, has_node, has_flag, has_ballot, has_votes, has_confs, has_entries, has_txn, has_id, has_val, has_num, has_code, hk, kdOk, Int.reduceEq, Int.reduceLT, Int.reduceLE, decide_false, decide_true, Bool.or_false, Bool.false_or, Bool.or_true, Bool.true_or, Bool.not_true, Bool.not_false, Bool.and_true, Bool.true_and, Bool.and_false, Bool.false_and, inF, if_true, if_false, Bool.false_eq_true, reduceIte, ltE, txE_refl, vtE_refl, cfE_refl, enE_refl, eqL_nil, shOk, vtsOk, cfsOk, ensOk, and_self]
    clear e1 e2 e3 h
    clear eb em
    simp only [Bool.and_eq_true, Bool.or_eq_true, Bool.not_eq_true', Bool.and_eq_false_iff, Bool.or_eq_false_iff, Bool.not_eq_false', decide_eq_true_eq, decide_eq_false_iff_not]
    grind
  · have eb : baF l l.bare0 (sgnR 8) = ⟨l.fk, l.fn, l.tk, l.tn, l.k, 0, 0, 0, 0, 0, false, l.br, l.bn, [], [], [], zT, 0, 0, [], 0, 0⟩ := rfl
    have em : ((sgnR 8).all fun s => maF l s.toNat) = (baOk l.bn && true) := rfl
    rw [Bool.eq_iff_iff]
    simp only [lrF, rrF, e1, rc1, rc2, rc3, rc4, rc5, eb, em, e2, e3, rliF, Lt.plain, List.length_map, has_shard, has_epoch, has_n, has_m, has_node, has_flag, has_ballot, has_votes, has_confs, has_entries, has_txn, has_id, has_val, has_num, has_code, hk, kdOk, Int.reduceEq, Int.reduceLT, Int.reduceLE, decide_false, decide_true, Bool.or_false, Bool.false_or, Bool.or_true, Bool.true_or, Bool.not_true, Bool.not_false, Bool.and_true, Bool.true_and, Bool.and_false, Bool.false_and, inF, if_true, if_false, Bool.false_eq_true, reduceIte, ltE, txE_refl, vtE_refl, cfE_refl, enE_refl, eqL_nil, shOk, vtsOk, cfsOk, ensOk, and_self]
    clear e1 e2 e3 h
    clear eb em
    simp only [Bool.and_eq_true, Bool.or_eq_true, Bool.not_eq_true', Bool.and_eq_false_iff, Bool.or_eq_false_iff, Bool.not_eq_false', decide_eq_true_eq, decide_eq_false_iff_not]
    grind
  · have eb : baF l l.bare0 (sgnR 9) = ⟨l.fk, l.fn, l.tk, l.tn, l.k, 0, 0, l.n, 0, 0, false, 0, 0, [], [], [], zT, 0, 0, l.v, 0, 0⟩ := rfl
    have em : ((sgnR 9).all fun s => maF l s.toNat) = (shOk l.n && (decide ((l.v.length : Int) ≤ 64) && true)) := rfl
    rw [Bool.eq_iff_iff]
    simp only [lrF, rrF, e1, rc1, rc2, rc3, rc4, rc5, eb, em, e2, e3, rliF, Lt.plain, List.length_map, has_shard, has_epoch, has_n, has_m, has_node, has_flag, has_ballot, has_votes, has_confs, has_entries, has_txn, has_id, has_val, has_num, has_code, hk, kdOk, Int.reduceEq, Int.reduceLT, Int.reduceLE, decide_false, decide_true, Bool.or_false, Bool.false_or, Bool.or_true, Bool.true_or, Bool.not_true, Bool.not_false, Bool.and_true, Bool.true_and, Bool.and_false, Bool.false_and, inF, if_true, if_false, Bool.false_eq_true, reduceIte, ltE, txE_refl, vtE_refl, cfE_refl, enE_refl, eqL_nil, shOk, vtsOk, cfsOk, ensOk, and_self]
    clear e1 e2 e3 h
    clear eb em
    simp only [Bool.and_eq_true, Bool.or_eq_true, Bool.not_eq_true', Bool.and_eq_false_iff, Bool.or_eq_false_iff, Bool.not_eq_false', decide_eq_true_eq, decide_eq_false_iff_not]
    grind
  · have eb : baF l l.bare0 (sgnR 10) = ⟨l.fk, l.fn, l.tk, l.tn, l.k, 0, 0, l.n, 0, 0, false, 0, 0, [], [], [], zT, 0, 0, [], 0, 0⟩ := rfl
    have em : ((sgnR 10).all fun s => maF l s.toNat) = (shOk l.n && true) := rfl
    rw [Bool.eq_iff_iff]
    simp only [lrF, rrF, e1, rc1, rc2, rc3, rc4, rc5, eb, em, e2, e3, rliF, Lt.plain, List.length_map, has_shard, has_epoch, has_n, has_m, has_node, has_flag, has_ballot, has_votes, has_confs, has_entries, has_txn, has_id, has_val, has_num, has_code, hk, kdOk, Int.reduceEq, Int.reduceLT, Int.reduceLE, decide_false, decide_true, Bool.or_false, Bool.false_or, Bool.or_true, Bool.true_or, Bool.not_true, Bool.not_false, Bool.and_true, Bool.true_and, Bool.and_false, Bool.false_and, inF, if_true, if_false, Bool.false_eq_true, reduceIte, ltE, txE_refl, vtE_refl, cfE_refl, enE_refl, eqL_nil, shOk, vtsOk, cfsOk, ensOk, and_self]
    clear e1 e2 e3 h
    clear eb em
    simp only [Bool.and_eq_true, Bool.or_eq_true, Bool.not_eq_true', Bool.and_eq_false_iff, Bool.or_eq_false_iff, Bool.not_eq_false', decide_eq_true_eq, decide_eq_false_iff_not]
    grind
  · have eb : baF l l.bare0 (sgnR 11) = ⟨l.fk, l.fn, l.tk, l.tn, l.k, 0, 0, l.n, 0, 0, false, l.br, l.bn, [], [], [], zT, 0, 0, [], 0, 0⟩ := rfl
    have em : ((sgnR 11).all fun s => maF l s.toNat) = (shOk l.n && (baOk l.bn && true)) := rfl
    rw [Bool.eq_iff_iff]
    simp only [lrF, rrF, e1, rc1, rc2, rc3, rc4, rc5, eb, em, e2, e3, rliF, Lt.plain, List.length_map, has_shard, has_epoch, has_n, has_m, has_node, has_flag, has_ballot, has_votes, has_confs, has_entries, has_txn, has_id, has_val, has_num, has_code, hk, kdOk, Int.reduceEq, Int.reduceLT, Int.reduceLE, decide_false, decide_true, Bool.or_false, Bool.false_or, Bool.or_true, Bool.true_or, Bool.not_true, Bool.not_false, Bool.and_true, Bool.true_and, Bool.and_false, Bool.false_and, inF, if_true, if_false, Bool.false_eq_true, reduceIte, ltE, txE_refl, vtE_refl, cfE_refl, enE_refl, eqL_nil, shOk, vtsOk, cfsOk, ensOk, and_self]
    clear e1 e2 e3 h
    clear eb em
    simp only [Bool.and_eq_true, Bool.or_eq_true, Bool.not_eq_true', Bool.and_eq_false_iff, Bool.or_eq_false_iff, Bool.not_eq_false', decide_eq_true_eq, decide_eq_false_iff_not]
    grind
  · have eb : baF l l.bare0 (sgnR 12) = ⟨l.fk, l.fn, l.tk, l.tn, l.k, l.sh, l.ep, l.n, l.m, 0, false, 0, 0, [], [], l.es, zT, 0, 0, [], l.q, 0⟩ := rfl
    have em : ((sgnR 12).all fun s => maF l s.toNat) = ((decide (0 ≤ l.sh) && decide (l.sh < 4)) && (true && (shOk l.n && (shOk l.m && (true && (ensOk l.es && true)))))) := rfl
    rw [Bool.eq_iff_iff]
    simp only [lrF, rrF, e1, rc1, rc2, rc3, rc4, rc5, eb, em, e2, e3, rliF, Lt.plain, List.length_map, has_shard, has_epoch, has_n, has_m, has_node, has_flag, has_ballot, has_votes, has_confs, has_entries, has_txn, has_id, has_val, has_num, has_code, hk, kdOk, Int.reduceEq, Int.reduceLT, Int.reduceLE, decide_false, decide_true, Bool.or_false, Bool.false_or, Bool.or_true, Bool.true_or, Bool.not_true, Bool.not_false, Bool.and_true, Bool.true_and, Bool.and_false, Bool.false_and, inF, if_true, if_false, Bool.false_eq_true, reduceIte, ltE, txE_refl, vtE_refl, cfE_refl, enE_refl, eqL_nil, shOk, vtsOk, cfsOk, ensOk, and_self]
    clear e1 e2 e3 h
    clear eb em
    simp only [Bool.and_eq_true, Bool.or_eq_true, Bool.not_eq_true', Bool.and_eq_false_iff, Bool.or_eq_false_iff, Bool.not_eq_false', decide_eq_true_eq, decide_eq_false_iff_not]
    grind
  · have eb : baF l l.bare0 (sgnR 13) = ⟨l.fk, l.fn, l.tk, l.tn, l.k, l.sh, l.ep, l.n, 0, 0, l.fl, 0, 0, [], [], [], zT, 0, 0, [], 0, 0⟩ := rfl
    have em : ((sgnR 13).all fun s => maF l s.toNat) = ((decide (0 ≤ l.sh) && decide (l.sh < 4)) && (true && (shOk l.n && (true && true)))) := rfl
    rw [Bool.eq_iff_iff]
    simp only [lrF, rrF, e1, rc1, rc2, rc3, rc4, rc5, eb, em, e2, e3, rliF, Lt.plain, List.length_map, has_shard, has_epoch, has_n, has_m, has_node, has_flag, has_ballot, has_votes, has_confs, has_entries, has_txn, has_id, has_val, has_num, has_code, hk, kdOk, Int.reduceEq, Int.reduceLT, Int.reduceLE, decide_false, decide_true, Bool.or_false, Bool.false_or, Bool.or_true, Bool.true_or, Bool.not_true, Bool.not_false, Bool.and_true, Bool.true_and, Bool.and_false, Bool.false_and, inF, if_true, if_false, Bool.false_eq_true, reduceIte, ltE, txE_refl, vtE_refl, cfE_refl, enE_refl, eqL_nil, shOk, vtsOk, cfsOk, ensOk, and_self]
    clear e1 e2 e3 h
    clear eb em
    simp only [Bool.and_eq_true, Bool.or_eq_true, Bool.not_eq_true', Bool.and_eq_false_iff, Bool.or_eq_false_iff, Bool.not_eq_false', decide_eq_true_eq, decide_eq_false_iff_not]
    grind
  · have eb : baF l l.bare0 (sgnR 14) = ⟨l.fk, l.fn, l.tk, l.tn, l.k, l.sh, l.ep, l.n, 0, 0, false, 0, 0, [], [], [], zT, 0, 0, [], 0, 0⟩ := rfl
    have em : ((sgnR 14).all fun s => maF l s.toNat) = ((decide (0 ≤ l.sh) && decide (l.sh < 4)) && (true && (shOk l.n && true))) := rfl
    rw [Bool.eq_iff_iff]
    simp only [lrF, rrF, e1, rc1, rc2, rc3, rc4, rc5, eb, em, e2, e3, rliF, Lt.plain, List.length_map, has_shard, has_epoch, has_n, has_m, has_node, has_flag, has_ballot, has_votes, has_confs, has_entries, has_txn, has_id, has_val, has_num, has_code, hk, kdOk, Int.reduceEq, Int.reduceLT, Int.reduceLE, decide_false, decide_true, Bool.or_false, Bool.false_or, Bool.or_true, Bool.true_or, Bool.not_true, Bool.not_false, Bool.and_true, Bool.true_and, Bool.and_false, Bool.false_and, inF, if_true, if_false, Bool.false_eq_true, reduceIte, ltE, txE_refl, vtE_refl, cfE_refl, enE_refl, eqL_nil, shOk, vtsOk, cfsOk, ensOk, and_self]
    clear e1 e2 e3 h
    clear eb em
    simp only [Bool.and_eq_true, Bool.or_eq_true, Bool.not_eq_true', Bool.and_eq_false_iff, Bool.or_eq_false_iff, Bool.not_eq_false', decide_eq_true_eq, decide_eq_false_iff_not]
    grind
  · have eb : baF l l.bare0 (sgnR 15) = ⟨l.fk, l.fn, l.tk, l.tn, l.k, l.sh, l.ep, l.n, 0, l.nd, false, 0, 0, [], [], [], zT, l.cl, l.sq, l.v, 0, 0⟩ := rfl
    have em : ((sgnR 15).all fun s => maF l s.toNat) = ((decide (0 ≤ l.sh) && decide (l.sh < 4)) && (true && (shOk l.n && ((decide (0 ≤ l.nd) && decide (l.nd < 8)) && (idOk l.cl l.sq && (decide ((l.v.length : Int) ≤ 64) && true)))))) := rfl
    rw [Bool.eq_iff_iff]
    simp only [lrF, rrF, e1, rc1, rc2, rc3, rc4, rc5, eb, em, e2, e3, rliF, Lt.plain, List.length_map, has_shard, has_epoch, has_n, has_m, has_node, has_flag, has_ballot, has_votes, has_confs, has_entries, has_txn, has_id, has_val, has_num, has_code, hk, kdOk, Int.reduceEq, Int.reduceLT, Int.reduceLE, decide_false, decide_true, Bool.or_false, Bool.false_or, Bool.or_true, Bool.true_or, Bool.not_true, Bool.not_false, Bool.and_true, Bool.true_and, Bool.and_false, Bool.false_and, inF, if_true, if_false, Bool.false_eq_true, reduceIte, ltE, txE_refl, vtE_refl, cfE_refl, enE_refl, eqL_nil, shOk, vtsOk, cfsOk, ensOk, and_self]
    clear e1 e2 e3 h
    clear eb em
    simp only [Bool.and_eq_true, Bool.or_eq_true, Bool.not_eq_true', Bool.and_eq_false_iff, Bool.or_eq_false_iff, Bool.not_eq_false', decide_eq_true_eq, decide_eq_false_iff_not]
    grind
  · have eb : baF l l.bare0 (sgnR 16) = ⟨l.fk, l.fn, l.tk, l.tn, l.k, l.sh, 0, l.n, 0, 0, false, 0, 0, [], [], [], zT, l.cl, l.sq, l.v, 0, 0⟩ := rfl
    have em : ((sgnR 16).all fun s => maF l s.toNat) = ((decide (0 ≤ l.sh) && decide (l.sh < 4)) && (shOk l.n && (idOk l.cl l.sq && (decide ((l.v.length : Int) ≤ 64) && true)))) := rfl
    rw [Bool.eq_iff_iff]
    simp only [lrF, rrF, e1, rc1, rc2, rc3, rc4, rc5, eb, em, e2, e3, rliF, Lt.plain, List.length_map, has_shard, has_epoch, has_n, has_m, has_node, has_flag, has_ballot, has_votes, has_confs, has_entries, has_txn, has_id, has_val, has_num, has_code, hk, kdOk, Int.reduceEq, Int.reduceLT, Int.reduceLE, decide_false, decide_true, Bool.or_false, Bool.false_or, Bool.or_true, Bool.true_or, Bool.not_true, Bool.not_false, Bool.and_true, Bool.true_and, Bool.and_false, Bool.false_and, inF, if_true, if_false, Bool.false_eq_true, reduceIte, ltE, txE_refl, vtE_refl, cfE_refl, enE_refl, eqL_nil, shOk, vtsOk, cfsOk, ensOk, and_self]
    clear e1 e2 e3 h
    clear eb em
    simp only [Bool.and_eq_true, Bool.or_eq_true, Bool.not_eq_true', Bool.and_eq_false_iff, Bool.or_eq_false_iff, Bool.not_eq_false', decide_eq_true_eq, decide_eq_false_iff_not]
    grind
  · have eb : baF l l.bare0 (sgnR 17) = ⟨l.fk, l.fn, l.tk, l.tn, l.k, l.sh, 0, 0, 0, 0, false, 0, 0, [], [], [], l.t, 0, 0, [], 0, 0⟩ := rfl
    have em : ((sgnR 17).all fun s => maF l s.toNat) = ((decide (0 ≤ l.sh) && decide (l.sh < 4)) && (txOk l.t && true)) := rfl
    rw [Bool.eq_iff_iff]
    simp only [lrF, rrF, e1, rc1, rc2, rc3, rc4, rc5, eb, em, e2, e3, rliF, Lt.plain, List.length_map, has_shard, has_epoch, has_n, has_m, has_node, has_flag, has_ballot, has_votes, has_confs, has_entries, has_txn, has_id, has_val, has_num, has_code, hk, kdOk, Int.reduceEq, Int.reduceLT, Int.reduceLE, decide_false, decide_true, Bool.or_false, Bool.false_or, Bool.or_true, Bool.true_or, Bool.not_true, Bool.not_false, Bool.and_true, Bool.true_and, Bool.and_false, Bool.false_and, inF, if_true, if_false, Bool.false_eq_true, reduceIte, ltE, txE_refl, vtE_refl, cfE_refl, enE_refl, eqL_nil, shOk, vtsOk, cfsOk, ensOk, and_self]
    clear e1 e2 e3 h
    clear eb em
    simp only [Bool.and_eq_true, Bool.or_eq_true, Bool.not_eq_true', Bool.and_eq_false_iff, Bool.or_eq_false_iff, Bool.not_eq_false', decide_eq_true_eq, decide_eq_false_iff_not]
    grind
  · have eb : baF l l.bare0 (sgnR 18) = ⟨l.fk, l.fn, l.tk, l.tn, l.k, l.sh, 0, 0, 0, 0, false, 0, 0, [], [], [], zT, l.cl, l.sq, [], 0, l.co⟩ := rfl
    have em : ((sgnR 18).all fun s => maF l s.toNat) = ((decide (0 ≤ l.sh) && decide (l.sh < 4)) && (idOk l.cl l.sq && ((decide (0 ≤ l.co) && decide (l.co ≤ 99)) && true))) := rfl
    rw [Bool.eq_iff_iff]
    simp only [lrF, rrF, e1, rc1, rc2, rc3, rc4, rc5, eb, em, e2, e3, rliF, Lt.plain, List.length_map, has_shard, has_epoch, has_n, has_m, has_node, has_flag, has_ballot, has_votes, has_confs, has_entries, has_txn, has_id, has_val, has_num, has_code, hk, kdOk, Int.reduceEq, Int.reduceLT, Int.reduceLE, decide_false, decide_true, Bool.or_false, Bool.false_or, Bool.or_true, Bool.true_or, Bool.not_true, Bool.not_false, Bool.and_true, Bool.true_and, Bool.and_false, Bool.false_and, inF, if_true, if_false, Bool.false_eq_true, reduceIte, ltE, txE_refl, vtE_refl, cfE_refl, enE_refl, eqL_nil, shOk, vtsOk, cfsOk, ensOk, and_self]
    clear e1 e2 e3 h
    clear eb em
    simp only [Bool.and_eq_true, Bool.or_eq_true, Bool.not_eq_true', Bool.and_eq_false_iff, Bool.or_eq_false_iff, Bool.not_eq_false', decide_eq_true_eq, decide_eq_false_iff_not]
    grind
  · have eb : baF l l.bare0 (sgnR 19) = ⟨l.fk, l.fn, l.tk, l.tn, l.k, 0, 0, 0, 0, 0, false, 0, 0, [], [], [], zT, l.cl, l.sq, l.v, 0, 0⟩ := rfl
    have em : ((sgnR 19).all fun s => maF l s.toNat) = (idOk l.cl l.sq && (decide ((l.v.length : Int) ≤ 64) && true)) := rfl
    rw [Bool.eq_iff_iff]
    simp only [lrF, rrF, e1, rc1, rc2, rc3, rc4, rc5, eb, em, e2, e3, rliF, Lt.plain, List.length_map, has_shard, has_epoch, has_n, has_m, has_node, has_flag, has_ballot, has_votes, has_confs, has_entries, has_txn, has_id, has_val, has_num, has_code, hk, kdOk, Int.reduceEq, Int.reduceLT, Int.reduceLE, decide_false, decide_true, Bool.or_false, Bool.false_or, Bool.or_true, Bool.true_or, Bool.not_true, Bool.not_false, Bool.and_true, Bool.true_and, Bool.and_false, Bool.false_and, inF, if_true, if_false, Bool.false_eq_true, reduceIte, ltE, txE_refl, vtE_refl, cfE_refl, enE_refl, eqL_nil, shOk, vtsOk, cfsOk, ensOk, and_self]
    clear e1 e2 e3 h
    clear eb em
    simp only [Bool.and_eq_true, Bool.or_eq_true, Bool.not_eq_true', Bool.and_eq_false_iff, Bool.or_eq_false_iff, Bool.not_eq_false', decide_eq_true_eq, decide_eq_false_iff_not]
    grind
  · have eb : baF l l.bare0 (sgnR 20) = ⟨l.fk, l.fn, l.tk, l.tn, l.k, 0, 0, 0, 0, 0, false, 0, 0, [], [], [], l.t, 0, 0, [], 0, 0⟩ := rfl
    have em : ((sgnR 20).all fun s => maF l s.toNat) = (txOk l.t && true) := rfl
    rw [Bool.eq_iff_iff]
    simp only [lrF, rrF, e1, rc1, rc2, rc3, rc4, rc5, eb, em, e2, e3, rliF, Lt.plain, List.length_map, has_shard, has_epoch, has_n, has_m, has_node, has_flag, has_ballot, has_votes, has_confs, has_entries, has_txn, has_id, has_val, has_num, has_code, hk, kdOk, Int.reduceEq, Int.reduceLT, Int.reduceLE, decide_false, decide_true, Bool.or_false, Bool.false_or, Bool.or_true, Bool.true_or, Bool.not_true, Bool.not_false, Bool.and_true, Bool.true_and, Bool.and_false, Bool.false_and, inF, if_true, if_false, Bool.false_eq_true, reduceIte, ltE, txE_refl, vtE_refl, cfE_refl, enE_refl, eqL_nil, shOk, vtsOk, cfsOk, ensOk, and_self]
    clear e1 e2 e3 h
    clear eb em
    simp only [Bool.and_eq_true, Bool.or_eq_true, Bool.not_eq_true', Bool.and_eq_false_iff, Bool.or_eq_false_iff, Bool.not_eq_false', decide_eq_true_eq, decide_eq_false_iff_not]
    grind
  · have eb : baF l l.bare0 (sgnR 21) = ⟨l.fk, l.fn, l.tk, l.tn, l.k, 0, 0, l.n, 0, 0, false, 0, 0, [], [], [], zT, l.cl, l.sq, l.v, l.q, l.co⟩ := rfl
    have em : ((sgnR 21).all fun s => maF l s.toNat) = (shOk l.n && (idOk l.cl l.sq && (decide ((l.v.length : Int) ≤ 64) && (true && ((decide (0 ≤ l.co) && decide (l.co ≤ 99)) && true))))) := rfl
    rw [Bool.eq_iff_iff]
    simp only [lrF, rrF, e1, rc1, rc2, rc3, rc4, rc5, eb, em, e2, e3, rliF, Lt.plain, List.length_map, has_shard, has_epoch, has_n, has_m, has_node, has_flag, has_ballot, has_votes, has_confs, has_entries, has_txn, has_id, has_val, has_num, has_code, hk, kdOk, Int.reduceEq, Int.reduceLT, Int.reduceLE, decide_false, decide_true, Bool.or_false, Bool.false_or, Bool.or_true, Bool.true_or, Bool.not_true, Bool.not_false, Bool.and_true, Bool.true_and, Bool.and_false, Bool.false_and, inF, if_true, if_false, Bool.false_eq_true, reduceIte, ltE, txE_refl, vtE_refl, cfE_refl, enE_refl, eqL_nil, shOk, vtsOk, cfsOk, ensOk, and_self]
    clear e1 e2 e3 h
    clear eb em
    simp only [Bool.and_eq_true, Bool.or_eq_true, Bool.not_eq_true', Bool.and_eq_false_iff, Bool.or_eq_false_iff, Bool.not_eq_false', decide_eq_true_eq, decide_eq_false_iff_not]
    grind
  · have a1 : rc1 l.plain = true := by
      simp only [kdOk, decide_eq_false_iff_not] at hk
      simp only [rc1, ek]
      have : decide (l.k < 1) = true ∨ decide (21 < l.k) = true := by simp only [decide_eq_true_eq]; omega
      rcases this with h | h <;> simp only [h, Bool.true_or, Bool.or_true]
    simp only [rrF, lrF, a1, hk, Bool.not_true, Bool.false_and]
end Go.Aw
