import Derived.Test.YtdgknlkijgomoaaDoorF04T
namespace Go.Aw
open Go
open Go.Proofs.Tryd (prog)
set_option linter.all false
set_option maxHeartbeats 4000000

theorem w_bit (m : W) (j : Nat) (hj : j < 32) : decide (IntKind.u32.wrap ((BitVec.ofInt IntKind.u32.bits ((m.toNat : Int).fdiv (2 ^ (min j 32))) &&& BitVec.ofInt IntKind.u32.bits 1).toNat : Int) = 1) = m.getLsbD j := by
  have e1 : (m.toNat : Int).fdiv (2 ^ (min j 32)) = ((m >>> j).toNat : Int) := by
    rw [Nat.min_eq_left (by omega), Int.fdiv_eq_ediv_of_nonneg _ (Int.pow_nonneg (by decide)), BitVec.toNat_ushiftRight, Nat.shiftRight_eq_div_pow]; norm_cast
  rw [e1, w_and1]
  have h : (m >>> j) &&& 1#32 = if m.getLsbD j then 1#32 else 0#32 := by
    apply BitVec.eq_of_getLsbD_eq
    intro i hi
    rw [BitVec.getLsbD_and, BitVec.getLsbD_ushiftRight, BitVec.getLsbD_one]
    by_cases h0 : i = 0
    · subst h0; cases hx : m.getLsbD j <;> simp [hx]
    · cases hx : m.getLsbD j <;> simp [h0]
  rw [h]
  cases m.getLsbD j <;> decide

theorem w_x8 (a : UInt8) (r : Nat) (hr : r < 8) : IntKind.u8.wrap ((BitVec.ofInt IntKind.u8.bits (a.toNat : Int) ^^^ BitVec.ofInt IntKind.u8.bits (IntKind.u8.wrap (1 * 2 ^ (min r 8)))).toNat : Int) = ((flipB a r).toNat : Int) := by
  have e1 : ∀ r : Fin 8, (BitVec.ofInt 8 (IntKind.u8.wrap (1 * 2 ^ (min r.val 8))) : BitVec 8) = 1#8 <<< r.val := by decide
  show IntKind.u8.wrap (((BitVec.ofInt 8 (a.toNat : Int) ^^^ BitVec.ofInt 8 (IntKind.u8.wrap (1 * 2 ^ (min r 8))) : BitVec 8)).toNat : Int) = _
  rw [e1 ⟨r, hr⟩, BitVec.ofInt_natCast, show BitVec.ofNat 8 a.toNat = a.toBitVec from BitVec.eq_of_toNat_eq (by simp)]
  have e2 : ∀ x : BitVec 8, IntKind.u8.wrap (x.toNat : Int) = ((UInt8.ofBitVec x).toNat : Int) := fun x => by
    have h := x.isLt
    show IntKind.u8.wrap (x.toNat : Int) = (x.toNat : Int)
    generalize x.toNat = n at h ⊢
    simp only [IntKind.wrap, IntKind.signed, IntKind.bits]
    simp
    omega
  exact e2 _

theorem lp_turn {R : RPost} (hR : ExtR R) {T : Tab} {l : List UInt8} {m : W} {p : Nat} (hl : l.length ≤ 100000) (hp : p + 31 < 8 * l.length) : ∀ (d j : Nat), j + d = 32 → ∀ (v : AV) (T1 : Tab), Own T 1 v l.length (byteCells (turnTo l p m j)) T1 →
    (∀ v T1, Own T 1 v l.length (byteCells (turnTo l p m 32)) T1 → R (.exit 0) [(2, wv m), (9, v), (10, .i .i64 p), (11, .i .i64 32), (57, .b false)] [] T1) →
    AW prog sautoirlaw04_FrameBursts_l0 R [(2, wv m), (9, v), (10, .i .i64 p), (11, .i .i64 j)] [] T1 := by
  intro d
  induction d with
  | zero =>
    intro j hj v T1 ho h2
    have : j = 32 := by omega
    subst this
    obtain ⟨p1, p2, p3, p4, p5, p6⟩ := ho.form
    refine AW_loop hR ?_
    unfold sautoirlaw04_FrameBursts_l0b
    simp -implicitDefEqProofs -dsimp only [go_sem, Nat.reduceEqDiff, Nat.reduceAdd, Nat.reduceMul, Nat.reduceSub, Nat.reduceLT, Nat.reduceLeDiff, Nat.reduceBEq, reduceIte, reduceCtorEq, Int.reduceLT, Int.reduceLE, Int.reduceEq, Int.reduceNeg, Int.reduceToNat, Int.reduceAdd, Int.reduceSub, show ((32 : Nat) : Int) = 32 from rfl, p1, p2, p3, p4, p5, p6]
    exact h2 v T1 ho
  | succ d ih =>
    intro j hj v T1 ho h2
    have hlt : (j : Int) < 32 := by omega
    have hws : IntKind.i64.wrap ((j : Int) + 1) = ((j + 1 : Nat) : Int) := wrap_succ (by omega)
    have hju : IntKind.u64.wrap (j : Int) = (j : Int) := IntWalk.u64_in _ (by omega)
    obtain ⟨id, rfl, hid, rfl⟩ := ho.ne (by omega)
    have hbit := w_bit m j (by omega)
    have hj0 : ((j : Int) < 0) = False := eq_false (by omega)
    refine AW_loopD (l := sautoirlaw04_FrameBursts_l0) rfl hR ?_
    unfold sautoirlaw04_FrameBursts_l0b
    rcases hb : m.getLsbD j with _ | _
    · rw [hb] at hbit
      have e : turnTo l p m (j + 1) = turnTo l p m j := by simp only [turnTo]; rw [if_neg (by rw [hb]; simp)]
      simp -implicitDefEqProofs -dsimp only [go_sem, Nat.reduceEqDiff, Nat.reduceAdd, Nat.reduceMul, Nat.reduceSub, Nat.reduceLT, Nat.reduceLeDiff, Nat.reduceBEq, reduceIte, reduceCtorEq, Int.reduceLT, Int.reduceLE, Int.reduceEq, Int.reduceNeg, Int.reduceToNat, Int.reduceAdd, Int.reduceSub, hlt, hju, Int.natCast_nonneg, Int.toNat_natCast, hj0, hbit, hws]
      exact ih (j + 1) (by omega) _ _ (by rw [e]; exact ho) h2
    · rw [hb] at hbit
      have e : turnTo l p m (j + 1) = flip (turnTo l p m j) (p + j) := by simp only [turnTo]; rw [if_pos hb]
      have wpj : IntKind.i64.wrap ((p : Int) + j) = ((p + j : Nat) : Int) := (wrap_i64 (by unfold I64; omega)).trans (by omega)
      simp -implicitDefEqProofs -dsimp only [go_sem, Nat.reduceEqDiff, Nat.reduceAdd, Nat.reduceMul, Nat.reduceSub, Nat.reduceLT, Nat.reduceLeDiff, Nat.reduceBEq, reduceIte, reduceCtorEq, Int.reduceLT, Int.reduceLE, Int.reduceEq, Int.reduceNeg, Int.reduceToNat, Int.reduceAdd, Int.reduceSub, hlt, hju, Int.natCast_nonneg, Int.toNat_natCast, hj0, hbit, hws, wpj]
      have wq : IntKind.i64.wrap (((p + j : Nat) : Int).tdiv 8) = (((p + j) / 8 : Nat) : Int) := by
        rw [Int.tdiv_eq_ediv_of_nonneg (by omega)]; exact (wrap_i64 (by unfold I64; omega)).trans (by omega)
      have wr : ((p + j : Nat) : Int).tmod 8 = (((p + j) % 8 : Nat) : Int) := by
        rw [Int.tmod_eq_emod_of_nonneg (by omega)]; omega
      have wru : IntKind.u64.wrap ((((p + j) % 8 : Nat) : Int)) = (((p + j) % 8 : Nat) : Int) := IntWalk.u64_in _ (by omega)
      have hr0 : ((((p + j) % 8 : Nat) : Int) < 0) = False := eq_false (by omega)
      have hlt2 : (p + j) / 8 < l.length := by omega
      obtain ⟨a, ha⟩ : ∃ a, (turnTo l p m j)[(p + j) / 8]? = some a := ⟨_, List.getElem?_eq_getElem (by rw [turnTo_len]; exact hlt2)⟩
      have hget : (byteCells (turnTo l p m j))[(p + j) / 8]? = some (.i .u8 (a.toNat : Int)) := by simp [byteCells, ha]
      have ht : (T.put id (.row 1 (byteCells (turnTo l p m j)))) id = .row 1 (byteCells (turnTo l p m j)) := Tab.put_same ..
      simp -implicitDefEqProofs -dsimp only [go_sem, Nat.reduceEqDiff, Nat.reduceAdd, Nat.reduceMul, Nat.reduceSub, Nat.reduceLT, Nat.reduceLeDiff, Nat.reduceBEq, reduceIte, reduceCtorEq, Int.reduceLT, Int.reduceLE, Int.reduceEq, Int.reduceNeg, Int.reduceToNat, Int.reduceAdd, Int.reduceSub, hlt, hju, Int.natCast_nonneg, Int.toNat_natCast, hj0, hbit, hws, wpj, wq, wr, wru, hr0, Int.ofNat_lt, hlt2, ht, hget, w_x8 a _ (Nat.mod_lt (p + j) (by decide))]
      have hlen : (p + j) / 8 + 1 ≤ (byteCells (turnTo l p m j)).length := by rw [byteCells_length, turnTo_len]; omega
      refine stS_row ht rfl rfl (by simpa using hlen) ?_
      refine aft_nil ?_
      rw [Tab.put_put]
      simp -implicitDefEqProofs -dsimp only [go_sem, Nat.reduceEqDiff, Nat.reduceAdd, Nat.reduceMul, Nat.reduceSub, Nat.reduceLT, Nat.reduceLeDiff, Nat.reduceBEq, reduceIte, reduceCtorEq, Int.reduceLT, Int.reduceLE, Int.reduceEq, Int.reduceNeg, Int.reduceToNat, Int.reduceAdd, Int.reduceSub, hws]
      refine ih (j + 1) (by omega) _ _ ?_ h2
      have e5 : byteCells (turnTo l p m (j + 1)) = stCells (byteCells (turnTo l p m j)) ((p + j) / 8) [.i .u8 ((flipB a ((p + j) % 8)).toNat : Int)] := by
        rw [e, flip, ha]
        have hk : (p + j) / 8 < (turnTo l p m j).length := by rw [turnTo_len]; exact hlt2
        simp only [byteCells, List.map_set, stCells, List.length_cons, List.length_nil, Nat.zero_add]
        rw [List.set_eq_take_append_cons_drop, if_pos (by simpa using hk)]; simp
      rw [e5]
      refine ⟨?_, .inr ⟨id, rfl, hid, rfl⟩⟩
      rw [stCells_length (by simpa using hlen), byteCells_length, turnTo_len, Nat.mul_one]
end Go.Aw
