import Derived.Test.YtjimaapiajldpaaR28Y
namespace Go.Aw
open Go
open Go.Proofs.Try (prog)
set_option linter.all false
set_option maxHeartbeats 4000000

theorem rdx_ref {t : Int} {n : Nat} (h : 1 ≤ n ∧ n ≤ 8) : (Int.tmod t n < 0 → Int.tmod t n + n = (rdx t n : Int)) ∧ (¬ Int.tmod t n < 0 → Int.tmod t n = (rdx t n : Int)) := by
  have hp : (0 : Int) < n := by omega
  have h1 := Int.lt_tmod_of_pos t hp
  have h2 := Int.tmod_lt_of_pos t hp
  unfold rdx
  obtain ⟨q, hq⟩ : ∃ q, Int.tmod t n = q := ⟨_, rfl⟩
  rw [hq] at h1 h2 ⊢
  refine ⟨fun h => ?_, fun h => ?_⟩
  · rw [Int.tmod_eq_of_lt (by omega) (by omega)]; omega
  · rw [Int.tmod_eq_emod_of_nonneg (by omega), Int.add_emod_right, Int.emod_eq_of_lt (by omega) (by omega)]; omega
theorem plain_get {c : Cf} {k : Nat} {x : Int} (h : c.ch[k]? = some x) : (mem c.plain.l)[k * 2]? = some (.i .i64 x) := by
  have e := c.plain_fst
  rw [← e, List.getElem?_map] at h
  cases hm : c.plain.l[k]? with
  | none => rw [hm] at h; cases h
  | some m =>
    rw [hm] at h
    simp only [Option.map_some, Option.some.injEq] at h
    have := congrArg (fun l : List AV => l[0]?) (mem_at hm)
    rw [← h]
    simpa [List.getElem?_drop] using this

theorem ac_RReader {T : Tab} {id : Nat} {l : List (Cf × AV)} (hR : RRt T id l) (key : Bs) (hl : Len key.length) (t : Int) (c : Cf) (v : AV) (x : Int) (hc : l[shardOf key l.length]? = some (c, v)) (hx : c.ch[rdx t c.ch.length]? = some x) (hcr : c.right = true) (hn : 1 ≤ l.length ∧ l.length ≤ 4) :
    ACalls prog f_sautoirref28_Route_Reader [.ptr id 0, .s key, .i .i64 t] T (fun r T' => r = .i .i64 (if keyOk key = true then x else -1) ∧ T' = T) := by
  obtain ⟨rL, h1, h2, h3⟩ := hR
  refine acalls_of mixed t_sautoirref28_Route_Reader (by simp) ?_
  unfold s_sautoirref28_Route_Reader
  simp -implicitDefEqProofs -dsimp only [go_sem, Nat.reduceEqDiff, Nat.reduceAdd, Nat.reduceMul, Nat.reduceSub, Nat.reduceLT, Nat.reduceLeDiff, Nat.reduceBEq, reduceIte, reduceCtorEq, Int.reduceLT, Int.reduceLE, Int.reduceEq, Int.reduceNeg, Int.reduceToNat, Int.reduceAdd, Int.reduceSub, ↓g_call _ _ c_sautoirref08_Right]
  refine CallK.pure (pc_rkRight key hl) (aft_nil ?_)
  rcases hk : keyOk key with _ | _
  · simp -implicitDefEqProofs -dsimp only [go_sem, Nat.reduceEqDiff, Nat.reduceAdd, Nat.reduceMul, Nat.reduceSub, Nat.reduceLT, Nat.reduceLeDiff, Nat.reduceBEq, reduceIte, reduceCtorEq, Int.reduceLT, Int.reduceLE, Int.reduceEq, Int.reduceNeg, Int.reduceToNat, Int.reduceAdd, Int.reduceSub, hk]
    exact finL_pure rfl
  have hcl := right_len hcr
  have hs := shardOf_len (k := key) hn
  have hcell := flat_at rvC_len hc
  have hget : (l.flatMap rvC)[shardOf key l.length * 4 + 2]? = some v := by
    have := congrArg (fun l : List AV => l[2]?) hcell
    simpa [List.getElem?_drop, rvC] using this
  have hmem : (c, v) ∈ l := List.mem_of_getElem? hc
  have hv := h3 _ hmem
  simp only at hv
  obtain ⟨w1, w2, w3, w4, w5⟩ := rdx_facts (t := t) (n := c.ch.length) ⟨hcl.1, hcl.2.1⟩
  obtain ⟨r1, r2⟩ := rdx_ref (t := t) (n := c.ch.length) ⟨hcl.1, hcl.2.1⟩
  have z1 : ((c.ch.length : Int) = 0) = False := eq_false (by omega)
  have hpx := plain_get hx
  have hpx' : ((mem c.plain.l).drop (rdx t c.ch.length * 2))[0]? = some (.i .i64 x) := by rw [List.getElem?_drop]; exact hpx
  have w6 : IntKind.i64.wrap (rdx t c.ch.length : Int) = (rdx t c.ch.length : Int) := wrap_i64 (by unfold I64; omega)
  simp -implicitDefEqProofs -dsimp only [go_sem, Nat.reduceEqDiff, Nat.reduceAdd, Nat.reduceMul, Nat.reduceSub, Nat.reduceLT, Nat.reduceLeDiff, Nat.reduceBEq, reduceIte, reduceCtorEq, Int.reduceLT, Int.reduceLE, Int.reduceEq, Int.reduceNeg, Int.reduceToNat, Int.reduceAdd, Int.reduceSub, hk, h1, ↓g_call _ _ c_sautoirref08_Shard]
  refine CallK.pure (pc_rShard key l.length hl) (aft_rc (fun _ => ⟨?_, trivial⟩) ?_)
  · simp -implicitDefEqProofs -dsimp only [go_sem, Nat.reduceEqDiff, Nat.reduceAdd, Nat.reduceMul, Nat.reduceSub, Nat.reduceLT, Nat.reduceLeDiff, Nat.reduceBEq, reduceIte, reduceCtorEq, Int.reduceLT, Int.reduceLE, Int.reduceEq, Int.reduceNeg, Int.reduceToNat, Int.reduceAdd, Int.reduceSub, gvev, gdd, h1]
  rcases hv with ⟨cap, rfl⟩ | ⟨i, rfl, hi⟩
  · simp -implicitDefEqProofs -dsimp only [go_sem, Nat.reduceEqDiff, Nat.reduceAdd, Nat.reduceMul, Nat.reduceSub, Nat.reduceLT, Nat.reduceLeDiff, Nat.reduceBEq, reduceIte, reduceCtorEq, Int.reduceLT, Int.reduceLE, Int.reduceEq, Int.reduceNeg, Int.reduceToNat, Int.reduceAdd, Int.reduceSub, h2, hs, hget, Int.ofNat_lt, Int.natCast_nonneg, Int.toNat_natCast, z1, w1]
    refine br_split (fun h => ?_) (fun h => ?_)
    · have e := r1 (of_decide_eq_true h)
      simp -implicitDefEqProofs -dsimp only [go_sem, Nat.reduceEqDiff, Nat.reduceAdd, Nat.reduceMul, Nat.reduceSub, Nat.reduceLT, Nat.reduceLeDiff, Nat.reduceBEq, reduceIte, reduceCtorEq, Int.reduceLT, Int.reduceLE, Int.reduceEq, Int.reduceNeg, Int.reduceToNat, Int.reduceAdd, Int.reduceSub, h, w1, w2, e, Int.ofNat_lt, w5, Int.natCast_nonneg, Int.toNat_natCast, w6, hpx']
      exact finL_pure rfl
    · have e := r2 (of_decide_eq_false h)
      simp -implicitDefEqProofs -dsimp only [go_sem, Nat.reduceEqDiff, Nat.reduceAdd, Nat.reduceMul, Nat.reduceSub, Nat.reduceLT, Nat.reduceLeDiff, Nat.reduceBEq, reduceIte, reduceCtorEq, Int.reduceLT, Int.reduceLE, Int.reduceEq, Int.reduceNeg, Int.reduceToNat, Int.reduceAdd, Int.reduceSub, h, w1, w2, e, Int.ofNat_lt, w5, Int.natCast_nonneg, Int.toNat_natCast, w6, hpx']
      exact finL_pure rfl
  · simp -implicitDefEqProofs -dsimp only [go_sem, Nat.reduceEqDiff, Nat.reduceAdd, Nat.reduceMul, Nat.reduceSub, Nat.reduceLT, Nat.reduceLeDiff, Nat.reduceBEq, reduceIte, reduceCtorEq, Int.reduceLT, Int.reduceLE, Int.reduceEq, Int.reduceNeg, Int.reduceToNat, Int.reduceAdd, Int.reduceSub, h2, hs, hget, Int.ofNat_lt, Int.natCast_nonneg, Int.toNat_natCast, z1, w1]
    refine br_split (fun h => ?_) (fun h => ?_)
    · have e := r1 (of_decide_eq_true h)
      simp -implicitDefEqProofs -dsimp only [go_sem, Nat.reduceEqDiff, Nat.reduceAdd, Nat.reduceMul, Nat.reduceSub, Nat.reduceLT, Nat.reduceLeDiff, Nat.reduceBEq, reduceIte, reduceCtorEq, Int.reduceLT, Int.reduceLE, Int.reduceEq, Int.reduceNeg, Int.reduceToNat, Int.reduceAdd, Int.reduceSub, h, w1, w2, e, Int.ofNat_lt, w5, Int.natCast_nonneg, Int.toNat_natCast, w6, hi, hpx]
      exact finL_pure rfl
    · have e := r2 (of_decide_eq_false h)
      simp -implicitDefEqProofs -dsimp only [go_sem, Nat.reduceEqDiff, Nat.reduceAdd, Nat.reduceMul, Nat.reduceSub, Nat.reduceLT, Nat.reduceLeDiff, Nat.reduceBEq, reduceIte, reduceCtorEq, Int.reduceLT, Int.reduceLE, Int.reduceEq, Int.reduceNeg, Int.reduceToNat, Int.reduceAdd, Int.reduceSub, h, w1, w2, e, Int.ofNat_lt, w5, Int.natCast_nonneg, Int.toNat_natCast, w6, hi, hpx]
      exact finL_pure rfl

theorem ac_RWriter {T : Tab} {id : Nat} {l : List (Cf × AV)} (hR : RRt T id l) (t : Tx) (k1 k2 : Option Nat) (hf : t.Fine) (hsq : 0 ≤ t.sq) (hr : t.rs.length ≤ 400000000) (hw : t.ws.length ≤ 400000000) (x : Nat) (c : Cf) (v : AV) (y : Int)
    (hx : txOk t = true → (shardsOf t.keys l.length)[0]? = some (x : Int)) (hc : l[x]? = some (c, v)) (hy : c.ch[0]? = some y) :
    ACalls prog f_sautoirref28_Route_Writer [.ptr id 0, .agg (t.cells k1 k2)] T (fun r T' => r = .i .i64 (if txOk t = true then y else -1) ∧ T' = T) := by
  obtain ⟨rL, h1, h2, h3⟩ := hR
  have c1 := pc_rRightTxn t k1 k2 hf hsq
  have c2 := pc_rKeys t k1 k2 hf
  have c3 := pc_rShards t.keys none l.length (by simp [Tx.keys]; omega) (Tx.keys_len hf)
  simp only [Tx.cells] at c1 c2
  refine acalls_of mixed t_sautoirref28_Route_Writer (by simp) ?_
  unfold s_sautoirref28_Route_Writer
  simp -implicitDefEqProofs -dsimp only [go_sem, Nat.reduceEqDiff, Nat.reduceAdd, Nat.reduceMul, Nat.reduceSub, Nat.reduceLT, Nat.reduceLeDiff, Nat.reduceBEq, reduceIte, reduceCtorEq, Int.reduceLT, Int.reduceLE, Int.reduceEq, Int.reduceNeg, Int.reduceToNat, Int.reduceAdd, Int.reduceSub, Tx.cells, ↓g_call _ _ c_sautoirref12_RightTxn]
  refine CallK.pure c1 (aft_nil ?_)
  rcases hk : txOk t with _ | _
  · simp -implicitDefEqProofs -dsimp only [go_sem, Nat.reduceEqDiff, Nat.reduceAdd, Nat.reduceMul, Nat.reduceSub, Nat.reduceLT, Nat.reduceLeDiff, Nat.reduceBEq, reduceIte, reduceCtorEq, Int.reduceLT, Int.reduceLE, Int.reduceEq, Int.reduceNeg, Int.reduceToNat, Int.reduceAdd, Int.reduceSub, hk]
    exact finL_pure rfl
  have hx' := hx hk
  have hlt : x < l.length := (List.getElem?_eq_some_iff.1 hc).1
  have hcell := flat_at rvC_len hc
  have hget : (l.flatMap rvC)[x * 4 + 2]? = some v := by
    have := congrArg (fun l : List AV => l[2]?) hcell
    simpa [List.getElem?_drop, rvC] using this
  have hmem : (c, v) ∈ l := List.mem_of_getElem? hc
  have hv := h3 _ hmem
  simp only at hv
  have hpx := plain_get hy
  rw [Nat.zero_mul] at hpx
  have hy0 : 0 < c.ch.length := (List.getElem?_eq_some_iff.1 hy).1
  have hS0 : 0 < (shardsOf t.keys l.length).length := (List.getElem?_eq_some_iff.1 hx').1
  have hI : (ints (shardsOf t.keys l.length))[0]? = some (.i .i64 x) := by simp [ints, hx']
  have b1 : (0 : Int) < (shardsOf t.keys l.length).length := by omega
  have b2 : (0 : Int) < c.ch.length := by omega
  simp -implicitDefEqProofs -dsimp only [go_sem, Nat.reduceEqDiff, Nat.reduceAdd, Nat.reduceMul, Nat.reduceSub, Nat.reduceLT, Nat.reduceLeDiff, Nat.reduceBEq, reduceIte, reduceCtorEq, Int.reduceLT, Int.reduceLE, Int.reduceEq, Int.reduceNeg, Int.reduceToNat, Int.reduceAdd, Int.reduceSub, hk, h1, ↓g_call _ _ c_sautoirref12_Keys]
  refine CallK.pure c2 (aft_rc (fun _ => ⟨?_, ?_, trivial⟩) ?_)
  · simp -implicitDefEqProofs -dsimp only [go_sem, Nat.reduceEqDiff, Nat.reduceAdd, Nat.reduceMul, Nat.reduceSub, Nat.reduceLT, Nat.reduceLeDiff, Nat.reduceBEq, reduceIte, reduceCtorEq, Int.reduceLT, Int.reduceLE, Int.reduceEq, Int.reduceNeg, Int.reduceToNat, Int.reduceAdd, Int.reduceSub, gvev, gdd, h1]
  · simp -implicitDefEqProofs -dsimp only [go_sem, Nat.reduceEqDiff, Nat.reduceAdd, Nat.reduceMul, Nat.reduceSub, Nat.reduceLT, Nat.reduceLeDiff, Nat.reduceBEq, reduceIte, reduceCtorEq, Int.reduceLT, Int.reduceLE, Int.reduceEq, Int.reduceNeg, Int.reduceToNat, Int.reduceAdd, Int.reduceSub, gvev, gdd, h1]
  simp -implicitDefEqProofs -dsimp only [go_sem, Nat.reduceEqDiff, Nat.reduceAdd, Nat.reduceMul, Nat.reduceSub, Nat.reduceLT, Nat.reduceLeDiff, Nat.reduceBEq, reduceIte, reduceCtorEq, Int.reduceLT, Int.reduceLE, Int.reduceEq, Int.reduceNeg, Int.reduceToNat, Int.reduceAdd, Int.reduceSub, ↓g_call _ _ c_sautoirref08_Shards]
  refine CallK.pure c3 (aft_rc (fun _ => ⟨?_, trivial⟩) ?_)
  · simp -implicitDefEqProofs -dsimp only [go_sem, Nat.reduceEqDiff, Nat.reduceAdd, Nat.reduceMul, Nat.reduceSub, Nat.reduceLT, Nat.reduceLeDiff, Nat.reduceBEq, reduceIte, reduceCtorEq, Int.reduceLT, Int.reduceLE, Int.reduceEq, Int.reduceNeg, Int.reduceToNat, Int.reduceAdd, Int.reduceSub, gvev, gdd, h1]
  rcases hv with ⟨cap, rfl⟩ | ⟨i, rfl, hi⟩
  · simp -implicitDefEqProofs -dsimp only [go_sem, Nat.reduceEqDiff, Nat.reduceAdd, Nat.reduceMul, Nat.reduceSub, Nat.reduceLT, Nat.reduceLeDiff, Nat.reduceBEq, reduceIte, reduceCtorEq, Int.reduceLT, Int.reduceLE, Int.reduceEq, Int.reduceNeg, Int.reduceToNat, Int.reduceAdd, Int.reduceSub, h2, b1, b2, hI, hlt, hget, Int.ofNat_lt, Int.natCast_nonneg, Int.toNat_natCast, Int.toNat_zero, Int.le_refl, hpx]
    exact finL_pure rfl
  · simp -implicitDefEqProofs -dsimp only [go_sem, Nat.reduceEqDiff, Nat.reduceAdd, Nat.reduceMul, Nat.reduceSub, Nat.reduceLT, Nat.reduceLeDiff, Nat.reduceBEq, reduceIte, reduceCtorEq, Int.reduceLT, Int.reduceLE, Int.reduceEq, Int.reduceNeg, Int.reduceToNat, Int.reduceAdd, Int.reduceSub, h2, b1, b2, hI, hlt, hget, Int.ofNat_lt, Int.natCast_nonneg, Int.toNat_natCast, Int.toNat_zero, Int.le_refl, hi, hpx]
    exact finL_pure rfl
end Go.Aw
