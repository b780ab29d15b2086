import Derived.Test.YtmkbdoamlmpaeaaS12X
namespace Go.Aw
open Go
open Go.Proofs.Try (prog)
set_option linter.all false
set_option maxHeartbeats 4000000

/-! Each key is of just one shard. -/
def cnt (l : List Bs) (n : Int) (k : Nat) : Nat := (l.filter fun x => decide (shardOf x n = k)).length
theorem cnt_all (l : List Bs) (n : Int) : cnt l n 0 + cnt l n 1 + cnt l n 2 + cnt l n 3 = l.length := by
  induction l with
  | nil => rfl
  | cons x l ih =>
    have h := shardOf_lt x n
    have h4 : shardOf x n = 0 ∨ shardOf x n = 1 ∨ shardOf x n = 2 ∨ shardOf x n = 3 := by omega
    unfold cnt at ih ⊢
    rcases h4 with h | h | h | h <;> simp [List.filter_cons, h] <;> omega
theorem cnt_has {l : List Bs} {n : Int} {k : Nat} (h : hasS l n k = false) : cnt l n k = 0 := by
  unfold cnt
  rw [List.length_eq_zero_iff, List.filter_eq_nil_iff]
  intro x hx
  unfold hasS at h
  rw [List.any_eq_false] at h
  exact h x hx
theorem cnt_pos {l : List Bs} {n : Int} {k : Nat} (h : hasS l n k = true) : 0 < cnt l n k := by
  unfold cnt
  unfold hasS at h
  obtain ⟨x, hx, hk⟩ := List.any_eq_true.1 h
  exact List.length_pos_iff.2 (List.ne_nil_of_mem (List.mem_filter.2 ⟨hx, hk⟩))
theorem hasS_app (l m : List Bs) (n : Int) (k : Nat) : hasS (l ++ m) n k = (hasS l n k || hasS m n k) := by simp [hasS]
theorem inS_nat (k : Nat) (n : Int) (x : Bs) : inS (k : Int) n x = decide (shardOf x n = k) := decide_eq_decide.2 (by omega)

def sumR (t : Tx) (n : Int) (ss : List Int) : Nat := (ss.map fun s => (t.pr s n).length).sum
def sumW (t : Tx) (n : Int) (ss : List Int) : Nat := (ss.map fun s => (t.pw s n).length).sum
theorem pr_cnt (t : Tx) (n : Int) (k : Nat) : (t.pr (k : Int) n).length = cnt (t.rs.map (·.k)) n k := by
  unfold Tx.pr cnt
  rw [List.filter_map, List.length_map]
  congr 1
  exact List.filter_congr fun x _ => inS_nat k n x.k
theorem pw_cnt (t : Tx) (n : Int) (k : Nat) : (t.pw (k : Int) n).length = cnt (t.ws.map (·.k)) n k := by
  unfold Tx.pw cnt
  rw [List.filter_map, List.length_map]
  congr 1
  exact List.filter_congr fun x _ => inS_nat k n x.k

theorem sum_idxs {f : Int → Nat} : ∀ (bs : List Bool) (k : Nat), (∀ j b, bs[j]? = some b → b = false → f ((k + j : Nat) : Int) = 0) → ((idxs k bs).map f).sum = ((List.range bs.length).map fun j => f ((k + j : Nat) : Int)).sum
  | [], k, h => rfl
  | b :: bs, k, h => by
    have ih := sum_idxs bs (k + 1) (f := f) (fun j b hj hb => by
      have := h (j + 1) b (by simpa using hj) hb
      rw [show k + (j + 1) = k + 1 + j by omega] at this; exact this)
    have e : ((List.range (bs.length + 1)).map fun j => f ((k + j : Nat) : Int)).sum = f (k : Int) + ((List.range bs.length).map fun j => f ((k + 1 + j : Nat) : Int)).sum := by
      rw [List.range_succ_eq_map, List.map_cons, List.sum_cons, List.map_map]
      congr 1
      congr 1
      apply List.map_congr_left
      intro j _
      show f ((k + (j + 1) : Nat) : Int) = _
      rw [show k + (j + 1) = k + 1 + j by omega]
    rw [List.length_cons, e, ← ih]
    cases b with
    | true => simp [idxs]
    | false =>
      have := h 0 false rfl rfl
      simp only [Nat.add_zero] at this
      simp [idxs, this]

theorem sumR_all (t : Tx) (n : Int) : sumR t n (shardsOf t.keys n) = t.rs.length := by
  unfold sumR shardsOf
  rw [sum_idxs]
  · have h := cnt_all (t.rs.map (·.k)) n
    rw [List.length_map] at h
    have e : (seenL t.keys n).length = 4 := rfl
    rw [e]
    simp only [List.range_succ, List.range_zero, List.nil_append, List.map_append, List.map_cons, List.map_nil, List.sum_append, List.sum_cons, List.sum_nil, Nat.zero_add, Nat.add_zero, pr_cnt]
    omega
  · intro j b hj hb
    rw [Nat.zero_add, pr_cnt]
    apply cnt_has
    subst hb
    have : hasS t.keys n j = false := by
      match j, hj with
      | 0, hj => simpa [seenL] using hj
      | 1, hj => simpa [seenL] using hj
      | 2, hj => simpa [seenL] using hj
      | 3, hj => simpa [seenL] using hj
      | j + 4, hj => simp [seenL] at hj
    rw [Tx.keys, hasS_app] at this
    exact (Bool.or_eq_false_iff.1 this).1
theorem sumW_all (t : Tx) (n : Int) : sumW t n (shardsOf t.keys n) = t.ws.length := by
  unfold sumW shardsOf
  rw [sum_idxs]
  · have h := cnt_all (t.ws.map (·.k)) n
    rw [List.length_map] at h
    have e : (seenL t.keys n).length = 4 := rfl
    rw [e]
    simp only [List.range_succ, List.range_zero, List.nil_append, List.map_append, List.map_cons, List.map_nil, List.sum_append, List.sum_cons, List.sum_nil, Nat.zero_add, Nat.add_zero, pw_cnt]
    omega
  · intro j b hj hb
    rw [Nat.zero_add, pw_cnt]
    apply cnt_has
    subst hb
    have : hasS t.keys n j = false := by
      match j, hj with
      | 0, hj => simpa [seenL] using hj
      | 1, hj => simpa [seenL] using hj
      | 2, hj => simpa [seenL] using hj
      | 3, hj => simpa [seenL] using hj
      | j + 4, hj => simp [seenL] at hj
    rw [Tx.keys, hasS_app] at this
    exact (Bool.or_eq_false_iff.1 this).2
theorem mem_idxs : ∀ (bs : List Bool) (k : Nat) (s : Int), s ∈ idxs k bs → ∃ j, bs[j]? = some true ∧ s = ((k + j : Nat) : Int)
  | [], k, s, h => by simp [idxs] at h
  | b :: bs, k, s, h => by
    have hrec : s ∈ idxs (k + 1) bs → ∃ j, (b :: bs)[j]? = some true ∧ s = ((k + j : Nat) : Int) := fun h => by
      obtain ⟨j, h1, h2⟩ := mem_idxs bs (k + 1) s h
      exact ⟨j + 1, by simpa using h1, by rw [h2]; congr 1; omega⟩
    cases b with
    | false => exact hrec (by simpa [idxs] using h)
    | true =>
      simp only [idxs, if_true, List.mem_cons] at h
      rcases h with rfl | h
      · exact ⟨0, rfl, rfl⟩
      · exact hrec h
theorem part_pos {t : Tx} {n s : Int} (h : s ∈ shardsOf t.keys n) : 0 < (t.pr s n).length + (t.pw s n).length := by
  obtain ⟨j, h1, rfl⟩ := mem_idxs _ _ _ h
  have : hasS t.keys n j = true := by
    match j, h1 with
    | 0, hj => simpa [seenL] using hj
    | 1, hj => simpa [seenL] using hj
    | 2, hj => simpa [seenL] using hj
    | 3, hj => simpa [seenL] using hj
    | j + 4, hj => simp [seenL] at hj
  rw [Nat.zero_add, pr_cnt, pw_cnt]
  rw [Tx.keys, hasS_app] at this
  rcases Bool.or_eq_true_iff.1 this with h | h
  · have := cnt_pos h; omega
  · have := cnt_pos h; omega
end Go.Aw
