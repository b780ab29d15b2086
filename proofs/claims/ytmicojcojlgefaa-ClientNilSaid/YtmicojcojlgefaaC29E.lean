import Derived.Test.YtmicojcojlgefaaC29D
namespace Go.Aw
open Go
open Go.Proofs.Try (prog)
set_option linter.all false
set_option maxHeartbeats 8000000
set_option maxRecDepth 8000

theorem idxs_first : ∀ (bs : List Bool) (k j : Nat), bs[j]? = some true → ∃ x : Nat, (idxs k bs)[0]? = some (x : Int) ∧ x ≤ k + j
  | [], k, j, h => by simp at h
  | b :: bs, k, j, h => by
    cases b with
    | true => exact ⟨k, by simp [idxs], by omega⟩
    | false =>
      cases j with
      | zero => simp at h
      | succ j =>
        obtain ⟨x, h1, h2⟩ := idxs_first bs (k + 1) j (by simpa using h)
        exact ⟨x, by simpa [idxs] using h1, by omega⟩
theorem shards_some {ks : List Bs} {n : Nat} (hn : 1 ≤ n ∧ n ≤ 4) (hk : ks ≠ []) : ∃ x : Nat, (shardsOf ks n)[0]? = some (x : Int) ∧ x < n := by
  obtain ⟨k, ks', rfl⟩ := List.exists_cons_of_ne_nil hk
  have h1 := shardOf_len (k := k) hn
  have h2 : (seenL (k :: ks') n)[shardOf k n]? = some true := by
    have h4 : shardOf k n = 0 ∨ shardOf k n = 1 ∨ shardOf k n = 2 ∨ shardOf k n = 3 := by omega
    rcases h4 with h | h | h | h <;> simp [seenL, hasS, h]
  obtain ⟨x, h3, h4⟩ := idxs_first _ 0 _ h2
  exact ⟨x, h3, by omega⟩
theorem wr_some {l : List Cf} (h : RtOk l) {t : Tx} (ht : txOk t = true) : ∃ (x : Nat) (c : Cf), (txOk t = true → (shardsOf t.keys l.length)[0]? = some (x : Int)) ∧ l[x]? = some c ∧ wrTo l t = c.at 0 := by
  have hk : t.keys ≠ [] := by
    simp only [txOk, Bool.and_eq_true, Bool.not_eq_true', decide_eq_false_iff_not] at ht
    have := ht.1.1.2
    intro e
    have hl : t.keys.length = 0 := by rw [e]; rfl
    simp only [Tx.keys, List.length_append, List.length_map] at hl
    omega
  obtain ⟨x, h1, h2⟩ := shards_some h.n hk
  obtain ⟨c, hc⟩ : ∃ c, l[x]? = some c := ⟨_, List.getElem?_eq_getElem h2⟩
  refine ⟨x, c, fun _ => h1, hc, ?_⟩
  unfold wrTo
  rw [h1]
  simp only [Int.toNat_natCast]
  rw [hc]
end Go.Aw

