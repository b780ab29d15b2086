import Derived.Test.YtnkagdjmjakeiaaB22O
namespace Go.Aw
open Go
open Go.Proofs.Try (prog)
set_option linter.all false
set_option maxHeartbeats 4000000

/-! What a watch has is what the reference says. -/
theorem watch_at {lim : Int} {n : Nat} (hn : n < 8) (h1 : 1 ≤ lim) : ∀ (es : List Ev) (l : List Wr) (w : Wr) (c : Int), l.length = 8 → l[n]? = some w → 0 ≤ c → w.g = min c (lim + 1) →
    ∃ w', (es.foldl (stepW lim) l)[n]? = some w' ∧ (w'.x, w'.h) = es.foldl (rlast n) (w.x, w.h) ∧ w'.g = min (es.foldl (rcnt n) c) (lim + 1)
  | [], l, w, c, hl, hw, hc, hg => ⟨w, hw, rfl, hg⟩
  | e :: es, l, w, c, hl, hw, hc, hg => by
    have hs : srvW (n : Int) = true := by simp [srvW]; omega
    simp only [List.foldl_cons]
    by_cases k0 : e.k = 0
    · have e1 : stepW lim l e = l.map (tickR lim) := by unfold stepW; rw [if_pos k0]
      have e2 : rlast n (w.x, w.h) e = (w.x, w.h) := by unfold rlast; rw [if_neg (fun h => by omega)]
      have e3 : rcnt n c e = c + 1 := by unfold rcnt; rw [if_neg (fun h => by omega), if_pos k0]
      rw [e1, e2, e3]
      have e4 : ((tickR lim w).x, (tickR lim w).h) = (w.x, w.h) := by unfold tickR; split <;> rfl
      rw [← e4]
      refine watch_at hn h1 es _ (tickR lim w) (c + 1) (by rw [List.length_map]; exact hl) (by rw [List.getElem?_map, hw]; rfl) (by omega) ?_
      unfold tickR; split
      · simp only; omega
      · omega
    by_cases k1 : e.k = 1
    · have e1 : stepW lim l e = heardW l e.n e.x := by unfold stepW; rw [if_neg k0, if_pos k1]
      by_cases kn : e.n = n
      · have e2 : rlast n (w.x, w.h) e = (e.x, true) := by unfold rlast; rw [if_pos ⟨k1, kn, by omega, by omega⟩]
        have e3 : rcnt n c e = 0 := by unfold rcnt; rw [if_pos ⟨k1, kn⟩]
        rw [e1, e2, e3, heardW, kn, hs, if_pos rfl, Int.toNat_natCast]
        exact watch_at hn h1 es _ ⟨e.x, true, 0⟩ 0 (by rw [List.length_set]; exact hl) (by rw [List.getElem?_set_self (by omega)]) (by omega) (by simp only; omega)
      · have e2 : rlast n (w.x, w.h) e = (w.x, w.h) := by unfold rlast; rw [if_neg (fun h => kn h.2.1)]
        have e3 : rcnt n c e = c := by unfold rcnt; rw [if_neg (fun h => kn h.2), if_neg k0]
        rw [e1, e2, e3]
        refine watch_at hn h1 es _ w c ?_ ?_ hc hg
        · unfold heardW; split
          · rw [List.length_set]; exact hl
          · exact hl
        · unfold heardW; split
          · rename_i hse
            have := srvW_lt hse
            rw [List.getElem?_set_ne (by omega)]; exact hw
          · exact hw
    · have e1 : stepW lim l e = l := by unfold stepW; rw [if_neg k0, if_neg k1]
      have e2 : rlast n (w.x, w.h) e = (w.x, w.h) := by unfold rlast; rw [if_neg (fun h => k1 h.1)]
      have e3 : rcnt n c e = c := by unfold rcnt; rw [if_neg (fun h => k1 h.1), if_neg k0]
      rw [e1, e2, e3]
      exact watch_at hn h1 es l w c hl hw hc hg

theorem rlast_no {n : Int} (h : srvW n = false) : ∀ (es : List Ev) (r : Be × Bool), es.foldl (rlast n) r = r
  | [], r => rfl
  | e :: es, r => by
    have e2 : rlast n r e = r := by
      unfold rlast; rw [if_neg (fun h2 => ?_)]
      simp [srvW] at h
      have := h h2.2.2.1
      omega
    rw [List.foldl_cons, e2, rlast_no h es]

theorem last_eq (m n : Int) (es : List Ev) : lastW (watchW (clampW m) es) n = es.foldl (rlast n) (Be.nil, false) := by
  rcases hs : srvW n with _ | _
  · rw [rlast_no hs]; simp [lastW, hs]
  have hn := srvW_lt hs
  obtain ⟨k, rfl⟩ : ∃ k : Nat, n = k := ⟨n.toNat, by omega⟩
  obtain ⟨w', h1, h2, _⟩ := watch_at (lim := clampW m) (n := k) (by omega) (clampW_le m).1 es wrs0 wr0 0 rfl (by rw [wrs0, List.getElem?_replicate, if_pos (by omega)]) (by omega) (by have := clampW_le m; simp only [wr0]; omega)
  simp only [lastW, hs, if_true, Int.toNat_natCast, watchW, h1, h2]; rfl
theorem sus_eq (m n : Int) (es : List Ev) : susW (clampW m) (watchW (clampW m) es) n = rsus n m es := by
  rcases hs : srvW n with _ | _
  · simp [susW, rsus, hs]
  have hn := srvW_lt hs
  obtain ⟨k, rfl⟩ : ∃ k : Nat, n = k := ⟨n.toNat, by omega⟩
  obtain ⟨w', h1, _, h3⟩ := watch_at (lim := clampW m) (n := k) (by omega) (clampW_le m).1 es wrs0 wr0 0 rfl (by rw [wrs0, List.getElem?_replicate, if_pos (by omega)]) (by omega) (by have := clampW_le m; simp only [wr0]; omega)
  simp only [susW, rsus, hs, if_true, Int.toNat_natCast, watchW, h1, Bool.true_and]
  rw [decide_eq_decide, h3]; omega
theorem sus_heard {lim : Int} {l : List Wr} (h1 : 1 ≤ lim) (hl : l.length = 8) (n : Int) (b : Be) : susW lim (heardW l n b) n = false := by
  rcases hs : srvW n with _ | _
  · simp [susW, hs]
  have hn := srvW_lt hs
  simp only [susW, hs, if_true, heardW]
  rw [List.getElem?_set_self (by omega)]
  simp only [decide_eq_false_iff_not]; omega
end Go.Aw
