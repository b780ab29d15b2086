import Derived.Test.YtmicojcojlgefaaGreatZ29S12P
namespace Go.Aw
open Go
open Go.Proofs.Tryz (prog)
set_option linter.all false
set_option maxHeartbeats 4000000
theorem quj {α : Type} {f : α -> List AV} {z : Nat} (hf : ∀ x, (f x).length = z) (l : List α) (k : Nat) : (l.flatMap f).take (k * z) = (l.take k).flatMap f := by
 induction l generalizing k with
 | nil => simp
 | cons a l ih =>
  cases k with
  | zero => simp
  | succ k =>
   rw [List.flatMap_cons, List.take_succ_cons, List.flatMap_cons, <- ih, show (k + 1) * z = (f a).length + k * z by rw [hf, Nat.add_mul]; omega, List.take_length_add_append]
theorem z0o {R : Y5} (hR : ExtR R) {T : Tab} {bs : List UInt8} (hl : Len bs.length) : ∀ (ys : List UInt8) (k : Nat), bs.drop k = ys -> k <= bs.length ->
  (sgn ys = false -> R .ret [(2, .b false)] [] T) ->
  (sgn ys = true -> R (.exit 0) [(0, .s bs), (3, .i .i64 bs.length), (8, .b false)] [] T) ->
  AW prog q3n R [(0, .s bs), (3, .i .i64 k)] [] T := by
 intro ys
 induction ys with
 | nil =>
  intro k hk hle h1 h2
  have hk' := O9 hk hle
  refine Q2 hR ?_
  unfold q6f
  simp -implicitDefEqProofs -dsimp only [go_sem, seval, hk', Int.lt_irrefl]
  rw [hk'] at h2
  exact h2 rfl
 | cons y ys ih =>
  intro k hk hle h1 h2
  obtain ⟨hlt, hy, hk'⟩ := Q5 hk
  unfold Len at hl
  have hws : IntKind.i64.wrap ((k : Int) + 1) = ((k + 1 : Nat) : Int) := K9 (by omega)
  have hwy : IntKind.i64.wrap (y.toNat : Int) = y.toNat := q02 (by have := y.toNat_lt; unfold I64; omega)
  have hno : sg y.toNat = false -> R .ret [(2, .b false)] [] T := fun h => h1 (by simp [sgn, h])
  have hgo : sg y.toNat = true -> AW prog q3n R [(0, .s bs), (3, .i .i64 ((k + 1 : Nat) : Int))] [] T := fun h =>
   ih (k + 1) hk' hlt (fun h' => h1 (by simpa [sgn, h] using h')) (fun h' => h2 (by simpa [sgn, h] using h'))
  clear ih
  refine O2 (l := q3n) rfl hR ?_
  unfold q6f
  rcases h95 : decide ((y.toNat : Int) = 95) with _ | _
  all_goals
   simp -implicitDefEqProofs -dsimp only [go_sem, seval, Int.ofNat_lt, hlt, Int.natCast_nonneg, Int.toNat_natCast, hy, hwy, h95]
   (first | (apply J2 <;> intro h_1 <;> simp -implicitDefEqProofs -dsimp only [go_sem, seval, hws, decide_true, decide_false, h95, h_1]) | (have h_1 := trivial)) <;>
  (first | (apply J2 <;> intro h_2 <;> simp -implicitDefEqProofs -dsimp only [go_sem, seval, hws, decide_true, decide_false, h95, h_1, h_2]) | (have h_2 := trivial)) <;>
  (first | (apply J2 <;> intro h_3 <;> simp -implicitDefEqProofs -dsimp only [go_sem, seval, hws, decide_true, decide_false, h95, h_1, h_2, h_3]) | (have h_3 := trivial)) <;>
  (first | (apply J2 <;> intro h_4 <;> simp -implicitDefEqProofs -dsimp only [go_sem, seval, hws, decide_true, decide_false, h95, h_1, h_2, h_3, h_4]) | (have h_4 := trivial)) <;>
  (first | (apply J2 <;> intro h_5 <;> simp -implicitDefEqProofs -dsimp only [go_sem, seval, hws, decide_true, decide_false, h95, h_1, h_2, h_3, h_4, h_5]) | (have h_5 := trivial)) <;>
  (first | (apply J2 <;> intro h_6 <;> simp -implicitDefEqProofs -dsimp only [go_sem, seval, hws, decide_true, decide_false, h95, h_1, h_2, h_3, h_4, h_5, h_6]) | (have h_6 := trivial))
  all_goals first
   | exact hno (by simp only [sg, h_1, h_2, h_3, h_4, h_5, h95, Bool.not_true, Bool.not_false, Bool.true_and, Bool.false_and, Bool.and_false, Bool.and_true, Bool.or_true, Bool.true_or, Bool.false_or, Bool.or_false])
   | exact hgo (by simp only [sg, h_1, h_2, h_3, h_4, h_5, h95, Bool.not_true, Bool.not_false, Bool.true_and, Bool.false_and, Bool.and_false, Bool.and_true, Bool.or_true, Bool.true_or, Bool.false_or, Bool.or_false])
theorem q93 (bs : List UInt8) (hl : Len bs.length) : PCalls prog q2q [.s bs] (.b (sgn bs)) := by
 refine K5 Q7 qjv (by simp) fun T => ?_
 unfold qc0
 simp -implicitDefEqProofs -dsimp only [go_sem, seval]
 refine z0o (by repeat' (first | exact N5 _ _ | assumption | apply N4 | apply K7 | apply U1)) hl bs 0 rfl (by omega) (fun h => ?_) (fun h => ?_) <;> simp -implicitDefEqProofs -dsimp only [go_sem, seval] <;> exact K1 (by rw [h])
theorem qic (bs : List UInt8) (hl : Len bs.length) : PCalls prog q0j [.s bs] (.b (qdh bs)) := by
 refine K5 Q7 qjf (by simp) fun T => ?_
 have e : decide (bs = []) = !decide (1 <= (bs.length : Int)) := by
  cases bs with
  | nil => rfl
  | cons b bs => simp; omega
 have hk : qdh bs = (decide (1 <= (bs.length : Int)) && (sgn bs && decide ((bs.length : Int) <= 32))) := by rw [qdh, e, Bool.not_not]
 unfold qbr
 simp -implicitDefEqProofs -dsimp only [go_sem, seval]
 (first | (apply J2 <;> intro h_1 <;> simp -implicitDefEqProofs -dsimp only [go_sem, seval, ↓N1, U6, true_and, decide_true, decide_false, ↓J0 _ _ O1, h_1]) | (refine CallK.pure (q93 bs hl) (J1 ?_); simp -implicitDefEqProofs -dsimp only [go_sem, seval, ↓N1, U6, true_and, decide_true, decide_false, ↓J0 _ _ O1]; have h_1 := trivial) | (have h_1 := trivial)) <;>
  (first | (apply J2 <;> intro h_2 <;> simp -implicitDefEqProofs -dsimp only [go_sem, seval, ↓N1, U6, true_and, decide_true, decide_false, ↓J0 _ _ O1, h_1, h_2]) | (refine CallK.pure (q93 bs hl) (J1 ?_); simp -implicitDefEqProofs -dsimp only [go_sem, seval, ↓N1, U6, true_and, decide_true, decide_false, ↓J0 _ _ O1, h_1]; have h_2 := trivial) | (have h_2 := trivial)) <;>
  (first | (apply J2 <;> intro h_3 <;> simp -implicitDefEqProofs -dsimp only [go_sem, seval, ↓N1, U6, true_and, decide_true, decide_false, ↓J0 _ _ O1, h_1, h_2, h_3]) | (refine CallK.pure (q93 bs hl) (J1 ?_); simp -implicitDefEqProofs -dsimp only [go_sem, seval, ↓N1, U6, true_and, decide_true, decide_false, ↓J0 _ _ O1, h_1, h_2]; have h_3 := trivial) | (have h_3 := trivial)) <;>
  (first | (apply J2 <;> intro h_4 <;> simp -implicitDefEqProofs -dsimp only [go_sem, seval, ↓N1, U6, true_and, decide_true, decide_false, ↓J0 _ _ O1, h_1, h_2, h_3, h_4]) | (refine CallK.pure (q93 bs hl) (J1 ?_); simp -implicitDefEqProofs -dsimp only [go_sem, seval, ↓N1, U6, true_and, decide_true, decide_false, ↓J0 _ _ O1, h_1, h_2, h_3]; have h_4 := trivial) | (have h_4 := trivial)) <;>
  (first | (apply J2 <;> intro h_5 <;> simp -implicitDefEqProofs -dsimp only [go_sem, seval, ↓N1, U6, true_and, decide_true, decide_false, ↓J0 _ _ O1, h_1, h_2, h_3, h_4, h_5]) | (refine CallK.pure (q93 bs hl) (J1 ?_); simp -implicitDefEqProofs -dsimp only [go_sem, seval, ↓N1, U6, true_and, decide_true, decide_false, ↓J0 _ _ O1, h_1, h_2, h_3, h_4]; have h_5 := trivial) | (have h_5 := trivial))
 all_goals
  refine K1 ?_
  simp only [hk, *, Bool.not_true, Bool.not_false, Bool.true_and, Bool.false_and, Bool.and_false, Bool.and_true]
theorem qt1 (bs : List UInt8) (hl : Len bs.length) : PCalls prog q2t [.s bs] (.b (qvz bs)) := by
 refine K5 Q7 qg2 (by simp) fun T => ?_
 unfold qa3
 simp -implicitDefEqProofs -dsimp only [go_sem, seval]
 (first | (apply J2 <;> intro h_1 <;> simp -implicitDefEqProofs -dsimp only [go_sem, seval, ↓N1, U6, true_and, decide_true, decide_false, ↓J0 _ _ O1, h_1]) | (refine CallK.pure (q93 bs hl) (J1 ?_); simp -implicitDefEqProofs -dsimp only [go_sem, seval, ↓N1, U6, true_and, decide_true, decide_false, ↓J0 _ _ O1]; have h_1 := trivial) | (have h_1 := trivial)) <;>
  (first | (apply J2 <;> intro h_2 <;> simp -implicitDefEqProofs -dsimp only [go_sem, seval, ↓N1, U6, true_and, decide_true, decide_false, ↓J0 _ _ O1, h_1, h_2]) | (refine CallK.pure (q93 bs hl) (J1 ?_); simp -implicitDefEqProofs -dsimp only [go_sem, seval, ↓N1, U6, true_and, decide_true, decide_false, ↓J0 _ _ O1, h_1]; have h_2 := trivial) | (have h_2 := trivial)) <;>
  (first | (apply J2 <;> intro h_3 <;> simp -implicitDefEqProofs -dsimp only [go_sem, seval, ↓N1, U6, true_and, decide_true, decide_false, ↓J0 _ _ O1, h_1, h_2, h_3]) | (refine CallK.pure (q93 bs hl) (J1 ?_); simp -implicitDefEqProofs -dsimp only [go_sem, seval, ↓N1, U6, true_and, decide_true, decide_false, ↓J0 _ _ O1, h_1, h_2]; have h_3 := trivial) | (have h_3 := trivial)) <;>
  (first | (apply J2 <;> intro h_4 <;> simp -implicitDefEqProofs -dsimp only [go_sem, seval, ↓N1, U6, true_and, decide_true, decide_false, ↓J0 _ _ O1, h_1, h_2, h_3, h_4]) | (refine CallK.pure (q93 bs hl) (J1 ?_); simp -implicitDefEqProofs -dsimp only [go_sem, seval, ↓N1, U6, true_and, decide_true, decide_false, ↓J0 _ _ O1, h_1, h_2, h_3]; have h_4 := trivial) | (have h_4 := trivial)) <;>
  (first | (apply J2 <;> intro h_5 <;> simp -implicitDefEqProofs -dsimp only [go_sem, seval, ↓N1, U6, true_and, decide_true, decide_false, ↓J0 _ _ O1, h_1, h_2, h_3, h_4, h_5]) | (refine CallK.pure (q93 bs hl) (J1 ?_); simp -implicitDefEqProofs -dsimp only [go_sem, seval, ↓N1, U6, true_and, decide_true, decide_false, ↓J0 _ _ O1, h_1, h_2, h_3, h_4]; have h_5 := trivial) | (have h_5 := trivial))
 all_goals
  refine K1 ?_
  simp only [qvz, *, Bool.not_true, Bool.not_false, Bool.true_and, Bool.false_and, Bool.and_false, Bool.and_true]
theorem qlo (c s : Int) (hs : 0 <= s) : PCalls prog q0n [.agg [.i .i64 c, .i .u64 s]] (.b (qp6 c s)) := by
 refine K5 Q7 qgq (by simp) fun T => ?_
 have e1 : decide (c < 6) = decide (c <= 5) := by rw [decide_eq_decide]; omega
 have e2 : decide (0 < s) = !decide (s = 0) := by
  by_cases h : s = 0
  ·subst h; rfl
  ·rw [decide_eq_true (by omega), decide_eq_false h]; rfl
 have hk : qp6 c s = (decide (0 <= c) && decide (c <= 5) && !decide (s = 0)) := by rw [qp6, e1, e2]
 unfold qac
 simp -implicitDefEqProofs -dsimp only [go_sem, seval, decide_true, decide_false]
 (first | (apply J2 <;> intro h_1 <;> simp -implicitDefEqProofs -dsimp only [go_sem, seval, decide_true, decide_false, h_1]) | (have h_1 := trivial)) <;>
  (first | (apply J2 <;> intro h_2 <;> simp -implicitDefEqProofs -dsimp only [go_sem, seval, decide_true, decide_false, h_1, h_2]) | (have h_2 := trivial)) <;>
  (first | (apply J2 <;> intro h_3 <;> simp -implicitDefEqProofs -dsimp only [go_sem, seval, decide_true, decide_false, h_1, h_2, h_3]) | (have h_3 := trivial)) <;>
  (first | (apply J2 <;> intro h_4 <;> simp -implicitDefEqProofs -dsimp only [go_sem, seval, decide_true, decide_false, h_1, h_2, h_3, h_4]) | (have h_4 := trivial))
 all_goals
  refine K1 ?_
  simp only [hk, *, Bool.not_true, Bool.not_false, Bool.true_and, Bool.false_and, Bool.and_false, Bool.and_true]
theorem z62 {R : Y5} (hR : ExtR R) {T : Tab} {tc : List AV} {y : Rd} {ps : List Rd} {cap : Option Nat} {v52 v53 v54 : AV} (hv : v52.plain = true /\ v53.plain = true /\ v54.plain = true) (hvl : (∀ k, v52.offLp k = v52) /\ (∀ k, v53.offLp k = v53) /\ (∀ k, v54.offLp k = v54)) {n : Nat} (hn : ps.length = n) (hl : n < 1000000000) :
  ∀ (zs : List Rd) (j : Nat), ps.drop j = zs -> j <= n ->
  (y.k ∈ zs.map (·.k) -> R .ret [(2, .b false)] [] T) ->
  (y.k ∉ zs.map (·.k) -> R (.exit 2) [(1, .lp 1 0), (4, .lp 4 0), (52, v52), (53, v53), (54, v54), (62, .fz n (ps.flatMap rdC) cap), (63, .i .i64 n), (64, .i .i64 n), (65, .b false)] [(1, tc), (4, rdC y)] T) ->
  AW prog q4o R [(1, .lp 1 0), (4, .lp 4 0), (52, v52), (53, v53), (54, v54), (62, .fz n (ps.flatMap rdC) cap), (63, .i .i64 n), (64, .i .i64 j)] [(1, tc), (4, rdC y)] T := by
 subst hn
 obtain ⟨u1, u2, u3⟩ := hv
 obtain ⟨u4, u5, u6⟩ := hvl
 intro zs
 induction zs with
 | nil =>
  intro j hk hle h1 h2
  have hk' := O9 hk hle
  refine Q2 hR ?_
  unfold q3r
  simp -implicitDefEqProofs -dsimp only [go_sem, seval, hk', Int.lt_irrefl]
  rw [hk'] at h2
  exact h2 (by simp)
 | cons z zs ih =>
  intro j hk hle h1 h2
  obtain ⟨hlt, hy, hk'⟩ := Q5 hk
  have hc := V0 q7n hy
  have hc5 : j * 2 + 2 <= (ps.flatMap rdC).length := by rw [K8 q7n]; omega
  have hws : IntKind.i64.wrap ((j : Int) + 1) = ((j + 1 : Nat) : Int) := K9 (by omega)
  refine O2 (l := q4o) rfl hR ?_
  unfold q3r
  simp -implicitDefEqProofs -dsimp only [go_sem, seval, Int.ofNat_lt, hlt, Int.natCast_nonneg, Int.toNat_natCast, hc, hc5, rdC, List.cons_append, List.nil_append, u4, u5, u6]
  refine J2 (fun h => ?_) (fun h => ?_)
  ·simp -implicitDefEqProofs -dsimp only [go_sem, seval, h]
   exact h1 (by simp [of_decide_eq_true h])
  ·have hne := of_decide_eq_false h
   simp -implicitDefEqProofs -dsimp only [go_sem, seval, h, hws, u4, u5, u6]
   have := ih (j + 1) hk' hlt (fun h' => h1 (by simp only [List.map_cons, List.mem_cons]; exact .inr h')) (fun h' => h2 (by simp only [List.map_cons, List.mem_cons, not_or]; exact ⟨fun e => hne e.symm, h'⟩))
   simpa only [rdC] using this
theorem z63 {R : Y5} (hR : ExtR R) {T : Tab} {tc : List AV} {y : Wt} {ps : List Wt} {cap : Option Nat} {v80 v81 v82 : AV} (hv : v80.plain = true /\ v81.plain = true /\ v82.plain = true) (hvl : (∀ k, v80.offLp k = v80) /\ (∀ k, v81.offLp k = v81) /\ (∀ k, v82.offLp k = v82)) {n : Nat} (hn : ps.length = n) (hl : n < 1000000000) :
  ∀ (zs : List Wt) (j : Nat), ps.drop j = zs -> j <= n ->
  (y.k ∈ zs.map (·.k) -> R .ret [(2, .b false)] [] T) ->
  (y.k ∉ zs.map (·.k) -> R (.exit 6) [(1, .lp 1 0), (8, .lp 8 0), (80, v80), (81, v81), (82, v82), (90, .fz n (ps.flatMap wtC) cap), (91, .i .i64 n), (92, .i .i64 n), (93, .b false)] [(1, tc), (8, wtC y)] T) ->
  AW prog q4q R [(1, .lp 1 0), (8, .lp 8 0), (80, v80), (81, v81), (82, v82), (90, .fz n (ps.flatMap wtC) cap), (91, .i .i64 n), (92, .i .i64 j)] [(1, tc), (8, wtC y)] T := by
 subst hn
 obtain ⟨u1, u2, u3⟩ := hv
 obtain ⟨u4, u5, u6⟩ := hvl
 intro zs
 induction zs with
 | nil =>
  intro j hk hle h1 h2
  have hk' := O9 hk hle
  refine Q2 hR ?_
  unfold q3t
  simp -implicitDefEqProofs -dsimp only [go_sem, seval, hk', Int.lt_irrefl]
  rw [hk'] at h2
  exact h2 (by simp)
 | cons z zs ih =>
  intro j hk hle h1 h2
  obtain ⟨hlt, hy, hk'⟩ := Q5 hk
  have hc := V0 q5n hy
  have hc5 : j * 3 + 3 <= (ps.flatMap wtC).length := by rw [K8 q5n]; omega
  have hws : IntKind.i64.wrap ((j : Int) + 1) = ((j + 1 : Nat) : Int) := K9 (by omega)
  refine O2 (l := q4q) rfl hR ?_
  unfold q3t
  simp -implicitDefEqProofs -dsimp only [go_sem, seval, Int.ofNat_lt, hlt, Int.natCast_nonneg, Int.toNat_natCast, hc, hc5, wtC, List.cons_append, List.nil_append, u4, u5, u6]
  refine J2 (fun h => ?_) (fun h => ?_)
  ·simp -implicitDefEqProofs -dsimp only [go_sem, seval, h]
   exact h1 (by simp [of_decide_eq_true h])
  ·have hne := of_decide_eq_false h
   simp -implicitDefEqProofs -dsimp only [go_sem, seval, h, hws, u4, u5, u6]
   have := ih (j + 1) hk' hlt (fun h' => h1 (by simp only [List.map_cons, List.mem_cons]; exact .inr h')) (fun h' => h2 (by simp only [List.map_cons, List.mem_cons, not_or]; exact ⟨fun e => hne e.symm, h'⟩))
   simpa only [wtC] using this
theorem zcz {R : Y5} (hR : ExtR R) {T : Tab} {cl sq : Int} {pl : Bool} {rs : List Rd} {ws : List Wt} {k1 k2 : Option Nat} (hl : rs.length < 1000000000) (hs : ∀ r ∈ rs, Len r.k.length) :
  ∀ (ys : List Rd) (k : Nat), rs.drop k = ys -> k <= rs.length ->
  (qf0 ((rs.take k).map (·.k)) (ys.map (·.k)) = false -> R .ret [(2, .b false)] [] T) ->
  (qf0 ((rs.take k).map (·.k)) (ys.map (·.k)) = true -> R (.exit 0) [(1, .lp 1 0), (52, .fz rs.length (rs.flatMap rdC) k1), (53, .i .i64 rs.length), (54, .i .i64 rs.length), (55, .b false)] [(1, (Tx.mk cl sq pl rs ws).cells k1 k2)] T) ->
  AW prog q4p R [(1, .lp 1 0), (52, .fz rs.length (rs.flatMap rdC) k1), (53, .i .i64 rs.length), (54, .i .i64 k)] [(1, (Tx.mk cl sq pl rs ws).cells k1 k2)] T := by
 intro ys
 induction ys with
 | nil =>
  intro k hk hle h1 h2
  have hk' := O9 hk hle
  refine Q2 hR ?_
  unfold q3s
  simp -implicitDefEqProofs -dsimp only [go_sem, seval, hk', Int.lt_irrefl]
  have := h2 rfl
  rw [hk'] at this
  exact this
 | cons y ys ih =>
  intro k hk hle h1 h2
  obtain ⟨hlt, hy, hk'⟩ := Q5 hk
  have hc := V0 q7n hy
  have hc5 : k * 2 + 2 <= (rs.flatMap rdC).length := by rw [K8 q7n]; omega
  have hws : IntKind.i64.wrap ((k : Int) + 1) = ((k + 1 : Nat) : Int) := K9 (by omega)
  have hlen : (rs.take k).length = k := by simp; omega
  have hyl : Len y.k.length := hs y (List.mem_of_getElem? hy)
  have e2 : k * 2 <= rs.length * 2 := by omega
  refine O2 (l := q4p) rfl hR ?_
  unfold q3s
  simp -implicitDefEqProofs -dsimp only [go_sem, seval, Int.ofNat_lt, hlt, hle, Int.natCast_nonneg, Int.toNat_natCast, Nat.zero_le, hc, hc5, rdC, Tx.cells, List.cons_append, List.nil_append]
  simp only [quj q7n]
  have hmem : decide (y.k ∈ (rs.take k).map (·.k)) = false -> qf0 ((rs.take k).map (·.k)) ((y :: ys).map (·.k)) = (qdh y.k && qf0 ((rs.take (k + 1)).map (·.k)) (ys.map (·.k))) := fun h => by
   simp only [List.map_cons, qf0, h, Bool.not_false, Bool.and_true]
   rw [Z9 hy, List.map_append, List.map_cons, List.map_nil]
  refine z62 (T := T) (tc := (Tx.mk cl sq pl rs ws).cells k1 k2) (y := y) (ps := rs.take k) (v52 := .fz rs.length (rs.flatMap rdC) k1) (v53 := .i .i64 rs.length) (v54 := .i .i64 k) (by repeat' (first | exact N5 _ _ | assumption | apply N4 | apply K7 | apply U1)) ⟨rfl, rfl, rfl⟩ ⟨fun _ => rfl, fun _ => rfl, fun _ => rfl⟩ hlen (by omega) (rs.take k) 0 rfl (by omega) (fun hm => ?_) (fun hm => ?_)
  ·simp -implicitDefEqProofs -dsimp only [go_sem, seval]
   exact h1 (by simp only [List.map_cons, qf0, decide_eq_true hm, Bool.not_true, Bool.and_false, Bool.false_and])
  ·rw [hmem (decide_eq_false hm)] at h1 h2
   simp -implicitDefEqProofs -dsimp only [go_sem, seval, rdC, Tx.cells, ↓J0 _ _ q4e]
   refine cpn (qic y.k hyl) ?_
   simp -implicitDefEqProofs -dsimp only [go_sem, seval]
   refine J2 (fun h => ?_) (fun h => ?_)
   ·have hv : qdh y.k = false := by simpa using h
    simp -implicitDefEqProofs -dsimp only [go_sem, seval, h]
    exact h1 (by rw [hv, Bool.false_and])
   ·have hv : qdh y.k = true := by simpa using h
    rw [hv, Bool.true_and] at h1 h2
    simp -implicitDefEqProofs -dsimp only [go_sem, seval, h, hws]
    have := ih (k + 1) hk' hlt h1 h2
    simpa only [Tx.cells] using this
theorem zd0 {R : Y5} (hR : ExtR R) {T : Tab} {cl sq : Int} {pl : Bool} {rs : List Rd} {ws : List Wt} {k1 k2 : Option Nat} (hl : ws.length < 1000000000) (hs : ∀ r ∈ ws, Len r.k.length) (hs2 : ∀ r ∈ ws, Len r.v.length) :
  ∀ (ys : List Wt) (k : Nat), ws.drop k = ys -> k <= ws.length ->
  ((qf0 ((ws.take k).map (·.k)) (ys.map (·.k)) && ys.all wOk) = false -> R .ret [(2, .b false)] [] T) ->
  ((qf0 ((ws.take k).map (·.k)) (ys.map (·.k)) && ys.all wOk) = true -> R (.exit 4) [(1, .lp 1 0), (80, .fz ws.length (ws.flatMap wtC) k2), (81, .i .i64 ws.length), (82, .i .i64 ws.length), (83, .b false)] [(1, (Tx.mk cl sq pl rs ws).cells k1 k2)] T) ->
  AW prog q4r R [(1, .lp 1 0), (80, .fz ws.length (ws.flatMap wtC) k2), (81, .i .i64 ws.length), (82, .i .i64 k)] [(1, (Tx.mk cl sq pl rs ws).cells k1 k2)] T := by
 intro ys
 induction ys with
 | nil =>
  intro k hk hle h1 h2
  have hk' := O9 hk hle
  refine Q2 hR ?_
  unfold q3u
  simp -implicitDefEqProofs -dsimp only [go_sem, seval, hk', Int.lt_irrefl]
  have := h2 rfl
  rw [hk'] at this
  exact this
 | cons y ys ih =>
  intro k hk hle h1 h2
  obtain ⟨hlt, hy, hk'⟩ := Q5 hk
  have hc := V0 q5n hy
  have hc5 : k * 3 + 3 <= (ws.flatMap wtC).length := by rw [K8 q5n]; omega
  have hws : IntKind.i64.wrap ((k : Int) + 1) = ((k + 1 : Nat) : Int) := K9 (by omega)
  have hlen : (ws.take k).length = k := by simp; omega
  have hyl : Len y.k.length := hs y (List.mem_of_getElem? hy)
  have hyv : Len y.v.length := hs2 y (List.mem_of_getElem? hy)
  refine O2 (l := q4r) rfl hR ?_
  unfold q3u
  simp -implicitDefEqProofs -dsimp only [go_sem, seval, Int.ofNat_lt, hlt, hle, Int.natCast_nonneg, Int.toNat_natCast, Nat.zero_le, hc, hc5, wtC, Tx.cells, List.cons_append, List.nil_append]
  simp only [quj q5n]
  have hmem : decide (y.k ∈ (ws.take k).map (·.k)) = false -> (qf0 ((ws.take k).map (·.k)) ((y :: ys).map (·.k)) && (y :: ys).all wOk) = (qdh y.k && wOk y && (qf0 ((ws.take (k + 1)).map (·.k)) (ys.map (·.k)) && ys.all wOk)) := fun h => by
   simp only [List.map_cons, qf0, h, Bool.not_false, Bool.and_true, List.all_cons]
   rw [Z9 hy, List.map_append, List.map_cons, List.map_nil]
   cases qdh y.k <;> cases wOk y <;> simp
  refine z63 (T := T) (tc := (Tx.mk cl sq pl rs ws).cells k1 k2) (y := y) (ps := ws.take k) (v80 := .fz ws.length (ws.flatMap wtC) k2) (v81 := .i .i64 ws.length) (v82 := .i .i64 k) (by repeat' (first | exact N5 _ _ | assumption | apply N4 | apply K7 | apply U1)) ⟨rfl, rfl, rfl⟩ ⟨fun _ => rfl, fun _ => rfl, fun _ => rfl⟩ hlen (by omega) (ws.take k) 0 rfl (by omega) (fun hm => ?_) (fun hm => ?_)
  ·simp -implicitDefEqProofs -dsimp only [go_sem, seval]
   exact h1 (by simp only [List.map_cons, qf0, decide_eq_true hm, Bool.not_true, Bool.and_false, Bool.false_and])
  ·rw [hmem (decide_eq_false hm)] at h1 h2
   simp -implicitDefEqProofs -dsimp only [go_sem, seval, wtC, Tx.cells, ↓J0 _ _ q4e]
   refine cpn (qic y.k hyl) ?_
   rcases hv : qdh y.k with _ | _
   ·simp -implicitDefEqProofs -dsimp only [go_sem, seval, Bool.not_false, Bool.not_true, ↓N1, U6, true_and, decide_true, decide_false]
    exact h1 (by rw [hv, Bool.false_and, Bool.false_and])
   rw [hv, Bool.true_and] at h1 h2
   simp -implicitDefEqProofs -dsimp only [go_sem, seval, Bool.not_false, Bool.not_true, ↓N1, U6, true_and, decide_true, decide_false, ↓J0 _ _ qg3]
   refine cpn (qt1 y.v hyv) ?_
   rcases hvv : qvz y.v with _ | _
   ·simp -implicitDefEqProofs -dsimp only [go_sem, seval, Bool.not_false, Bool.not_true, ↓N1, U6, true_and, decide_true, decide_false]
    exact h1 (by rw [wOk, hvv, Bool.false_and, Bool.false_and])
   rcases hg : y.g with _ | _
   ·have hw : wOk y = true := by rw [wOk, hvv, hg]; rfl
    rw [hw, Bool.true_and] at h1 h2
    simp -implicitDefEqProofs -dsimp only [go_sem, seval, Bool.not_false, Bool.not_true, ↓N1, U6, true_and, decide_true, decide_false, hws]
    have := ih (k + 1) hk' hlt h1 h2
    simpa only [Tx.cells] using this
   rcases he : decide (y.v = []) with _ | _
   ·have hw : wOk y = false := by rw [wOk, hvv, hg, he]; rfl
    simp -implicitDefEqProofs -dsimp only [go_sem, seval, he, Bool.not_false, Bool.not_true, ↓N1, U6, true_and, decide_true, decide_false, hws]
    exact h1 (by rw [hw, Bool.false_and])
   ·have hw : wOk y = true := by rw [wOk, hvv, hg, he]; rfl
    rw [hw, Bool.true_and] at h1 h2
    simp -implicitDefEqProofs -dsimp only [go_sem, seval, he, Bool.not_false, Bool.not_true, ↓N1, U6, true_and, decide_true, decide_false, hws]
    have := ih (k + 1) hk' hlt h1 h2
    simpa only [Tx.cells] using this
theorem qei (t : Tx) (k1 k2 : Option Nat) (hf : t.Fine) (hsq : 0 <= t.sq) : PCalls prog I2 [.agg (t.cells k1 k2)] (.b (qgd t)) := by
 obtain ⟨cl, sq, pl, rs, ws⟩ := t
 have hr : rs.length < 1000000000 := hf.r
 have hw : ws.length < 1000000000 := hf.w
 refine K5 Q7 qfy (by simp) fun T => ?_
 have w1 : IntKind.i64.wrap ((rs.length : Int) + ws.length) = (rs.length : Int) + ws.length := q02 (by unfold I64; omega)
 have d0 : decide ((rs.length : Int) = 0) = !decide (0 < (rs.length : Int)) := by
  by_cases h : rs.length = 0
  ·rw [h]; rfl
  ·rw [decide_eq_false (by omega), decide_eq_true (by omega)]; rfl
 unfold qa2
 have hend : ∀ b, (qgd ⟨cl, sq, pl, rs, ws⟩ = b) -> qnz (.b b) (fun v T' => v = .b (qgd ⟨cl, sq, pl, rs, ws⟩) /\ T' = T) T := fun b h => K1 (by rw [h])
 cases pl
 all_goals
  simp -implicitDefEqProofs -dsimp only [go_sem, seval, Tx.cells, ↓J0 _ _ N7]
  refine cpn (qlo cl sq hsq) ?_
  rcases hid : qp6 cl sq with _ | _
 all_goals
  rcases h8 : decide (8 < (rs.length : Int)) with _ | _
 all_goals
  rcases h9 : decide (8 < (ws.length : Int)) with _ | _
 all_goals
  rcases h10 : decide ((rs.length : Int) + ws.length = 0) with _ | _
 all_goals
  rcases h11 : decide (0 < (rs.length : Int)) with _ | _
 all_goals
  rcases h12 : decide ((ws.length : Int) = 1) with _ | _
 all_goals
  simp -implicitDefEqProofs -dsimp only [go_sem, seval, w1, hid, h8, h9, h10, h11, h12, decide_true, decide_false, Bool.not_true, Bool.not_false]
 all_goals first
  | exact hend false (by simp only [qgd, hid, h8, h9, h10, h11, h12, d0, Bool.not_true, Bool.not_false, Bool.true_and, Bool.false_and, Bool.and_false, Bool.and_true, Bool.or_true, Bool.true_or, Bool.false_or, Bool.or_false])
  | (refine zcz (T := T) (by repeat' (first | exact N5 _ _ | assumption | apply N4 | apply K7 | apply U1)) hr hf.rk rs 0 rfl (by omega) (fun h => ?_) (fun h => ?_)
     ·simp -implicitDefEqProofs -dsimp only [go_sem, seval]
      refine hend false ?_
      rw [List.take_zero, List.map_nil] at h
      simp only [qgd, hid, h8, h9, h10, h11, h12, d0, h, Bool.not_true, Bool.not_false, Bool.true_and, Bool.false_and, Bool.and_false, Bool.and_true, Bool.or_true, Bool.true_or, Bool.false_or, Bool.or_false]
     ·simp -implicitDefEqProofs -dsimp only [go_sem, seval, Tx.cells]
      refine zd0 (T := T) (by repeat' (first | exact N5 _ _ | assumption | apply N4 | apply K7 | apply U1)) hw hf.wk hf.wv ws 0 rfl (by omega) (fun h' => ?_) (fun h' => ?_) <;> simp -implicitDefEqProofs -dsimp only [go_sem, seval]
      all_goals
       refine hend _ ?_
       rw [List.take_zero, List.map_nil] at h h'
       simp only [qgd, hid, h8, h9, h10, h11, h12, d0, h, h', Bool.not_true, Bool.not_false, Bool.true_and, Bool.false_and, Bool.and_false, Bool.and_true, Bool.or_true, Bool.true_or, Bool.false_or, Bool.or_false])
end Go.Aw
