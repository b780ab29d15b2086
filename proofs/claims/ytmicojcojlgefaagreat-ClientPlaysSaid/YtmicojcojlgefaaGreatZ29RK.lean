import Derived.Test.YtmicojcojlgefaaGreatZ29S12S
import Derived.Test.YtmicojcojlgefaaGreatZ29R28Z
import Derived.Test.YtmicojcojlgefaaGreatZ29V28X
namespace Go.Aw
open Go
open Go.Proofs.Tryz (prog)
set_option linter.all false
set_option maxHeartbeats 4000000
end Go.Aw
namespace Go.Aw
open Go
open Go.Proofs.Tryz (prog)
set_option linter.all false
set_option maxHeartbeats 4000000
theorem z3h {R : Y5} (hR : ExtR R) {T : Tab} {xs : List Rd} {c1 c2 : Option Nat} {a1 a2 a3 a4 b1 b2 b3 b4 : AV} (hl : xs.length < 1000000000) : ∀ (ys : List Rd) (k : Nat), xs.drop k = ys -> k <= xs.length ->
  (R (.exit 0) [(2, .lp 2 0), (3, .lp 3 0), (39, .i .i64 xs.length), (40, .i .i64 xs.length), (41, .b false)] [(2, [a1, a2, a3, .fz xs.length (xs.flatMap rdC) c1, a4]), (3, [b1, b2, b3, .fz xs.length (xs.flatMap rdC) c2, b4])] T) ->
  AW prog q5f R [(2, .lp 2 0), (3, .lp 3 0), (39, .i .i64 xs.length), (40, .i .i64 k)] [(2, [a1, a2, a3, .fz xs.length (xs.flatMap rdC) c1, a4]), (3, [b1, b2, b3, .fz xs.length (xs.flatMap rdC) c2, b4])] T := by
 intro ys
 induction ys with
 | nil =>
  intro k hk hle h2
  have hk' := O9 hk hle
  refine Q2 hR ?_
  unfold q29
  simp -implicitDefEqProofs -dsimp only [go_sem, seval, hk', Int.lt_irrefl]
  rw [hk'] at h2
  exact h2
 | cons y ys ih =>
  intro k hk hle h2
  obtain ⟨hlt, hy, hk'⟩ := Q5 hk
  have hc := V0 q7n hy
  have hc5 : k * 2 + 2 <= (xs.flatMap rdC).length := by rw [K8 q7n]; omega
  refine O2 (l := q5f) rfl hR ?_
  unfold q29
  simp -implicitDefEqProofs -dsimp only [go_sem, seval, Int.ofNat_lt, hlt, Int.natCast_nonneg, Int.toNat_natCast, hc, hc5, rdC, List.cons_append, List.nil_append, U2, K6, decide_true, Bool.and_true]
  rw [K9 (by omega)]
  exact ih (k + 1) hk' hlt h2
theorem z3i {R : Y5} (hR : ExtR R) {T : Tab} {xs : List Wt} {c1 c2 : Option Nat} {a1 a2 a3 a4 b1 b2 b3 b4 : AV} (hl : xs.length < 1000000000) : ∀ (ys : List Wt) (k : Nat), xs.drop k = ys -> k <= xs.length ->
  (R (.exit 2) [(2, .lp 2 0), (3, .lp 3 0), (57, .i .i64 xs.length), (58, .i .i64 xs.length), (59, .b false)] [(2, [a1, a2, a3, a4, .fz xs.length (xs.flatMap wtC) c1]), (3, [b1, b2, b3, b4, .fz xs.length (xs.flatMap wtC) c2])] T) ->
  AW prog q5g R [(2, .lp 2 0), (3, .lp 3 0), (57, .i .i64 xs.length), (58, .i .i64 k)] [(2, [a1, a2, a3, a4, .fz xs.length (xs.flatMap wtC) c1]), (3, [b1, b2, b3, b4, .fz xs.length (xs.flatMap wtC) c2])] T := by
 intro ys
 induction ys with
 | nil =>
  intro k hk hle h2
  have hk' := O9 hk hle
  refine Q2 hR ?_
  unfold q2a
  simp -implicitDefEqProofs -dsimp only [go_sem, seval, hk', Int.lt_irrefl]
  rw [hk'] at h2
  exact h2
 | cons y ys ih =>
  intro k hk hle h2
  obtain ⟨hlt, hy, hk'⟩ := Q5 hk
  have hc := V0 q5n hy
  have hc5 : k * 3 + 3 <= (xs.flatMap wtC).length := by rw [K8 q5n]; omega
  have hbb : ∀ b : Bool, (b == b) = true := fun b => by cases b <;> rfl
  refine O2 (l := q5g) rfl hR ?_
  unfold q2a
  simp -implicitDefEqProofs -dsimp only [go_sem, seval, Int.ofNat_lt, hlt, Int.natCast_nonneg, Int.toNat_natCast, hc, hc5, wtC, List.cons_append, List.nil_append, U2, K6, decide_true, Bool.and_true, hbb]
  rw [K9 (by omega)]
  exact ih (k + 1) hk' hlt h2
theorem qi5 (t : Tx) (k1 k2 k3 k4 : Option Nat) (hf : t.Fine) : PCalls prog q01 [.agg (t.cells k1 k2), .agg (t.cells k3 k4)] (.b true) := by
 refine K5 Q7 qab (by simp) fun T => ?_
 have hbb : ∀ b : Bool, (b == b) = true := fun b => by cases b <;> rfl
 unfold q66
 simp -implicitDefEqProofs -dsimp only [go_sem, seval, Tx.cells, U2, K6, decide_true, decide_false, Bool.and_true, hbb, ↓N1, U6]
 refine z3h (T := T) (by repeat' (first | exact N5 _ _ | assumption | apply N4 | apply K7 | apply U1)) hf.r t.rs 0 rfl (by omega) ?_
 simp -implicitDefEqProofs -dsimp only [go_sem, seval]
 refine z3i (T := T) (by repeat' (first | exact N5 _ _ | assumption | apply N4 | apply K7 | apply U1)) hf.w t.ws 0 rfl (by omega) ?_
 simp -implicitDefEqProofs -dsimp only [go_sem, seval]
 exact K1 rfl
end Go.Aw
namespace Go.Aw
open Go
open Go.Proofs.Tryz (prog)
set_option linter.all false
set_option maxHeartbeats 4000000
theorem z12 {R : Y5} (hR : ExtR R) {T : Tab} {xs : List Rd} {cap : Option Nat} {tc : List AV} (hl : xs.length < 1000000000) : ∀ (ys : List Rd) (k : Nat), xs.drop k = ys -> k <= xs.length -> ∀ (os : List Bs) (v : AV) (T1 : Tab), os.length <= k ->
  Own T 1 v os.length (qez os) T1 ->
  (∀ v T1, Own T 1 v (os ++ ys.map (·.k)).length (qez (os ++ ys.map (·.k))) T1 -> R (.exit 0) [(1, .lp 1 0), (3, v), (9, .fz xs.length (xs.flatMap rdC) cap), (10, .i .i64 xs.length), (11, .i .i64 xs.length), (12, .b false)] [(1, tc)] T1) ->
  AW prog q8n R [(1, .lp 1 0), (3, v), (9, .fz xs.length (xs.flatMap rdC) cap), (10, .i .i64 xs.length), (11, .i .i64 k)] [(1, tc)] T1 := by
 intro ys
 induction ys with
 | nil =>
  intro k hk hle os v T1 hx ho h2
  obtain ⟨p1, p2, p3, p4, p5, p6⟩ := ho.form
  have hk' := O9 hk hle
  refine Q2 hR ?_
  unfold q7i
  simp -implicitDefEqProofs -dsimp only [go_sem, seval, hk', Int.lt_irrefl, p1, p2, p3, p4, p5, p6]
  rw [hk'] at h2
  refine h2 _ _ ?_
  simpa only [List.map_nil, List.append_nil] using ho
 | cons y ys ih =>
  intro k hk hle os v T1 hx ho h2
  obtain ⟨hlt, hy, hk'⟩ := Q5 hk
  obtain ⟨p1, p2, p3, p4, p5, p6⟩ := ho.form
  have hc := V0 q7n hy
  have hc5 : k * 2 + 2 <= (xs.flatMap rdC).length := by rw [K8 q7n]; omega
  refine O2 (l := q8n) rfl hR ?_
  unfold q7i
  simp -implicitDefEqProofs -dsimp only [go_sem, seval, Int.ofNat_lt, hlt, Int.natCast_nonneg, Int.toNat_natCast, hc, hc5, rdC, List.cons_append, List.nil_append, p1, p2, p3, p4, p5, p6]
  refine ho.app (m := 1) (news := [.s y.k]) rfl rfl (by omega) (by omega) fun v2 T2 ho => J1 ?_
  obtain ⟨p1, p2, p3, p4, p5, p6⟩ := ho.form
  simp -implicitDefEqProofs -dsimp only [go_sem, seval, p1, p2, p3, p4, p5, p6]
  rw [K9 (by omega)]
  have e : qez os ++ [.s y.k] = qez (os ++ [y.k]) := by simp [qez]
  rw [e] at ho
  refine ih (k + 1) hk' hlt (os ++ [y.k]) v2 T2 (by simp; omega) (by simpa using ho) fun v T1 ho => h2 v T1 ?_
  simpa only [List.map_cons, List.append_assoc, List.cons_append, List.nil_append] using ho
theorem z13 {R : Y5} (hR : ExtR R) {T : Tab} {xs : List Wt} {cap : Option Nat} (hl : xs.length < 1000000000) : ∀ (ys : List Wt) (k : Nat), xs.drop k = ys -> k <= xs.length -> ∀ (os : List Bs) (v : AV) (T1 : Tab), os.length <= 1000000000 + k ->
  Own T 1 v os.length (qez os) T1 ->
  (∀ v T1, Own T 1 v (os ++ ys.map (·.k)).length (qez (os ++ ys.map (·.k))) T1 -> R (.exit 2) [(3, v), (22, .fz xs.length (xs.flatMap wtC) cap), (23, .i .i64 xs.length), (24, .i .i64 xs.length), (25, .b false)] [] T1) ->
  AW prog q8o R [(3, v), (22, .fz xs.length (xs.flatMap wtC) cap), (23, .i .i64 xs.length), (24, .i .i64 k)] [] T1 := by
 intro ys
 induction ys with
 | nil =>
  intro k hk hle os v T1 hx ho h2
  obtain ⟨p1, p2, p3, p4, p5, p6⟩ := ho.form
  have hk' := O9 hk hle
  refine Q2 hR ?_
  unfold q7j
  simp -implicitDefEqProofs -dsimp only [go_sem, seval, hk', Int.lt_irrefl, p1, p2, p3, p4, p5, p6]
  rw [hk'] at h2
  refine h2 _ _ ?_
  simpa only [List.map_nil, List.append_nil] using ho
 | cons y ys ih =>
  intro k hk hle os v T1 hx ho h2
  obtain ⟨hlt, hy, hk'⟩ := Q5 hk
  obtain ⟨p1, p2, p3, p4, p5, p6⟩ := ho.form
  have hc := V0 q5n hy
  have hc5 : k * 3 + 3 <= (xs.flatMap wtC).length := by rw [K8 q5n]; omega
  refine O2 (l := q8o) rfl hR ?_
  unfold q7j
  simp -implicitDefEqProofs -dsimp only [go_sem, seval, Int.ofNat_lt, hlt, Int.natCast_nonneg, Int.toNat_natCast, hc, hc5, wtC, List.cons_append, List.nil_append, p1, p2, p3, p4, p5, p6]
  refine ho.app (m := 1) (news := [.s y.k]) rfl rfl (by omega) (by omega) fun v2 T2 ho => J1 ?_
  obtain ⟨p1, p2, p3, p4, p5, p6⟩ := ho.form
  simp -implicitDefEqProofs -dsimp only [go_sem, seval, p1, p2, p3, p4, p5, p6]
  rw [K9 (by omega)]
  have e : qez os ++ [.s y.k] = qez (os ++ [y.k]) := by simp [qez]
  rw [e] at ho
  refine ih (k + 1) hk' hlt (os ++ [y.k]) v2 T2 (by simp; omega) (by simpa using ho) fun v T1 ho => h2 v T1 ?_
  simpa only [List.map_cons, List.append_assoc, List.cons_append, List.nil_append] using ho
theorem z3j (t : Tx) (k1 k2 : Option Nat) (hf : t.Fine) : PCalls prog q59 [.agg (t.cells k1 k2)] (.fz t.keys.length (qez t.keys) none) := by
 refine K5 Q7 qlh (by simp) fun T => ?_
 unfold qd9
 simp -implicitDefEqProofs -dsimp only [go_sem, seval, Tx.cells]
 refine z12 (T := T) (by repeat' (first | exact N5 _ _ | assumption | apply N4 | apply K7 | apply U1)) hf.r t.rs 0 rfl (by omega) [] _ _ (by simp) (.nil ..) (fun v1 T1 o1 => ?_)
 obtain ⟨p1, p2, p3, p4, p5, p6⟩ := o1.form
 simp -implicitDefEqProofs -dsimp only [go_sem, seval, p1, p2, p3, p4, p5, p6]
 have h1 := hf.r
 refine z13 (T := T) (by repeat' (first | exact N5 _ _ | assumption | apply N4 | apply K7 | apply U1)) hf.w t.ws 0 rfl (by omega) ([] ++ t.rs.map (·.k)) _ _ (by simp; omega) o1 (fun v2 T2 o2 => ?_)
 obtain ⟨q1, q2, q3, q4, q5, q6⟩ := o2.form
 simp -implicitDefEqProofs -dsimp only [go_sem, seval, q1, q2, q3, q4, q5, q6]
 exact o2.fzn
theorem qyg {T : Tab} {id : Nat} {l : List (Cf × AV)} (hR : RRt T id l) (t : Tx) (k1 k2 : Option Nat) (hf : t.Fine) (hsq : 0 <= t.sq) (hr : t.rs.length <= 400000000) (hw : t.ws.length <= 400000000) (x : Nat) (c : Cf) (v : AV) (y : Int)
  (hx : qgd t = true -> (q4f t.keys l.length)[0]? = some (x : Int)) (hc : l[x]? = some (c, v)) (hy : c.ch[0]? = some y) :
  ACalls prog q19 [.ptr id 0, .agg (t.cells k1 k2)] T (fun r T' => r = .i .i64 (if qgd t = true then y else -1) /\ T' = T) := by
 obtain ⟨rL, h1, h2, h3⟩ := hR
 have c1 := qei t k1 k2 hf hsq
 have c2 := z3j t k1 k2 hf
 have c3 := qy9 t.keys none l.length (by simp [Tx.keys]; omega) (Tx.keys_len hf)
 simp only [Tx.cells] at c1 c2
 refine U9 Q7 qd5 (by simp) ?_
 unfold q7b
 simp -implicitDefEqProofs -dsimp only [go_sem, seval, Tx.cells, ↓J0 _ _ q2y]
 refine cpn c1 ?_
 rcases hk : qgd t with _ | _
 ·simp -implicitDefEqProofs -dsimp only [go_sem, seval, hk]
  exact K1 rfl
 have hx' := hx hk
 have hlt : x < l.length := (List.getElem?_eq_some_iff.1 hc).1
 have hcell := V0 qi4 hc
 have hget : (l.flatMap rvC)[x * 4 + 2]? = some v := by
  have := congrArg (fun l : List AV => l[2]?) hcell
  simpa [List.getElem?_drop, rvC] using this
 have hmem : (c, v) ∈ l := List.mem_of_getElem? hc
 have hv := h3 _ hmem
 simp only at hv
 have hpx := qun hy
 rw [Nat.zero_mul] at hpx
 have hy0 : 0 < c.ch.length := (List.getElem?_eq_some_iff.1 hy).1
 have hS0 : 0 < (q4f t.keys l.length).length := (List.getElem?_eq_some_iff.1 hx').1
 have hI : (q9k (q4f t.keys l.length))[0]? = some (.i .i64 x) := by simp [q9k, hx']
 have b1 : (0 : Int) < (q4f t.keys l.length).length := by omega
 have b2 : (0 : Int) < c.ch.length := by omega
 simp -implicitDefEqProofs -dsimp only [go_sem, seval, hk, h1, ↓J0 _ _ qli]
 refine CallK.pure c2 (qk4 (fun _ => ⟨?_, ?_, trivial⟩) ?_)
 ·simp -implicitDefEqProofs -dsimp only [go_sem, seval, qdk, gdd, h1]
 ·simp -implicitDefEqProofs -dsimp only [go_sem, seval, qdk, gdd, h1]
 simp -implicitDefEqProofs -dsimp only [go_sem, seval, ↓J0 _ _ qi0]
 refine CallK.pure c3 (qk4 (fun _ => ⟨?_, trivial⟩) ?_)
 ·simp -implicitDefEqProofs -dsimp only [go_sem, seval, qdk, gdd, h1]
 rcases hv with ⟨cap, rfl⟩ | ⟨i, rfl, hi⟩
 ·simp -implicitDefEqProofs -dsimp only [go_sem, seval, h2, b1, b2, hI, hlt, hget, Int.ofNat_lt, Int.natCast_nonneg, Int.toNat_natCast, Int.toNat_zero, Int.le_refl, hpx]
  exact K1 rfl
 ·simp -implicitDefEqProofs -dsimp only [go_sem, seval, h2, b1, b2, hI, hlt, hget, Int.ofNat_lt, Int.natCast_nonneg, Int.toNat_natCast, Int.toNat_zero, Int.le_refl, hi, hpx]
  exact K1 rfl
end Go.Aw
