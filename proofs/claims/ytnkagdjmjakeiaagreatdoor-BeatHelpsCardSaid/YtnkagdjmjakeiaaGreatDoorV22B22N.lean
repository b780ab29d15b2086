import Derived.Test.YtnkagdjmjakeiaaGreatDoorV22B22M
namespace Go.Aw
open Go
open Go.Proofs.Tryz (prog)
set_option linter.all false
set_option maxHeartbeats 4000000
structure Ev where
 k : Int
 n : Int
 x : Be
def evC (e : Ev) : List AV := [.i .i64 e.k, .i .i64 e.n, .i .i64 e.x.a, .i .u64 e.x.b, .b e.x.c, .i .i64 e.x.d]
theorem qdj (e : Ev) : (evC e).length = 6 := rfl
def q6p (lim : Int) (l : List Wr) (e : Ev) : List Wr := if e.k = 0 then l.map (q2f lim) else if e.k = 1 then q4s l e.n e.x else l
def qbv (lim : Int) (es : List Ev) : List Wr := es.foldl (q6p lim) qhn
theorem qp0 {lim : Int} {w : Wr} (h1 : 1 <= lim) (h : 0 <= w.g /\ w.g <= lim + 1) : 0 <= (q2f lim w).g /\ (q2f lim w).g <= lim + 1 := by
 unfold q2f; split
 ·simp only; omega
 ·exact h
theorem WOk.tick {lim : Int} {l : List Wr} (h : WOk lim l) : WOk lim (l.map (q2f lim)) := ⟨by rw [List.length_map]; exact h.n, h.l1, h.l2, fun w hw => by
 obtain ⟨w0, h0, rfl⟩ := List.mem_map.1 hw
 exact qp0 h.l1 (h.g _ h0)⟩
theorem WOk.heard {lim : Int} {l : List Wr} (h : WOk lim l) (n : Int) (b : Be) : WOk lim (q4s l n b) := by
 unfold q4s; split
 ·refine ⟨by rw [List.length_set]; exact h.n, h.l1, h.l2, fun w hw => ?_⟩
  rcases List.mem_or_eq_of_mem_set hw with h' | rfl
  ·exact h.g _ h'
  ·have := h.l1; simp only; omega
 ·exact h
theorem WOk.step {lim : Int} {l : List Wr} (h : WOk lim l) (e : Ev) : WOk lim (q6p lim l e) := by
 unfold q6p; split
 ·exact h.tick
 ·split
  ·exact h.heard _ _
  ·exact h
theorem WOk.fold {lim : Int} : ∀ {es : List Ev} {l : List Wr}, WOk lim l -> WOk lim (es.foldl (q6p lim) l)
 | [], _, h => h
 | e :: es, _, h => WOk.fold (es := es) (h.step e)
theorem qp1 {R : Y5} (hR : ExtR R) {id : Nat} {lim : Int} {es : List Ev} {cap : Option Nat} (hl : Len es.length) : ∀ (ys : List Ev) (k : Nat), es.drop k = ys -> k <= es.length -> ∀ (l : List Wr) (T : Tab), WOk lim l -> Wt T id lim l ->
  R (.exit 0) [(5, .ptr id 0), (10, .fz es.length (es.flatMap evC) cap), (11, .i .i64 es.length), (12, .i .i64 es.length), (13, .b false)] [] (T.put id (.row 49 (waC lim (ys.foldl (q6p lim) l)))) ->
  AW prog q11 R [(5, .ptr id 0), (10, .fz es.length (es.flatMap evC) cap), (11, .i .i64 es.length), (12, .i .i64 k)] [] T := by
 intro ys
 induction ys with
 | nil =>
  intro k hk hle l T hw hT h2
  have hk' := q18 hk hle
  rw [List.foldl_nil, Tab.put_self hT] at h2
  refine G9 hR ?_
  unfold q0p
  simp -implicitDefEqProofs -dsimp only [go_sem, seval, hk', Int.lt_irrefl]
  rw [hk'] at h2
  exact h2
 | cons y ys ih =>
  intro k hk hle l T hw hT h2
  obtain ⟨hlt, hy, hk'⟩ := q1e hk
  have hcell := qfg qdj hy
  have hlen : k * 6 + 6 <= (es.flatMap evC).length := by rw [q5s qdj]; omega
  have hl' := hl
  unfold Len at hl
  have hws : IntKind.i64.wrap ((k : Int) + 1) = ((k + 1 : Nat) : Int) := Q0 (by omega)
  have hgo := fun l' T' (hw' : WOk lim l') (hT' : Wt T' id lim l') (he : T'.put id (.row 49 (waC lim (ys.foldl (q6p lim) l'))) = T.put id (.row 49 (waC lim (ys.foldl (q6p lim) l')))) (hs : q6p lim l y = l') => ih (k + 1) hk' hlt l' T' hw' hT' (by
   rw [he, <- hs]; exact h2)
  refine Q7 (l := q11) rfl hR ?_
  unfold q0p
  simp -implicitDefEqProofs -dsimp only [go_sem, seval, Int.ofNat_lt, hlt, Int.natCast_nonneg, Int.toNat_natCast, hcell, hlen, evC, List.cons_append, List.nil_append]
  refine J8 (fun h => ?_) (fun h => ?_)
  ·have hk0 : y.k = 0 := of_decide_eq_true h
   simp -implicitDefEqProofs -dsimp only [go_sem, seval, h, ↓J1 _ _ q5d]
   refine can (qjo hT hw) ?_
   simp -implicitDefEqProofs -dsimp only [go_sem, seval, hws]
   exact hgo _ _ hw.tick (Tab.put_same ..) (Tab.put_put ..) (by unfold q6p; rw [if_pos hk0])
  have hk0 : ¬ y.k = 0 := of_decide_eq_false h
  simp -implicitDefEqProofs -dsimp only [go_sem, seval, h]
  refine J8 (fun h => ?_) (fun h => ?_)
  ·have hk1 : y.k = 1 := of_decide_eq_true h
   have hH := qdi hT hw y.n y.x
   simp only [Be.cells] at hH
   simp -implicitDefEqProofs -dsimp only [go_sem, seval, h, ↓J1 _ _ q2q]
   refine can hH ?_
   simp -implicitDefEqProofs -dsimp only [go_sem, seval, hws]
   exact hgo _ _ (hw.heard _ _) (Tab.put_same ..) (Tab.put_put ..) (by unfold q6p; rw [if_neg hk0, if_pos hk1])
  have hk1 : ¬ y.k = 1 := of_decide_eq_false h
  simp -implicitDefEqProofs -dsimp only [go_sem, seval, h, hws]
  exact hgo _ _ hw hT rfl (by unfold q6p; rw [if_neg hk0, if_neg hk1])
theorem qp2 {T : Tab} (es : List Ev) (cap : Option Nat) (n : Int) (hl : Len es.length) : ACalls prog I5 [.fz es.length (es.flatMap evC) cap, .i .i64 n] T
  (fun r T' => ∃ id, r = .ptr id 0 /\ T id = .unused /\ T' = T.put id (.row 49 (waC (G2 n) (qbv (G2 n) es)))) := by
 refine K6 O2 q80 (by simp) ?_
 unfold q3n
 simp -implicitDefEqProofs -dsimp only [go_sem, seval, ↓J1 _ _ qet]
 refine CallK.of (qn4 n) (fun r T1 ⟨id, e1, hid, e2⟩ => J5 ?_)
 subst e1; subst e2
 simp -implicitDefEqProofs -dsimp only [go_sem, seval]
 refine qp1 (lim := G2 n) (by repeat' (first | exact O6 _ _ | assumption | apply O5 | apply N2 | apply Z8)) hl es 0 rfl (by omega) qhn _ (qy5 n) (Tab.put_same ..) ?_
 simp -implicitDefEqProofs -dsimp only [go_sem, seval]
 rw [Tab.put_put]
 exact q1z _ (fun _ => .inr (.inl rfl)) ⟨id, rfl, hid, rfl⟩
def qg4 (n : Int) (r : Be × Bool) (e : Ev) : Be × Bool := if e.k = 1 /\ e.n = n /\ 0 <= n /\ n <= 7 then (e.x, true) else r
def qho (n : Int) (c : Int) (e : Ev) : Int := if e.k = 1 /\ e.n = n then 0 else if e.k = 0 then c + 1 else c
theorem qr9 {R : Y5} (hR : ExtR R) {T : Tab} {n m : Int} {es : List Ev} {cap : Option Nat} (hl : es.length <= 60) : ∀ (ys : List Ev) (k : Nat), es.drop k = ys -> k <= es.length -> ∀ (c : Int), 0 <= c -> c <= k ->
  R (.exit 0) [(1, .i .i64 m), (2, .i .i64 n), (7, .i .i64 (ys.foldl (qho n) c)), (14, .fz es.length (es.flatMap evC) cap), (15, .i .i64 es.length), (16, .i .i64 es.length), (17, .b false)] [] T ->
  AW prog Y9 R [(1, .i .i64 m), (2, .i .i64 n), (7, .i .i64 c), (14, .fz es.length (es.flatMap evC) cap), (15, .i .i64 es.length), (16, .i .i64 k)] [] T := by
 intro ys
 induction ys with
 | nil =>
  intro k hk hle c hc0 hck h2
  have hk' := q18 hk hle
  refine G9 hR ?_
  unfold I1
  simp -implicitDefEqProofs -dsimp only [go_sem, seval, hk', Int.lt_irrefl]
  rw [hk'] at h2
  exact h2
 | cons y ys ih =>
  intro k hk hle c hc0 hck h2
  obtain ⟨hlt, hy, hk'⟩ := q1e hk
  have hcell := qfg qdj hy
  have hlen : k * 6 + 6 <= (es.flatMap evC).length := by rw [q5s qdj]; omega
  have hws : IntKind.i64.wrap ((k : Int) + 1) = ((k + 1 : Nat) : Int) := Q0 (by omega)
  have hwc : IntKind.i64.wrap (c + 1) = c + 1 := q2k (by unfold I64; omega)
  rw [List.foldl_cons] at h2
  refine Q7 (l := Y9) rfl hR ?_
  unfold I1
  rcases d0 : decide (y.k = 0) with _ | _
  ·have n0 := of_decide_eq_false d0
   rcases d1 : decide (y.k = 1) with _ | _
   ·have n1 := of_decide_eq_false d1
    rw [qho, if_neg (fun h => n1 h.1), if_neg n0] at h2
    simp -implicitDefEqProofs -dsimp only [go_sem, seval, Int.ofNat_lt, hlt, Int.natCast_nonneg, Int.toNat_natCast, hcell, hlen, evC, List.cons_append, List.nil_append, d0, d1, hws]
    exact ih (k + 1) hk' hlt _ hc0 (by omega) h2
   rcases d2 : decide (y.n = n) with _ | _
   ·have n2 := of_decide_eq_false d2
    rw [qho, if_neg (fun h => n2 h.2), if_neg n0] at h2
    simp -implicitDefEqProofs -dsimp only [go_sem, seval, Int.ofNat_lt, hlt, Int.natCast_nonneg, Int.toNat_natCast, hcell, hlen, evC, List.cons_append, List.nil_append, d0, d1, d2, hws]
    exact ih (k + 1) hk' hlt _ hc0 (by omega) h2
   rw [qho, if_pos ⟨of_decide_eq_true d1, of_decide_eq_true d2⟩] at h2
   simp -implicitDefEqProofs -dsimp only [go_sem, seval, Int.ofNat_lt, hlt, Int.natCast_nonneg, Int.toNat_natCast, hcell, hlen, evC, List.cons_append, List.nil_append, d0, d1, d2, hws]
   exact ih (k + 1) hk' hlt _ (by omega) (by omega) h2
  have n0 := of_decide_eq_true d0
  have d1 : decide (y.k = 1) = false := decide_eq_false (by omega)
  rw [qho, if_neg (fun h => by omega), if_pos n0] at h2
  simp -implicitDefEqProofs -dsimp only [go_sem, seval, Int.ofNat_lt, hlt, Int.natCast_nonneg, Int.toNat_natCast, hcell, hlen, evC, List.cons_append, List.nil_append, d0, d1, hws, hwc]
  exact ih (k + 1) hk' hlt _ (by omega) (by omega) h2
def qra (n lim : Int) (es : List Ev) : Bool := qe7 n && decide (G2 lim < es.foldl (qho n) 0)
theorem qrb (es : List Ev) (cap : Option Nat) (m n : Int) (hl : es.length <= 60) : U4 prog U5 [.fz es.length (es.flatMap evC) cap, .i .i64 m, .i .i64 n] (.b (qra n m es)) := by
 refine K9 O2 q61 (by simp) fun T => ?_
 unfold q2o
 simp -implicitDefEqProofs -dsimp only [go_sem, seval]
 have hfin : ∀ (m' : Int) (R : Y5), ExtR R -> m' = G2 m ->
   R (.exit 0) [(1, .i .i64 m'), (2, .i .i64 n), (7, .i .i64 (es.foldl (qho n) 0)), (14, .fz es.length (es.flatMap evC) cap), (15, .i .i64 es.length), (16, .i .i64 es.length), (17, .b false)] [] T ->
   AW prog Y9 R [(1, .i .i64 m'), (2, .i .i64 n), (7, .i .i64 0), (14, .fz es.length (es.flatMap evC) cap), (15, .i .i64 es.length), (16, .i .i64 0)] [] T := fun m' R hR hm h => qr9 hR hl es 0 rfl (by omega) 0 (by omega) (by omega) h
 have d7 : decide (n <= 7) = decide (n < 8) := by rw [decide_eq_decide]; omega
 refine J8 (fun h => ?_) (fun h => ?_)
 case' refine_1 =>
  have h' := of_decide_eq_true h
  simp -implicitDefEqProofs -dsimp only [go_sem, seval, h]
  refine hfin 1 _ (by repeat' (first | exact O6 _ _ | assumption | apply O5 | apply N2 | apply Z8)) (by unfold G2; rw [if_pos (show 1 > m by omega)]; rfl) ?_
  have e : (1 : Int) = G2 m := by unfold G2; rw [if_pos (show 1 > m by omega)]; rfl
 case' refine_2 =>
  have h' := of_decide_eq_false h
  simp -implicitDefEqProofs -dsimp only [go_sem, seval, h]
  refine J8 (fun h => ?_) (fun h => ?_)
 case' refine_2.refine_1 =>
  have h2 := of_decide_eq_true h
  simp -implicitDefEqProofs -dsimp only [go_sem, seval, h]
  have e : (1000 : Int) = G2 m := by unfold G2; rw [if_neg (show ¬ 1 > m by omega), if_pos (by omega)]
  refine hfin 1000 _ (by repeat' (first | exact O6 _ _ | assumption | apply O5 | apply N2 | apply Z8)) e ?_
 case' refine_2.refine_2 =>
  have h2 := of_decide_eq_false h
  simp -implicitDefEqProofs -dsimp only [go_sem, seval, h]
  have e : m = G2 m := by unfold G2; rw [if_neg (show ¬ 1 > m by omega), if_neg (by omega)]
  refine hfin m _ (by repeat' (first | exact O6 _ _ | assumption | apply O5 | apply N2 | apply Z8)) e ?_
 all_goals
  rcases d1 : decide (0 <= n) with _ | _
  ·simp -implicitDefEqProofs -dsimp only [go_sem, seval, d1]
   refine K0 ?_
   simp [qra, qe7, d1]
  rcases d2 : decide (n < 8) with _ | _
  ·simp -implicitDefEqProofs -dsimp only [go_sem, seval, d1, d7, d2]
   refine K0 ?_
   simp [qra, qe7, d1, d2]
  simp -implicitDefEqProofs -dsimp only [go_sem, seval, d1, d7, d2]
  refine K0 ?_
  rw [qra, qe7, d1, d2, <- e]; rfl
end Go.Aw
