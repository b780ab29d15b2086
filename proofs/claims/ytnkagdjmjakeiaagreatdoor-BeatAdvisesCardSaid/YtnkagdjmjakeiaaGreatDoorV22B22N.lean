import Derived.Test.YtnkagdjmjakeiaaGreatDoorV22B22M
namespace Go.Aw
open Go
open Go.Proofs.Tryz (prog)
set_option linter.all false
set_option maxHeartbeats 4000000
structure Ev where
 k : Int
 n : Int
 x : Be
def evC (e : Ev) : List AV := [.i .i64 e.k, .i .i64 e.n, .i .i64 e.x.a, .i .u64 e.x.b, .b e.x.c, .i .i64 e.x.d]
theorem qcv (e : Ev) : (evC e).length = 6 := rfl
def q99 (lim : Int) (l : List Wr) (e : Ev) : List Wr := if e.k = 0 then l.map (q3r lim) else if e.k = 1 then q70 l e.n e.x else l
def U2 (lim : Int) (es : List Ev) : List Wr := es.foldl (q99 lim) qk5
theorem qta {lim : Int} {w : Wr} (h1 : 1 <= lim) (h : 0 <= w.g /\ w.g <= lim + 1) : 0 <= (q3r lim w).g /\ (q3r lim w).g <= lim + 1 := by
 unfold q3r; split
 ·simp only; omega
 ·exact h
theorem WOk.tick {lim : Int} {l : List Wr} (h : WOk lim l) : WOk lim (l.map (q3r lim)) := ⟨by rw [List.length_map]; exact h.n, h.l1, h.l2, fun w hw => by
 obtain ⟨w0, h0, rfl⟩ := List.mem_map.1 hw
 exact qta h.l1 (h.g _ h0)⟩
theorem WOk.heard {lim : Int} {l : List Wr} (h : WOk lim l) (n : Int) (b : Be) : WOk lim (q70 l n b) := by
 unfold q70; split
 ·refine ⟨by rw [List.length_set]; exact h.n, h.l1, h.l2, fun w hw => ?_⟩
  rcases List.mem_or_eq_of_mem_set hw with h' | rfl
  ·exact h.g _ h'
  ·have := h.l1; simp only; omega
 ·exact h
theorem WOk.step {lim : Int} {l : List Wr} (h : WOk lim l) (e : Ev) : WOk lim (q99 lim l e) := by
 unfold q99; split
 ·exact h.tick
 ·split
  ·exact h.heard _ _
  ·exact h
theorem WOk.fold {lim : Int} : ∀ {es : List Ev} {l : List Wr}, WOk lim l -> WOk lim (es.foldl (q99 lim) l)
 | [], _, h => h
 | e :: es, _, h => WOk.fold (es := es) (h.step e)
theorem qtb {R : U6} (hR : ExtR R) {id : Nat} {lim : Int} {es : List Ev} {cap : Option Nat} (hl : Len es.length) : ∀ (ys : List Ev) (k : Nat), es.drop k = ys -> k <= es.length -> ∀ (l : List Wr) (T : Tab), WOk lim l -> Wt T id lim l ->
  R (.exit 0) [(5, .ptr id 0), (10, .fz es.length (es.flatMap evC) cap), (11, .i .i64 es.length), (12, .i .i64 es.length), (13, .b false)] [] (T.put id (.row 49 (waC lim (ys.foldl (q99 lim) l)))) ->
  AW prog q20 R [(5, .ptr id 0), (10, .fz es.length (es.flatMap evC) cap), (11, .i .i64 es.length), (12, .i .i64 k)] [] T := by
 intro ys
 induction ys with
 | nil =>
  intro k hk hle l T hw hT h2
  have hk' := I0 hk hle
  rw [List.foldl_nil, Tab.put_self hT] at h2
  refine U8 hR ?_
  unfold q1i
  simp -implicitDefEqProofs -dsimp only [go_sem, seval, hk', Int.lt_irrefl]
  rw [hk'] at h2
  exact h2
 | cons y ys ih =>
  intro k hk hle l T hw hT h2
  obtain ⟨hlt, hy, hk'⟩ := q0b hk
  have hcell := qem qcv hy
  have hlen : k * 6 + 6 <= (es.flatMap evC).length := by rw [q4g qcv]; omega
  have hl' := hl
  unfold Len at hl
  have hws : IntKind.i64.wrap ((k : Int) + 1) = ((k + 1 : Nat) : Int) := O0 (by omega)
  have hgo := fun l' T' (hw' : WOk lim l') (hT' : Wt T' id lim l') (he : T'.put id (.row 49 (waC lim (ys.foldl (q99 lim) l'))) = T.put id (.row 49 (waC lim (ys.foldl (q99 lim) l')))) (hs : q99 lim l y = l') => ih (k + 1) hk' hlt l' T' hw' hT' (by
   rw [he, <- hs]; exact h2)
  refine O4 (l := q20) rfl hR ?_
  unfold q1i
  simp -implicitDefEqProofs -dsimp only [go_sem, seval, Int.ofNat_lt, hlt, Int.natCast_nonneg, Int.toNat_natCast, hcell, hlen, evC, List.cons_append, List.nil_append]
  refine J4 (fun h => ?_) (fun h => ?_)
  ·have hk0 : y.k = 0 := of_decide_eq_true h
   simp -implicitDefEqProofs -dsimp only [go_sem, seval, h, ↓J0 _ _ q7o]
   refine can (qnp hT hw) ?_
   simp -implicitDefEqProofs -dsimp only [go_sem, seval, hws]
   exact hgo _ _ hw.tick (Tab.put_same ..) (Tab.put_put ..) (by unfold q99; rw [if_pos hk0])
  have hk0 : ¬ y.k = 0 := of_decide_eq_false h
  simp -implicitDefEqProofs -dsimp only [go_sem, seval, h]
  refine J4 (fun h => ?_) (fun h => ?_)
  ·have hk1 : y.k = 1 := of_decide_eq_true h
   have hH := qh4 hT hw y.n y.x
   simp only [Be.cells] at hH
   simp -implicitDefEqProofs -dsimp only [go_sem, seval, h, ↓J0 _ _ q41]
   refine can hH ?_
   simp -implicitDefEqProofs -dsimp only [go_sem, seval, hws]
   exact hgo _ _ (hw.heard _ _) (Tab.put_same ..) (Tab.put_put ..) (by unfold q99; rw [if_neg hk0, if_pos hk1])
  have hk1 : ¬ y.k = 1 := of_decide_eq_false h
  simp -implicitDefEqProofs -dsimp only [go_sem, seval, h, hws]
  exact hgo _ _ hw hT rfl (by unfold q99; rw [if_neg hk0, if_neg hk1])
theorem qtc {T : Tab} (es : List Ev) (cap : Option Nat) (n : Int) (hl : Len es.length) : ACalls prog q0j [.fz es.length (es.flatMap evC) cap, .i .i64 n] T
  (fun r T' => ∃ id, r = .ptr id 0 /\ T id = .unused /\ T' = T.put id (.row 49 (waC (K7 n) (U2 (K7 n) es)))) := by
 refine K3 O1 qas (by simp) ?_
 unfold q52
 simp -implicitDefEqProofs -dsimp only [go_sem, seval, ↓J0 _ _ qig]
 refine CallK.of (qr7 n) (fun r T1 ⟨id, e1, hid, e2⟩ => J3 ?_)
 subst e1; subst e2
 simp -implicitDefEqProofs -dsimp only [go_sem, seval]
 refine qtb (lim := K7 n) (by repeat' (first | exact N8 _ _ | assumption | apply N7 | apply N0 | apply V0)) hl es 0 rfl (by omega) qk5 _ (z2s n) (Tab.put_same ..) ?_
 simp -implicitDefEqProofs -dsimp only [go_sem, seval]
 rw [Tab.put_put]
 exact I6 _ (fun _ => .inr (.inl rfl)) ⟨id, rfl, hid, rfl⟩
def q9a (n : Int) (r : Be × Bool) (e : Ev) : Be × Bool := if e.k = 1 /\ e.n = n /\ 0 <= n /\ n <= 7 then (e.x, true) else r
theorem qtd {R : U6} (hR : ExtR R) {T : Tab} {n : Int} {es : List Ev} {cap : Option Nat} {q : List AV} (hl : Len es.length) : ∀ (ys : List Ev) (k : Nat), es.drop k = ys -> k <= es.length -> ∀ (r : Be × Bool),
  R (.exit 0) [(1, .i .i64 n), (4, .lp 4 0), (6, .lp 6 0), (7, .b (ys.foldl (q9a n) r).2), (11, .fz es.length (es.flatMap evC) cap), (12, .i .i64 es.length), (13, .i .i64 es.length), (14, .b false)] [(4, q), (6, (ys.foldl (q9a n) r).1.cells)] T ->
  AW prog q2t R [(1, .i .i64 n), (4, .lp 4 0), (6, .lp 6 0), (7, .b r.2), (11, .fz es.length (es.flatMap evC) cap), (12, .i .i64 es.length), (13, .i .i64 k)] [(4, q), (6, r.1.cells)] T := by
 intro ys
 induction ys with
 | nil =>
  intro k hk hle r h2
  have hk' := I0 hk hle
  refine U8 hR ?_
  unfold q25
  simp -implicitDefEqProofs -dsimp only [go_sem, seval, hk', Int.lt_irrefl]
  rw [hk'] at h2
  exact h2
 | cons y ys ih =>
  intro k hk hle r h2
  obtain ⟨hlt, hy, hk'⟩ := q0b hk
  have hcell := qem qcv hy
  have hlen : k * 6 + 6 <= (es.flatMap evC).length := by rw [q4g qcv]; omega
  have hl' := hl
  unfold Len at hl
  have hws : IntKind.i64.wrap ((k : Int) + 1) = ((k + 1 : Nat) : Int) := O0 (by omega)
  have hno : ¬ (y.k = 1 /\ y.n = n /\ 0 <= n /\ n <= 7) -> _ := fun h => ih (k + 1) hk' hlt r (by
   rw [List.foldl_cons, q9a, if_neg h] at h2; exact h2)
  have hyes : (y.k = 1 /\ y.n = n /\ 0 <= n /\ n <= 7) -> _ := fun h => ih (k + 1) hk' hlt (y.x, true) (by
   rw [List.foldl_cons, q9a, if_pos h] at h2; exact h2)
  simp only [Be.cells] at hno hyes ⊢
  refine O4 (l := q2t) rfl hR ?_
  unfold q25
  rcases d1 : decide (y.k = 1) with _ | _
  ·simp -implicitDefEqProofs -dsimp only [go_sem, seval, Int.ofNat_lt, hlt, Int.natCast_nonneg, Int.toNat_natCast, hcell, hlen, evC, List.cons_append, List.nil_append, d1, hws]
   exact hno (fun h => of_decide_eq_false d1 h.1)
  rcases d2 : decide (y.n = n) with _ | _
  ·simp -implicitDefEqProofs -dsimp only [go_sem, seval, Int.ofNat_lt, hlt, Int.natCast_nonneg, Int.toNat_natCast, hcell, hlen, evC, List.cons_append, List.nil_append, d1, d2, hws]
   exact hno (fun h => of_decide_eq_false d2 h.2.1)
  rcases d3 : decide (0 <= n) with _ | _
  ·simp -implicitDefEqProofs -dsimp only [go_sem, seval, Int.ofNat_lt, hlt, Int.natCast_nonneg, Int.toNat_natCast, hcell, hlen, evC, List.cons_append, List.nil_append, d1, d2, d3, hws]
   exact hno (fun h => of_decide_eq_false d3 h.2.2.1)
  rcases d4 : decide (n <= 7) with _ | _
  ·simp -implicitDefEqProofs -dsimp only [go_sem, seval, Int.ofNat_lt, hlt, Int.natCast_nonneg, Int.toNat_natCast, hcell, hlen, evC, List.cons_append, List.nil_append, d1, d2, d3, d4, hws]
   exact hno (fun h => of_decide_eq_false d4 h.2.2.2)
  simp -implicitDefEqProofs -dsimp only [go_sem, seval, Int.ofNat_lt, hlt, Int.natCast_nonneg, Int.toNat_natCast, hcell, hlen, evC, List.cons_append, List.nil_append, d1, d2, d3, d4, hws]
  exact hyes ⟨of_decide_eq_true d1, of_decide_eq_true d2, of_decide_eq_true d3, of_decide_eq_true d4⟩
theorem qte (es : List Ev) (cap : Option Nat) (n : Int) (hl : Len es.length) : Q4 prog Y5 [.fz es.length (es.flatMap evC) cap, .i .i64 n] (beR (es.foldl (q9a n) (Be.nil, false))) := by
 refine K8 O1 qck (by simp) fun T => ?_
 unfold q5y
 simp -implicitDefEqProofs -dsimp only [go_sem, seval]
 have hgo := fun R hR => qtd (R := R) (T := T) (n := n) (es := es) (cap := cap) (q := Be.nil.cells) hR hl es 0 rfl (by omega) (Be.nil, false)
 simp only [Be.cells, Be.nil] at hgo
 refine hgo _ (by repeat' (first | exact N8 _ _ | assumption | apply N7 | apply N0 | apply V0)) ?_
 simp -implicitDefEqProofs -dsimp only [go_sem, seval]
 exact J9 rfl
def qlk (n : Int) (c : Int) (e : Ev) : Int := if e.k = 1 /\ e.n = n then 0 else if e.k = 0 then c + 1 else c
theorem qvr {R : U6} (hR : ExtR R) {T : Tab} {n m : Int} {es : List Ev} {cap : Option Nat} (hl : es.length <= 60) : ∀ (ys : List Ev) (k : Nat), es.drop k = ys -> k <= es.length -> ∀ (c : Int), 0 <= c -> c <= k ->
  R (.exit 0) [(1, .i .i64 m), (2, .i .i64 n), (7, .i .i64 (ys.foldl (qlk n) c)), (14, .fz es.length (es.flatMap evC) cap), (15, .i .i64 es.length), (16, .i .i64 es.length), (17, .b false)] [] T ->
  AW prog G1 R [(1, .i .i64 m), (2, .i .i64 n), (7, .i .i64 c), (14, .fz es.length (es.flatMap evC) cap), (15, .i .i64 es.length), (16, .i .i64 k)] [] T := by
 intro ys
 induction ys with
 | nil =>
  intro k hk hle c hc0 hck h2
  have hk' := I0 hk hle
  refine U8 hR ?_
  unfold q0c
  simp -implicitDefEqProofs -dsimp only [go_sem, seval, hk', Int.lt_irrefl]
  rw [hk'] at h2
  exact h2
 | cons y ys ih =>
  intro k hk hle c hc0 hck h2
  obtain ⟨hlt, hy, hk'⟩ := q0b hk
  have hcell := qem qcv hy
  have hlen : k * 6 + 6 <= (es.flatMap evC).length := by rw [q4g qcv]; omega
  have hws : IntKind.i64.wrap ((k : Int) + 1) = ((k + 1 : Nat) : Int) := O0 (by omega)
  have hwc : IntKind.i64.wrap (c + 1) = c + 1 := V8 (by unfold I64; omega)
  rw [List.foldl_cons] at h2
  refine O4 (l := G1) rfl hR ?_
  unfold q0c
  rcases d0 : decide (y.k = 0) with _ | _
  ·have n0 := of_decide_eq_false d0
   rcases d1 : decide (y.k = 1) with _ | _
   ·have n1 := of_decide_eq_false d1
    rw [qlk, if_neg (fun h => n1 h.1), if_neg n0] at h2
    simp -implicitDefEqProofs -dsimp only [go_sem, seval, Int.ofNat_lt, hlt, Int.natCast_nonneg, Int.toNat_natCast, hcell, hlen, evC, List.cons_append, List.nil_append, d0, d1, hws]
    exact ih (k + 1) hk' hlt _ hc0 (by omega) h2
   rcases d2 : decide (y.n = n) with _ | _
   ·have n2 := of_decide_eq_false d2
    rw [qlk, if_neg (fun h => n2 h.2), if_neg n0] at h2
    simp -implicitDefEqProofs -dsimp only [go_sem, seval, Int.ofNat_lt, hlt, Int.natCast_nonneg, Int.toNat_natCast, hcell, hlen, evC, List.cons_append, List.nil_append, d0, d1, d2, hws]
    exact ih (k + 1) hk' hlt _ hc0 (by omega) h2
   rw [qlk, if_pos ⟨of_decide_eq_true d1, of_decide_eq_true d2⟩] at h2
   simp -implicitDefEqProofs -dsimp only [go_sem, seval, Int.ofNat_lt, hlt, Int.natCast_nonneg, Int.toNat_natCast, hcell, hlen, evC, List.cons_append, List.nil_append, d0, d1, d2, hws]
   exact ih (k + 1) hk' hlt _ (by omega) (by omega) h2
  have n0 := of_decide_eq_true d0
  have d1 : decide (y.k = 1) = false := decide_eq_false (by omega)
  rw [qlk, if_neg (fun h => by omega), if_pos n0] at h2
  simp -implicitDefEqProofs -dsimp only [go_sem, seval, Int.ofNat_lt, hlt, Int.natCast_nonneg, Int.toNat_natCast, hcell, hlen, evC, List.cons_append, List.nil_append, d0, d1, hws, hwc]
  exact ih (k + 1) hk' hlt _ (by omega) (by omega) h2
def qvs (n lim : Int) (es : List Ev) : Bool := qhe n && decide (K7 lim < es.foldl (qlk n) 0)
theorem qvt (es : List Ev) (cap : Option Nat) (m n : Int) (hl : es.length <= 60) : Q4 prog O8 [.fz es.length (es.flatMap evC) cap, .i .i64 m, .i .i64 n] (.b (qvs n m es)) := by
 refine K8 O1 q8f (by simp) fun T => ?_
 unfold q3z
 simp -implicitDefEqProofs -dsimp only [go_sem, seval]
 have hfin : ∀ (m' : Int) (R : U6), ExtR R -> m' = K7 m ->
   R (.exit 0) [(1, .i .i64 m'), (2, .i .i64 n), (7, .i .i64 (es.foldl (qlk n) 0)), (14, .fz es.length (es.flatMap evC) cap), (15, .i .i64 es.length), (16, .i .i64 es.length), (17, .b false)] [] T ->
   AW prog G1 R [(1, .i .i64 m'), (2, .i .i64 n), (7, .i .i64 0), (14, .fz es.length (es.flatMap evC) cap), (15, .i .i64 es.length), (16, .i .i64 0)] [] T := fun m' R hR hm h => qvr hR hl es 0 rfl (by omega) 0 (by omega) (by omega) h
 have d7 : decide (n <= 7) = decide (n < 8) := by rw [decide_eq_decide]; omega
 refine J4 (fun h => ?_) (fun h => ?_)
 case' refine_1 =>
  have h' := of_decide_eq_true h
  simp -implicitDefEqProofs -dsimp only [go_sem, seval, h]
  refine hfin 1 _ (by repeat' (first | exact N8 _ _ | assumption | apply N7 | apply N0 | apply V0)) (by unfold K7; rw [if_pos (show 1 > m by omega)]; rfl) ?_
  have e : (1 : Int) = K7 m := by unfold K7; rw [if_pos (show 1 > m by omega)]; rfl
 case' refine_2 =>
  have h' := of_decide_eq_false h
  simp -implicitDefEqProofs -dsimp only [go_sem, seval, h]
  refine J4 (fun h => ?_) (fun h => ?_)
 case' refine_2.refine_1 =>
  have h2 := of_decide_eq_true h
  simp -implicitDefEqProofs -dsimp only [go_sem, seval, h]
  have e : (1000 : Int) = K7 m := by unfold K7; rw [if_neg (show ¬ 1 > m by omega), if_pos (by omega)]
  refine hfin 1000 _ (by repeat' (first | exact N8 _ _ | assumption | apply N7 | apply N0 | apply V0)) e ?_
 case' refine_2.refine_2 =>
  have h2 := of_decide_eq_false h
  simp -implicitDefEqProofs -dsimp only [go_sem, seval, h]
  have e : m = K7 m := by unfold K7; rw [if_neg (show ¬ 1 > m by omega), if_neg (by omega)]
  refine hfin m _ (by repeat' (first | exact N8 _ _ | assumption | apply N7 | apply N0 | apply V0)) e ?_
 all_goals
  rcases d1 : decide (0 <= n) with _ | _
  ·simp -implicitDefEqProofs -dsimp only [go_sem, seval, d1]
   refine J9 ?_
   simp [qvs, qhe, d1]
  rcases d2 : decide (n < 8) with _ | _
  ·simp -implicitDefEqProofs -dsimp only [go_sem, seval, d1, d7, d2]
   refine J9 ?_
   simp [qvs, qhe, d1, d2]
  simp -implicitDefEqProofs -dsimp only [go_sem, seval, d1, d7, d2]
  refine J9 ?_
  rw [qvs, qhe, d1, d2, <- e]; rfl
end Go.Aw
