import Derived.Test.YtchdmofoaokpjaaGreatDoorM30N17M17C
namespace Go.Aw
open Go
open Go.Proofs.Tryz (prog)
set_option linter.all false
set_option maxHeartbeats 4000000
set_option maxRecDepth 8000
def cfE (a b : Cf) : Bool := decide (a.ep = b.ep) && decide (a.sh = b.sh) && decide (a.ln = b.ln) && eqL qyx a.ch b.ch && eqL qlb a.fu b.fu
def txE (a b : Tx) : Bool := (decide (a.cl = b.cl) && decide (a.sq = b.sq)) && decide (a.pl = b.pl) && eqL rdE a.rs b.rs && eqL wtE a.ws b.ws
def enE (a b : En) : Bool := decide (a.ep = b.ep) && decide (a.kd = b.kd) && (decide (a.cl = b.cl) && decide (a.sq = b.sq)) && decide (a.co = b.co) && txE a.t b.t
theorem qul (l : List Int) : l.flatMap qyy = qdp l := by induction l with
 | nil => rfl
 | cons a l ih => simp only [List.flatMap_cons, ih]; rfl
theorem qqs (l : List Bool) : l.flatMap qlc = qa7 l := by induction l with
 | nil => rfl
 | cons a l ih => simp only [List.flatMap_cons, ih]; rfl
theorem q6k (xs ys : List Int) (c1 c2 : Option Nat) (hl : Len xs.length) : PCalls prog q0y [.fz xs.length (qdp xs) c1, .fz ys.length (qdp ys) c2] (.b (eqL qyx xs ys)) := by
 have := qz0 xs ys c1 c2 hl
 rw [qul, qul] at this
 exact this
theorem q4v (xs ys : List Bool) (c1 c2 : Option Nat) (hl : Len xs.length) : PCalls prog q0e [.fz xs.length (qa7 xs) c1, .fz ys.length (qa7 ys) c2] (.b (eqL qlb xs ys)) := by
 have := qw2 xs ys c1 c2 hl
 rw [qqs, qqs] at this
 exact this
theorem qsr (a b : Cf) (k1 k2 k3 k4 : Option Nat) (h1 : Len a.ch.length) (h2 : Len a.fu.length) : PCalls prog q61 [.agg (a.cells k1 k2), .agg (b.cells k3 k4)] (.b (cfE a b)) := by
 refine K6 U1 qrx (by simp) fun T => ?_
 unfold qkf
 simp -implicitDefEqProofs -dsimp only [go_sem, seval, Cf.cells]
 (first | ((first | (apply K0 <;> intro h_1) | (refine CallK.pure (q6k _ _ _ _ h1) (J1 ?_); have h_1 := trivial) | (refine CallK.pure (q4v _ _ _ _ h2) (J1 ?_); have h_1 := trivial)) <;> simp -implicitDefEqProofs -dsimp only [go_sem, seval, ↓J0 _ _ Z1, ↓J0 _ _ Y0, h_1]) | (have h_1 := trivial)) <;>
  (first | ((first | (apply K0 <;> intro h_2) | (refine CallK.pure (q6k _ _ _ _ h1) (J1 ?_); have h_2 := trivial) | (refine CallK.pure (q4v _ _ _ _ h2) (J1 ?_); have h_2 := trivial)) <;> simp -implicitDefEqProofs -dsimp only [go_sem, seval, ↓J0 _ _ Z1, ↓J0 _ _ Y0, h_1, h_2]) | (have h_2 := trivial)) <;>
  (first | ((first | (apply K0 <;> intro h_3) | (refine CallK.pure (q6k _ _ _ _ h1) (J1 ?_); have h_3 := trivial) | (refine CallK.pure (q4v _ _ _ _ h2) (J1 ?_); have h_3 := trivial)) <;> simp -implicitDefEqProofs -dsimp only [go_sem, seval, ↓J0 _ _ Z1, ↓J0 _ _ Y0, h_1, h_2, h_3]) | (have h_3 := trivial)) <;>
  (first | ((first | (apply K0 <;> intro h_4) | (refine CallK.pure (q6k _ _ _ _ h1) (J1 ?_); have h_4 := trivial) | (refine CallK.pure (q4v _ _ _ _ h2) (J1 ?_); have h_4 := trivial)) <;> simp -implicitDefEqProofs -dsimp only [go_sem, seval, ↓J0 _ _ Z1, ↓J0 _ _ Y0, h_1, h_2, h_3, h_4]) | (have h_4 := trivial)) <;>
  (first | ((first | (apply K0 <;> intro h_5) | (refine CallK.pure (q6k _ _ _ _ h1) (J1 ?_); have h_5 := trivial) | (refine CallK.pure (q4v _ _ _ _ h2) (J1 ?_); have h_5 := trivial)) <;> simp -implicitDefEqProofs -dsimp only [go_sem, seval, ↓J0 _ _ Z1, ↓J0 _ _ Y0, h_1, h_2, h_3, h_4, h_5]) | (have h_5 := trivial)) <;>
  (first | ((first | (apply K0 <;> intro h_6) | (refine CallK.pure (q6k _ _ _ _ h1) (J1 ?_); have h_6 := trivial) | (refine CallK.pure (q4v _ _ _ _ h2) (J1 ?_); have h_6 := trivial)) <;> simp -implicitDefEqProofs -dsimp only [go_sem, seval, ↓J0 _ _ Z1, ↓J0 _ _ Y0, h_1, h_2, h_3, h_4, h_5, h_6]) | (have h_6 := trivial)) <;>
  (first | ((first | (apply K0 <;> intro h_7) | (refine CallK.pure (q6k _ _ _ _ h1) (J1 ?_); have h_7 := trivial) | (refine CallK.pure (q4v _ _ _ _ h2) (J1 ?_); have h_7 := trivial)) <;> simp -implicitDefEqProofs -dsimp only [go_sem, seval, ↓J0 _ _ Z1, ↓J0 _ _ Y0, h_1, h_2, h_3, h_4, h_5, h_6, h_7]) | (have h_7 := trivial)) <;>
  (first | ((first | (apply K0 <;> intro h_8) | (refine CallK.pure (q6k _ _ _ _ h1) (J1 ?_); have h_8 := trivial) | (refine CallK.pure (q4v _ _ _ _ h2) (J1 ?_); have h_8 := trivial)) <;> simp -implicitDefEqProofs -dsimp only [go_sem, seval, ↓J0 _ _ Z1, ↓J0 _ _ Y0, h_1, h_2, h_3, h_4, h_5, h_6, h_7, h_8]) | (have h_8 := trivial))
 all_goals (refine J9 ?_; simp_all [cfE])
theorem qip (a b : En) (k1 k2 k3 k4 : Option Nat) (h1 : Len a.t.rs.length) (h2 : Len a.t.ws.length) : PCalls prog q3i [.agg (a.cells k1 k2), .agg (b.cells k3 k4)] (.b (enE a b)) := by
 refine K6 U1 qpw (by simp) fun T => ?_
 unfold qi3
 simp -implicitDefEqProofs -dsimp only [go_sem, seval, En.cells, q05, U0, Bool.and_true]
 (first | ((first | (apply K0 <;> intro h_1) | (refine CallK.pure (I0 _ _ _ _ h1) (J1 ?_); have h_1 := trivial) | (refine CallK.pure (Z6 _ _ _ _ h2) (J1 ?_); have h_1 := trivial)) <;> simp -implicitDefEqProofs -dsimp only [go_sem, seval, q05, U0, Bool.and_true, ↓J0 _ _ N3, ↓J0 _ _ N0, h_1]) | (have h_1 := trivial)) <;>
  (first | ((first | (apply K0 <;> intro h_2) | (refine CallK.pure (I0 _ _ _ _ h1) (J1 ?_); have h_2 := trivial) | (refine CallK.pure (Z6 _ _ _ _ h2) (J1 ?_); have h_2 := trivial)) <;> simp -implicitDefEqProofs -dsimp only [go_sem, seval, q05, U0, Bool.and_true, ↓J0 _ _ N3, ↓J0 _ _ N0, h_1, h_2]) | (have h_2 := trivial)) <;>
  (first | ((first | (apply K0 <;> intro h_3) | (refine CallK.pure (I0 _ _ _ _ h1) (J1 ?_); have h_3 := trivial) | (refine CallK.pure (Z6 _ _ _ _ h2) (J1 ?_); have h_3 := trivial)) <;> simp -implicitDefEqProofs -dsimp only [go_sem, seval, q05, U0, Bool.and_true, ↓J0 _ _ N3, ↓J0 _ _ N0, h_1, h_2, h_3]) | (have h_3 := trivial)) <;>
  (first | ((first | (apply K0 <;> intro h_4) | (refine CallK.pure (I0 _ _ _ _ h1) (J1 ?_); have h_4 := trivial) | (refine CallK.pure (Z6 _ _ _ _ h2) (J1 ?_); have h_4 := trivial)) <;> simp -implicitDefEqProofs -dsimp only [go_sem, seval, q05, U0, Bool.and_true, ↓J0 _ _ N3, ↓J0 _ _ N0, h_1, h_2, h_3, h_4]) | (have h_4 := trivial)) <;>
  (first | ((first | (apply K0 <;> intro h_5) | (refine CallK.pure (I0 _ _ _ _ h1) (J1 ?_); have h_5 := trivial) | (refine CallK.pure (Z6 _ _ _ _ h2) (J1 ?_); have h_5 := trivial)) <;> simp -implicitDefEqProofs -dsimp only [go_sem, seval, q05, U0, Bool.and_true, ↓J0 _ _ N3, ↓J0 _ _ N0, h_1, h_2, h_3, h_4, h_5]) | (have h_5 := trivial)) <;>
  (first | ((first | (apply K0 <;> intro h_6) | (refine CallK.pure (I0 _ _ _ _ h1) (J1 ?_); have h_6 := trivial) | (refine CallK.pure (Z6 _ _ _ _ h2) (J1 ?_); have h_6 := trivial)) <;> simp -implicitDefEqProofs -dsimp only [go_sem, seval, q05, U0, Bool.and_true, ↓J0 _ _ N3, ↓J0 _ _ N0, h_1, h_2, h_3, h_4, h_5, h_6]) | (have h_6 := trivial)) <;>
  (first | ((first | (apply K0 <;> intro h_7) | (refine CallK.pure (I0 _ _ _ _ h1) (J1 ?_); have h_7 := trivial) | (refine CallK.pure (Z6 _ _ _ _ h2) (J1 ?_); have h_7 := trivial)) <;> simp -implicitDefEqProofs -dsimp only [go_sem, seval, q05, U0, Bool.and_true, ↓J0 _ _ N3, ↓J0 _ _ N0, h_1, h_2, h_3, h_4, h_5, h_6, h_7]) | (have h_7 := trivial)) <;>
  (first | ((first | (apply K0 <;> intro h_8) | (refine CallK.pure (I0 _ _ _ _ h1) (J1 ?_); have h_8 := trivial) | (refine CallK.pure (Z6 _ _ _ _ h2) (J1 ?_); have h_8 := trivial)) <;> simp -implicitDefEqProofs -dsimp only [go_sem, seval, q05, U0, Bool.and_true, ↓J0 _ _ N3, ↓J0 _ _ N0, h_1, h_2, h_3, h_4, h_5, h_6, h_7, h_8]) | (have h_8 := trivial)) <;>
  (first | ((first | (apply K0 <;> intro h_9) | (refine CallK.pure (I0 _ _ _ _ h1) (J1 ?_); have h_9 := trivial) | (refine CallK.pure (Z6 _ _ _ _ h2) (J1 ?_); have h_9 := trivial)) <;> simp -implicitDefEqProofs -dsimp only [go_sem, seval, q05, U0, Bool.and_true, ↓J0 _ _ N3, ↓J0 _ _ N0, h_1, h_2, h_3, h_4, h_5, h_6, h_7, h_8, h_9]) | (have h_9 := trivial)) <;>
  (first | ((first | (apply K0 <;> intro h_10) | (refine CallK.pure (I0 _ _ _ _ h1) (J1 ?_); have h_10 := trivial) | (refine CallK.pure (Z6 _ _ _ _ h2) (J1 ?_); have h_10 := trivial)) <;> simp -implicitDefEqProofs -dsimp only [go_sem, seval, q05, U0, Bool.and_true, ↓J0 _ _ N3, ↓J0 _ _ N0, h_1, h_2, h_3, h_4, h_5, h_6, h_7, h_8, h_9, h_10]) | (have h_10 := trivial)) <;>
  (first | ((first | (apply K0 <;> intro h_11) | (refine CallK.pure (I0 _ _ _ _ h1) (J1 ?_); have h_11 := trivial) | (refine CallK.pure (Z6 _ _ _ _ h2) (J1 ?_); have h_11 := trivial)) <;> simp -implicitDefEqProofs -dsimp only [go_sem, seval, q05, U0, Bool.and_true, ↓J0 _ _ N3, ↓J0 _ _ N0, h_1, h_2, h_3, h_4, h_5, h_6, h_7, h_8, h_9, h_10, h_11]) | (have h_11 := trivial))
 all_goals (refine J9 ?_; simp only [enE, txE, *, Bool.true_and, Bool.and_true, Bool.false_and, Bool.and_false])
theorem za3 (x y : Cf) (h1 : Len x.ch.length /\ Len x.fu.length) (h2 : Len y.ch.length /\ Len y.fu.length) : PCalls prog q61 [.agg (cfC x), .agg (cfC y)] (.b (cfE x y)) := qsr x y _ _ _ _ h1.1 h1.2
theorem za4 (x y : En) (h1 : x.t.Fine) (h2 : y.t.Fine) : PCalls prog q3i [.agg (enC x), .agg (enC y)] (.b (enE x y)) := qip x y _ _ _ _ (by have := h1.r; unfold Len; omega) (by have := h1.w; unfold Len; omega)
def CfL (c : Cf) : Prop := Len c.ch.length /\ Len c.fu.length
def EnF (e : En) : Prop := e.t.Fine
theorem qjd {R : G9} (hR : ExtR R) {T : Tab} {xs ys : List Cf} {c1 c2 : Option Nat} (hl : Len xs.length) (hlen : xs.length = ys.length) (hx : ∀ x ∈ xs, CfL x) (hy : ∀ y ∈ ys, CfL y) : ∀ (us vs : List Cf) (k : Nat), xs.drop k = us -> ys.drop k = vs -> k <= xs.length ->
  (eqL cfE us vs = false -> R .ret [(6, .b false)] [] T) ->
  (eqL cfE us vs = true -> R (.exit 0) [(1, .fz ys.length (ys.flatMap cfC) c2), (2, .fn (.func q61) [] []), (15, .fz xs.length (xs.flatMap cfC) c1), (16, .i .i64 xs.length), (17, .i .i64 xs.length), (18, .b false)] [] T) ->
  AW prog U6 R [(1, .fz ys.length (ys.flatMap cfC) c2), (2, .fn (.func q61) [] []), (15, .fz xs.length (xs.flatMap cfC) c1), (16, .i .i64 xs.length), (17, .i .i64 k)] [] T := by
 intro us
 induction us with
 | nil =>
  intro vs k hk hv hle h1 h2
  have hk' := V6 hk hle
  have hvs : vs = [] := by rw [<- hv]; exact List.drop_eq_nil_iff.2 (by omega)
  subst hvs
  refine V1 hR ?_
  unfold U3
  simp -implicitDefEqProofs -dsimp only [go_sem, seval, hk', Int.lt_irrefl]
  rw [hk'] at h2
  exact h2 rfl
 | cons x us ih =>
  intro vs k hk hv hle h1 h2
  obtain ⟨hlt, hx1, hk'⟩ := Y6 hk
  obtain ⟨y, vs, rfl⟩ : ∃ y w, vs = y :: w := by
   cases vs with
   | nil => have := List.drop_eq_nil_iff.1 hv; omega
   | cons y w => exact ⟨y, w, rfl⟩
  obtain ⟨hlt2, hy1, hv'⟩ := Y6 hv
  have cl : ∀ c : Cf, (cfC c).length = 5 := fun _ => rfl
  have ea := q08 cl hx1
  have eb := q08 cl hy1
  have e5 : k * 5 + 5 <= (xs.flatMap cfC).length := by rw [Q5 cl]; omega
  have e6 : k * 5 + 5 <= (ys.flatMap cfC).length := by rw [Q5 cl]; omega
  unfold Len at hl
  have hs : IntKind.i64.wrap ((k : Int) + 1) = ((k + 1 : Nat) : Int) := O8 (by omega)
  have pc := za3 x y (hx x (List.mem_of_getElem? hx1)) (hy y (List.mem_of_getElem? hy1))
  simp only [cfC, Cf.cells] at pc
  simp only [eqL] at h1 h2
  refine Q1 (l := U6) rfl hR ?_
  unfold U3
  simp -implicitDefEqProofs -dsimp only [go_sem, seval, Int.ofNat_lt, hlt, hlt2, Int.natCast_nonneg, Int.toNat_natCast, ea, eb, e5, e6, cfC, Cf.cells, List.cons_append, List.nil_append, qcg _ _ _ _ _ _ qry]
  refine cpn pc ?_
  rcases he : cfE x y with _ | _
  ·simp -implicitDefEqProofs -dsimp only [go_sem, seval]
   exact h1 (by rw [he]; rfl)
  ·rw [he, Bool.true_and] at h1 h2
   simp -implicitDefEqProofs -dsimp only [go_sem, seval, hs]
   exact ih vs (k + 1) hk' hv' hlt h1 h2
theorem Q0 (xs ys : List Cf) (c1 c2 : Option Nat) (hl : Len xs.length) (hx : ∀ x ∈ xs, CfL x) (hy : ∀ y ∈ ys, CfL y) : PCalls prog Q3 [.fz xs.length (xs.flatMap cfC) c1, .fz ys.length (ys.flatMap cfC) c2, .fn (.func q61) [] []] (.b (eqL cfE xs ys)) := by
 refine K6 U1 q18 (by simp) fun T => ?_
 unfold Z9
 simp -implicitDefEqProofs -dsimp only [go_sem, seval]
 refine K0 (fun h => ?_) (fun h => ?_)
 ·have hne : xs.length ≠ ys.length := by simp at h; omega
  simp -implicitDefEqProofs -dsimp only [go_sem, seval]
  refine J9 ?_
  rw [qio _ hne]
 ·have heq : xs.length = ys.length := by simp at h; omega
  simp -implicitDefEqProofs -dsimp only [go_sem, seval]
  refine qjd (by repeat' (first | exact O6 _ _ | assumption | apply O5 | apply N4 | apply V8)) hl heq hx hy xs ys 0 rfl rfl (Nat.zero_le _) (fun h => ?_) (fun h => ?_) <;> simp -implicitDefEqProofs -dsimp only [go_sem, seval] <;> refine J9 ?_ <;> rw [h]
theorem qgs {R : G9} (hR : ExtR R) {T : Tab} {xs ys : List En} {c1 c2 : Option Nat} (hl : Len xs.length) (hlen : xs.length = ys.length) (hx : ∀ x ∈ xs, EnF x) (hy : ∀ y ∈ ys, EnF y) : ∀ (us vs : List En) (k : Nat), xs.drop k = us -> ys.drop k = vs -> k <= xs.length ->
  (eqL enE us vs = false -> R .ret [(6, .b false)] [] T) ->
  (eqL enE us vs = true -> R (.exit 0) [(1, .fz ys.length (ys.flatMap enC) c2), (2, .fn (.func q3i) [] []), (15, .fz xs.length (xs.flatMap enC) c1), (16, .i .i64 xs.length), (17, .i .i64 xs.length), (18, .b false)] [] T) ->
  AW prog Q7 R [(1, .fz ys.length (ys.flatMap enC) c2), (2, .fn (.func q3i) [] []), (15, .fz xs.length (xs.flatMap enC) c1), (16, .i .i64 xs.length), (17, .i .i64 k)] [] T := by
 intro us
 induction us with
 | nil =>
  intro vs k hk hv hle h1 h2
  have hk' := V6 hk hle
  have hvs : vs = [] := by rw [<- hv]; exact List.drop_eq_nil_iff.2 (by omega)
  subst hvs
  refine V1 hR ?_
  unfold Q6
  simp -implicitDefEqProofs -dsimp only [go_sem, seval, hk', Int.lt_irrefl]
  rw [hk'] at h2
  exact h2 rfl
 | cons x us ih =>
  intro vs k hk hv hle h1 h2
  obtain ⟨hlt, hx1, hk'⟩ := Y6 hk
  obtain ⟨y, vs, rfl⟩ : ∃ y w, vs = y :: w := by
   cases vs with
   | nil => have := List.drop_eq_nil_iff.1 hv; omega
   | cons y w => exact ⟨y, w, rfl⟩
  obtain ⟨hlt2, hy1, hv'⟩ := Y6 hv
  have cl : ∀ c : En, (enC c).length = 10 := fun _ => rfl
  have ea := q08 cl hx1
  have eb := q08 cl hy1
  have e5 : k * 10 + 10 <= (xs.flatMap enC).length := by rw [Q5 cl]; omega
  have e6 : k * 10 + 10 <= (ys.flatMap enC).length := by rw [Q5 cl]; omega
  unfold Len at hl
  have hs : IntKind.i64.wrap ((k : Int) + 1) = ((k + 1 : Nat) : Int) := O8 (by omega)
  have pc := za4 x y (hx x (List.mem_of_getElem? hx1)) (hy y (List.mem_of_getElem? hy1))
  simp only [enC, En.cells] at pc
  simp only [eqL] at h1 h2
  refine Q1 (l := Q7) rfl hR ?_
  unfold Q6
  simp -implicitDefEqProofs -dsimp only [go_sem, seval, Int.ofNat_lt, hlt, hlt2, Int.natCast_nonneg, Int.toNat_natCast, ea, eb, e5, e6, enC, En.cells, List.cons_append, List.nil_append, qcg _ _ _ _ _ _ qi4]
  refine cpn pc ?_
  rcases he : enE x y with _ | _
  ·simp -implicitDefEqProofs -dsimp only [go_sem, seval]
   exact h1 (by rw [he]; rfl)
  ·rw [he, Bool.true_and] at h1 h2
   simp -implicitDefEqProofs -dsimp only [go_sem, seval, hs]
   exact ih vs (k + 1) hk' hv' hlt h1 h2
theorem N9 (xs ys : List En) (c1 c2 : Option Nat) (hl : Len xs.length) (hx : ∀ x ∈ xs, EnF x) (hy : ∀ y ∈ ys, EnF y) : PCalls prog O0 [.fz xs.length (xs.flatMap enC) c1, .fz ys.length (ys.flatMap enC) c2, .fn (.func q3i) [] []] (.b (eqL enE xs ys)) := by
 refine K6 U1 q0h (by simp) fun T => ?_
 unfold V9
 simp -implicitDefEqProofs -dsimp only [go_sem, seval]
 refine K0 (fun h => ?_) (fun h => ?_)
 ·have hne : xs.length ≠ ys.length := by simp at h; omega
  simp -implicitDefEqProofs -dsimp only [go_sem, seval]
  refine J9 ?_
  rw [qio _ hne]
 ·have heq : xs.length = ys.length := by simp at h; omega
  simp -implicitDefEqProofs -dsimp only [go_sem, seval]
  refine qgs (by repeat' (first | exact O6 _ _ | assumption | apply O5 | apply N4 | apply V8)) hl heq hx hy xs ys 0 rfl rfl (Nat.zero_le _) (fun h => ?_) (fun h => ?_) <;> simp -implicitDefEqProofs -dsimp only [go_sem, seval] <;> refine J9 ?_ <;> rw [h]
end Go.Aw
