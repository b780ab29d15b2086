import Derived.Test.YtchdmofoaokpjaaGreatDoorM30N17M17E
namespace Go.Aw
open Go
open Go.Proofs.Tryz (prog)
set_option linter.all false
set_option maxHeartbeats 8000000
set_option maxRecDepth 8000
def qzv (v : Vt) : Bool := !z8n v
def qzw (c : Cf) : Bool := !c.right
def qzx (e : En) : Bool := !qh8 e
theorem z2y (v : Vt) (_ : True) : PCalls prog G1 [.agg (vtC v)] (.b (qzv v)) := by
 refine K6 U1 qa9 (by simp) fun T => ?_
 unfold q6b
 have h := qpe v
 simp only [vtC] at h
 simp -implicitDefEqProofs -dsimp only [go_sem, seval, vtC, ↓J0 _ _ qf8]
 refine cpn h ?_
 simp -implicitDefEqProofs -dsimp only [go_sem, seval]
 exact J9 rfl
theorem z2z (c : Cf) (h : CfL c) : PCalls prog G2 [.agg (cfC c)] (.b (qzw c)) := by
 refine K6 U1 qac (by simp) fun T => ?_
 unfold q6c
 have h := qaj c none none h.1
 simp only [Cf.cells] at h
 simp -implicitDefEqProofs -dsimp only [go_sem, seval, cfC, Cf.cells, ↓J0 _ _ qbs]
 refine cpn h ?_
 simp -implicitDefEqProofs -dsimp only [go_sem, seval]
 exact J9 rfl
theorem z30 (e : En) (h : EnF e) : PCalls prog G3 [.agg (enC e)] (.b (qzx e)) := by
 refine K6 U1 qaf (by simp) fun T => ?_
 unfold q6d
 have h := q9m e none none h
 simp only [En.cells] at h
 simp -implicitDefEqProofs -dsimp only [go_sem, seval, enC, En.cells, ↓J0 _ _ q6e]
 refine cpn h ?_
 simp -implicitDefEqProofs -dsimp only [go_sem, seval]
 exact J9 rfl
def VtT (v : Vt) : Prop := True
theorem qg4 {R : q02} (hR : ExtR R) {T : Tab} {xs : List Vt} {cap : Option Nat} (hl : Len xs.length) (hx : ∀ x ∈ xs, VtT x) : ∀ (us : List Vt) (k : Nat), xs.drop k = us -> k <= xs.length ->
  (us.any qzv = true -> ∀ j : Nat, R .ret [(4, .i .i64 j)] [] T) ->
  (us.any qzv = false -> R (.exit 0) [(0, .fz xs.length (xs.flatMap vtC) cap), (1, .fn (.func G1) [] []), (7, .i .i64 xs.length), (8, .i .i64 xs.length), (9, .b false)] [] T) ->
  AW prog G4 R [(0, .fz xs.length (xs.flatMap vtC) cap), (1, .fn (.func G1) [] []), (7, .i .i64 xs.length), (8, .i .i64 k)] [] T := by
 intro us
 induction us with
 | nil =>
  intro k hk hle h1 h2
  have hk' := G7 hk hle
  refine Y2 hR ?_
  unfold Z7
  simp -implicitDefEqProofs -dsimp only [go_sem, seval, hk', Int.lt_irrefl]
  rw [hk'] at h2
  exact h2 rfl
 | cons x us ih =>
  intro k hk hle h1 h2
  obtain ⟨hlt, hx1, hk'⟩ := I2 hk
  have cl : ∀ c : Vt, (vtC c).length = 4 := fun _ => rfl
  have ea := q16 cl hx1
  have e5 : k * 4 + 4 <= (xs.flatMap vtC).length := by rw [U7 cl]; omega
  unfold Len at hl
  have hs : IntKind.i64.wrap ((k : Int) + 1) = ((k + 1 : Nat) : Int) := Q9 (by omega)
  have pc := z2y x (hx x (List.mem_of_getElem? hx1))
  simp only [vtC] at pc
  simp only [List.any_cons] at h1 h2
  refine Q8 (l := G4) rfl hR ?_
  unfold Z7
  simp -implicitDefEqProofs -dsimp only [go_sem, seval, Int.ofNat_lt, hlt, Int.natCast_nonneg, Int.toNat_natCast, ea, e5, vtC, List.cons_append, List.nil_append, qbb _ _ _ _ _ _ qaa]
  refine cpn pc ?_
  rcases he : qzv x with _ | _
  ·rw [he, Bool.false_or] at h1 h2
   simp -implicitDefEqProofs -dsimp only [go_sem, seval, hs]
   exact ih (k + 1) hk' hlt h1 h2
  ·simp -implicitDefEqProofs -dsimp only [go_sem, seval]
   exact h1 (by rw [he]; rfl) k
theorem q0i (xs : List Vt) (cap : Option Nat) (hl : Len xs.length) (hx : ∀ x ∈ xs, VtT x) : PCalls prog U8 [.fz xs.length (xs.flatMap vtC) cap, .fn (.func G1) [] []] (.b (xs.any qzv)) := by
 have cI : ∀ T, ACalls prog V1 [.fz xs.length (xs.flatMap vtC) cap, .fn (.func G1) [] []] T (fun r T' => ∃ j : Int, r = .i .i64 j /\ decide (0 <= j) = xs.any qzv /\ T' = T) := fun T => by
  refine U6 U1 q3n (by simp) ?_
  unfold q0p
  simp -implicitDefEqProofs -dsimp only [go_sem, seval]
  refine qg4 (T := T) (by repeat' (first | exact Q2 _ _ | assumption | apply Q1 | apply N7 | apply Z0)) hl hx xs 0 rfl (Nat.zero_le _) (fun h j => ?_) (fun h => ?_)
  ·simp -implicitDefEqProofs -dsimp only [go_sem, seval]
   exact V9 _ (fun _ => .inr (.inl rfl)) ⟨(j : Int), rfl, by rw [h]; exact decide_eq_true (by omega), rfl⟩
  ·simp -implicitDefEqProofs -dsimp only [go_sem, seval]
   exact V9 _ (fun _ => .inr (.inl rfl)) ⟨-1, rfl, by rw [h]; rfl, rfl⟩
 refine K6 U1 q37 (by simp) fun T => ?_
 unfold q0g
 simp -implicitDefEqProofs -dsimp only [go_sem, seval, ↓J0 _ _ q3o]
 refine CallK.of (cI T) (fun r T1 ⟨j, e1, e2, e3⟩ => J1 ?_)
 subst e1; subst e3
 simp -implicitDefEqProofs -dsimp only [go_sem, seval, e2]
 exact J9 rfl
theorem qk0 {R : q02} (hR : ExtR R) {T : Tab} {xs : List Cf} {cap : Option Nat} (hl : Len xs.length) (hx : ∀ x ∈ xs, CfL x) : ∀ (us : List Cf) (k : Nat), xs.drop k = us -> k <= xs.length ->
  (us.any qzw = true -> ∀ j : Nat, R .ret [(4, .i .i64 j)] [] T) ->
  (us.any qzw = false -> R (.exit 0) [(0, .fz xs.length (xs.flatMap cfC) cap), (1, .fn (.func G2) [] []), (7, .i .i64 xs.length), (8, .i .i64 xs.length), (9, .b false)] [] T) ->
  AW prog I9 R [(0, .fz xs.length (xs.flatMap cfC) cap), (1, .fn (.func G2) [] []), (7, .i .i64 xs.length), (8, .i .i64 k)] [] T := by
 intro us
 induction us with
 | nil =>
  intro k hk hle h1 h2
  have hk' := G7 hk hle
  refine Y2 hR ?_
  unfold I5
  simp -implicitDefEqProofs -dsimp only [go_sem, seval, hk', Int.lt_irrefl]
  rw [hk'] at h2
  exact h2 rfl
 | cons x us ih =>
  intro k hk hle h1 h2
  obtain ⟨hlt, hx1, hk'⟩ := I2 hk
  have cl : ∀ c : Cf, (cfC c).length = 5 := fun _ => rfl
  have ea := q16 cl hx1
  have e5 : k * 5 + 5 <= (xs.flatMap cfC).length := by rw [U7 cl]; omega
  unfold Len at hl
  have hs : IntKind.i64.wrap ((k : Int) + 1) = ((k + 1 : Nat) : Int) := Q9 (by omega)
  have pc := z2z x (hx x (List.mem_of_getElem? hx1))
  simp only [cfC, Cf.cells] at pc
  simp only [List.any_cons] at h1 h2
  refine Q8 (l := I9) rfl hR ?_
  unfold I5
  simp -implicitDefEqProofs -dsimp only [go_sem, seval, Int.ofNat_lt, hlt, Int.natCast_nonneg, Int.toNat_natCast, ea, e5, cfC, Cf.cells, List.cons_append, List.nil_append, qbb _ _ _ _ _ _ qad]
  refine cpn pc ?_
  rcases he : qzw x with _ | _
  ·rw [he, Bool.false_or] at h1 h2
   simp -implicitDefEqProofs -dsimp only [go_sem, seval, hs]
   exact ih (k + 1) hk' hlt h1 h2
  ·simp -implicitDefEqProofs -dsimp only [go_sem, seval]
   exact h1 (by rw [he]; rfl) k
theorem q17 (xs : List Cf) (cap : Option Nat) (hl : Len xs.length) (hx : ∀ x ∈ xs, CfL x) : PCalls prog V5 [.fz xs.length (xs.flatMap cfC) cap, .fn (.func G2) [] []] (.b (xs.any qzw)) := by
 have cI : ∀ T, ACalls prog Y6 [.fz xs.length (xs.flatMap cfC) cap, .fn (.func G2) [] []] T (fun r T' => ∃ j : Int, r = .i .i64 j /\ decide (0 <= j) = xs.any qzw /\ T' = T) := fun T => by
  refine U6 U1 q4i (by simp) ?_
  unfold q1e
  simp -implicitDefEqProofs -dsimp only [go_sem, seval]
  refine qk0 (T := T) (by repeat' (first | exact Q2 _ _ | assumption | apply Q1 | apply N7 | apply Z0)) hl hx xs 0 rfl (Nat.zero_le _) (fun h j => ?_) (fun h => ?_)
  ·simp -implicitDefEqProofs -dsimp only [go_sem, seval]
   exact V9 _ (fun _ => .inr (.inl rfl)) ⟨(j : Int), rfl, by rw [h]; exact decide_eq_true (by omega), rfl⟩
  ·simp -implicitDefEqProofs -dsimp only [go_sem, seval]
   exact V9 _ (fun _ => .inr (.inl rfl)) ⟨-1, rfl, by rw [h]; rfl, rfl⟩
 refine K6 U1 q3y (by simp) fun T => ?_
 unfold q0v
 simp -implicitDefEqProofs -dsimp only [go_sem, seval, ↓J0 _ _ q4j]
 refine CallK.of (cI T) (fun r T1 ⟨j, e1, e2, e3⟩ => J1 ?_)
 subst e1; subst e3
 simp -implicitDefEqProofs -dsimp only [go_sem, seval, e2]
 exact J9 rfl
theorem qg5 {R : q02} (hR : ExtR R) {T : Tab} {xs : List En} {cap : Option Nat} (hl : Len xs.length) (hx : ∀ x ∈ xs, EnF x) : ∀ (us : List En) (k : Nat), xs.drop k = us -> k <= xs.length ->
  (us.any qzx = true -> ∀ j : Nat, R .ret [(4, .i .i64 j)] [] T) ->
  (us.any qzx = false -> R (.exit 0) [(0, .fz xs.length (xs.flatMap enC) cap), (1, .fn (.func G3) [] []), (7, .i .i64 xs.length), (8, .i .i64 xs.length), (9, .b false)] [] T) ->
  AW prog G5 R [(0, .fz xs.length (xs.flatMap enC) cap), (1, .fn (.func G3) [] []), (7, .i .i64 xs.length), (8, .i .i64 k)] [] T := by
 intro us
 induction us with
 | nil =>
  intro k hk hle h1 h2
  have hk' := G7 hk hle
  refine Y2 hR ?_
  unfold Z8
  simp -implicitDefEqProofs -dsimp only [go_sem, seval, hk', Int.lt_irrefl]
  rw [hk'] at h2
  exact h2 rfl
 | cons x us ih =>
  intro k hk hle h1 h2
  obtain ⟨hlt, hx1, hk'⟩ := I2 hk
  have cl : ∀ c : En, (enC c).length = 10 := fun _ => rfl
  have ea := q16 cl hx1
  have e5 : k * 10 + 10 <= (xs.flatMap enC).length := by rw [U7 cl]; omega
  unfold Len at hl
  have hs : IntKind.i64.wrap ((k : Int) + 1) = ((k + 1 : Nat) : Int) := Q9 (by omega)
  have pc := z30 x (hx x (List.mem_of_getElem? hx1))
  simp only [enC, En.cells] at pc
  simp only [List.any_cons] at h1 h2
  refine Q8 (l := G5) rfl hR ?_
  unfold Z8
  simp -implicitDefEqProofs -dsimp only [go_sem, seval, Int.ofNat_lt, hlt, Int.natCast_nonneg, Int.toNat_natCast, ea, e5, enC, En.cells, List.cons_append, List.nil_append, qbb _ _ _ _ _ _ qag]
  refine cpn pc ?_
  rcases he : qzx x with _ | _
  ·rw [he, Bool.false_or] at h1 h2
   simp -implicitDefEqProofs -dsimp only [go_sem, seval, hs]
   exact ih (k + 1) hk' hlt h1 h2
  ·simp -implicitDefEqProofs -dsimp only [go_sem, seval]
   exact h1 (by rw [he]; rfl) k
theorem q0j (xs : List En) (cap : Option Nat) (hl : Len xs.length) (hx : ∀ x ∈ xs, EnF x) : PCalls prog U9 [.fz xs.length (xs.flatMap enC) cap, .fn (.func G3) [] []] (.b (xs.any qzx)) := by
 have cI : ∀ T, ACalls prog V2 [.fz xs.length (xs.flatMap enC) cap, .fn (.func G3) [] []] T (fun r T' => ∃ j : Int, r = .i .i64 j /\ decide (0 <= j) = xs.any qzx /\ T' = T) := fun T => by
  refine U6 U1 q3q (by simp) ?_
  unfold q0q
  simp -implicitDefEqProofs -dsimp only [go_sem, seval]
  refine qg5 (T := T) (by repeat' (first | exact Q2 _ _ | assumption | apply Q1 | apply N7 | apply Z0)) hl hx xs 0 rfl (Nat.zero_le _) (fun h j => ?_) (fun h => ?_)
  ·simp -implicitDefEqProofs -dsimp only [go_sem, seval]
   exact V9 _ (fun _ => .inr (.inl rfl)) ⟨(j : Int), rfl, by rw [h]; exact decide_eq_true (by omega), rfl⟩
  ·simp -implicitDefEqProofs -dsimp only [go_sem, seval]
   exact V9 _ (fun _ => .inr (.inl rfl)) ⟨-1, rfl, by rw [h]; rfl, rfl⟩
 refine K6 U1 q39 (by simp) fun T => ?_
 unfold q0h
 simp -implicitDefEqProofs -dsimp only [go_sem, seval, ↓J0 _ _ q3r]
 refine CallK.of (cI T) (fun r T1 ⟨j, e1, e2, e3⟩ => J1 ?_)
 subst e1; subst e3
 simp -implicitDefEqProofs -dsimp only [go_sem, seval, e2]
 exact J9 rfl
def qui (l : List Vt) : Bool := decide ((l.length : Int) <= 400) && !(l.any qzv)
def quj (l : List Cf) : Bool := decide ((l.length : Int) <= 4) && !(l.any qzw)
def quk (l : List En) : Bool := decide ((l.length : Int) <= 8) && !(l.any qzx)
def liF (l : Lt Cf) (s : Int) : Bool := if decide (s = 118) = true then qui l.vs else if decide (s = 99) = true then quj l.cs else if decide (s = 108) = true then quk l.es else true
theorem qzy (l : Lt Cf) (s : Int) (h : l.Small) : PCalls prog q2d [.agg l.cc, .i .u8 s] (.b (liF l s)) := by
 refine K6 U1 qbk (by simp) fun T => ?_
 unfold q6x
 simp -implicitDefEqProofs -dsimp only [go_sem, seval, Lt.cells]
 (first | ((first | (apply K0 <;> intro h_1) | (refine CallK.pure (q0i _ _ h.vs (fun _ _ => trivial)) (J1 ?_); have h_1 := trivial) | (refine CallK.pure (q17 _ _ h.cs h.c) (J1 ?_); have h_1 := trivial) | (refine CallK.pure (q0j _ _ h.es h.e) (J1 ?_); have h_1 := trivial)) <;> simp -implicitDefEqProofs -dsimp only [go_sem, seval, ↓J0 _ _ N3, ↓J0 _ _ N6, ↓J0 _ _ N4, h_1]) | (have h_1 := trivial)) <;>
  (first | ((first | (apply K0 <;> intro h_2) | (refine CallK.pure (q0i _ _ h.vs (fun _ _ => trivial)) (J1 ?_); have h_2 := trivial) | (refine CallK.pure (q17 _ _ h.cs h.c) (J1 ?_); have h_2 := trivial) | (refine CallK.pure (q0j _ _ h.es h.e) (J1 ?_); have h_2 := trivial)) <;> simp -implicitDefEqProofs -dsimp only [go_sem, seval, ↓J0 _ _ N3, ↓J0 _ _ N6, ↓J0 _ _ N4, h_1, h_2]) | (have h_2 := trivial)) <;>
  (first | ((first | (apply K0 <;> intro h_3) | (refine CallK.pure (q0i _ _ h.vs (fun _ _ => trivial)) (J1 ?_); have h_3 := trivial) | (refine CallK.pure (q17 _ _ h.cs h.c) (J1 ?_); have h_3 := trivial) | (refine CallK.pure (q0j _ _ h.es h.e) (J1 ?_); have h_3 := trivial)) <;> simp -implicitDefEqProofs -dsimp only [go_sem, seval, ↓J0 _ _ N3, ↓J0 _ _ N6, ↓J0 _ _ N4, h_1, h_2, h_3]) | (have h_3 := trivial)) <;>
  (first | ((first | (apply K0 <;> intro h_4) | (refine CallK.pure (q0i _ _ h.vs (fun _ _ => trivial)) (J1 ?_); have h_4 := trivial) | (refine CallK.pure (q17 _ _ h.cs h.c) (J1 ?_); have h_4 := trivial) | (refine CallK.pure (q0j _ _ h.es h.e) (J1 ?_); have h_4 := trivial)) <;> simp -implicitDefEqProofs -dsimp only [go_sem, seval, ↓J0 _ _ N3, ↓J0 _ _ N6, ↓J0 _ _ N4, h_1, h_2, h_3, h_4]) | (have h_4 := trivial)) <;>
  (first | ((first | (apply K0 <;> intro h_5) | (refine CallK.pure (q0i _ _ h.vs (fun _ _ => trivial)) (J1 ?_); have h_5 := trivial) | (refine CallK.pure (q17 _ _ h.cs h.c) (J1 ?_); have h_5 := trivial) | (refine CallK.pure (q0j _ _ h.es h.e) (J1 ?_); have h_5 := trivial)) <;> simp -implicitDefEqProofs -dsimp only [go_sem, seval, ↓J0 _ _ N3, ↓J0 _ _ N6, ↓J0 _ _ N4, h_1, h_2, h_3, h_4, h_5]) | (have h_5 := trivial)) <;>
  (first | ((first | (apply K0 <;> intro h_6) | (refine CallK.pure (q0i _ _ h.vs (fun _ _ => trivial)) (J1 ?_); have h_6 := trivial) | (refine CallK.pure (q17 _ _ h.cs h.c) (J1 ?_); have h_6 := trivial) | (refine CallK.pure (q0j _ _ h.es h.e) (J1 ?_); have h_6 := trivial)) <;> simp -implicitDefEqProofs -dsimp only [go_sem, seval, ↓J0 _ _ N3, ↓J0 _ _ N6, ↓J0 _ _ N4, h_1, h_2, h_3, h_4, h_5, h_6]) | (have h_6 := trivial)) <;>
  (first | ((first | (apply K0 <;> intro h_7) | (refine CallK.pure (q0i _ _ h.vs (fun _ _ => trivial)) (J1 ?_); have h_7 := trivial) | (refine CallK.pure (q17 _ _ h.cs h.c) (J1 ?_); have h_7 := trivial) | (refine CallK.pure (q0j _ _ h.es h.e) (J1 ?_); have h_7 := trivial)) <;> simp -implicitDefEqProofs -dsimp only [go_sem, seval, ↓J0 _ _ N3, ↓J0 _ _ N6, ↓J0 _ _ N4, h_1, h_2, h_3, h_4, h_5, h_6, h_7]) | (have h_7 := trivial)) <;>
  (first | ((first | (apply K0 <;> intro h_8) | (refine CallK.pure (q0i _ _ h.vs (fun _ _ => trivial)) (J1 ?_); have h_8 := trivial) | (refine CallK.pure (q17 _ _ h.cs h.c) (J1 ?_); have h_8 := trivial) | (refine CallK.pure (q0j _ _ h.es h.e) (J1 ?_); have h_8 := trivial)) <;> simp -implicitDefEqProofs -dsimp only [go_sem, seval, ↓J0 _ _ N3, ↓J0 _ _ N6, ↓J0 _ _ N4, h_1, h_2, h_3, h_4, h_5, h_6, h_7, h_8]) | (have h_8 := trivial))
 all_goals (refine J9 ?_; simp only [liF, qui, quj, quk, *, if_true, Bool.false_eq_true, if_false, Bool.true_and, Bool.and_true, Bool.false_and, Bool.and_false])
def maF (l : Lt Cf) (s : Int) : Bool :=
 if decide (s = 115) = true then decide (0 <= l.sh) && decide (l.sh < 4) else if decide (s = 110) = true then qkr l.n else if decide (s = 109) = true then qkr l.m else if decide (s = 111) = true then decide (0 <= l.nd) && decide (l.nd < 8) else
 if decide (s = 98) = true then qi9 l.bn else if decide (s = 120) = true then qrd l.t else if decide (s = 105) = true then qkq l.cl l.sq else if decide (s = 116) = true then decide ((l.v.length : Int) <= 64) else
 if decide (s = 114) = true then decide (0 <= l.co) && decide (l.co <= 99) else liF l s
theorem z7o (l : Lt Cf) (s : Int) (h : l.Small) (ht : l.t.Fine) : PCalls prog q3d [.agg l.cc, .i .u8 s] (.b (maF l s)) := by
 refine K6 U1 qdp (by simp) fun T => ?_
 have hl := qzy l s h
 have hx := qe2 l.t none none ht
 simp only [Tx.cells, Lt.cells] at hl hx
 unfold q7w
 simp -implicitDefEqProofs -dsimp only [go_sem, seval, Lt.cells]
 (first | ((first | (apply K0 <;> intro h_1) | (refine CallK.pure (q5b _) (J1 ?_); have h_1 := trivial) | (refine CallK.pure (V0 _ _) (J1 ?_); have h_1 := trivial) | (refine CallK.pure (hx) (J1 ?_); have h_1 := trivial) | (refine CallK.pure (q1f _ _) (J1 ?_); have h_1 := trivial) | (refine CallK.pure (hl) (J1 ?_); have h_1 := trivial)) <;> simp -implicitDefEqProofs -dsimp only [go_sem, seval, ↓J0 _ _ q00, ↓J0 _ _ K8, ↓J0 _ _ V3, ↓J0 _ _ Y0, ↓J0 _ _ U0, h_1]) | (have h_1 := trivial)) <;>
  (first | ((first | (apply K0 <;> intro h_2) | (refine CallK.pure (q5b _) (J1 ?_); have h_2 := trivial) | (refine CallK.pure (V0 _ _) (J1 ?_); have h_2 := trivial) | (refine CallK.pure (hx) (J1 ?_); have h_2 := trivial) | (refine CallK.pure (q1f _ _) (J1 ?_); have h_2 := trivial) | (refine CallK.pure (hl) (J1 ?_); have h_2 := trivial)) <;> simp -implicitDefEqProofs -dsimp only [go_sem, seval, ↓J0 _ _ q00, ↓J0 _ _ K8, ↓J0 _ _ V3, ↓J0 _ _ Y0, ↓J0 _ _ U0, h_1, h_2]) | (have h_2 := trivial)) <;>
  (first | ((first | (apply K0 <;> intro h_3) | (refine CallK.pure (q5b _) (J1 ?_); have h_3 := trivial) | (refine CallK.pure (V0 _ _) (J1 ?_); have h_3 := trivial) | (refine CallK.pure (hx) (J1 ?_); have h_3 := trivial) | (refine CallK.pure (q1f _ _) (J1 ?_); have h_3 := trivial) | (refine CallK.pure (hl) (J1 ?_); have h_3 := trivial)) <;> simp -implicitDefEqProofs -dsimp only [go_sem, seval, ↓J0 _ _ q00, ↓J0 _ _ K8, ↓J0 _ _ V3, ↓J0 _ _ Y0, ↓J0 _ _ U0, h_1, h_2, h_3]) | (have h_3 := trivial)) <;>
  (first | ((first | (apply K0 <;> intro h_4) | (refine CallK.pure (q5b _) (J1 ?_); have h_4 := trivial) | (refine CallK.pure (V0 _ _) (J1 ?_); have h_4 := trivial) | (refine CallK.pure (hx) (J1 ?_); have h_4 := trivial) | (refine CallK.pure (q1f _ _) (J1 ?_); have h_4 := trivial) | (refine CallK.pure (hl) (J1 ?_); have h_4 := trivial)) <;> simp -implicitDefEqProofs -dsimp only [go_sem, seval, ↓J0 _ _ q00, ↓J0 _ _ K8, ↓J0 _ _ V3, ↓J0 _ _ Y0, ↓J0 _ _ U0, h_1, h_2, h_3, h_4]) | (have h_4 := trivial)) <;>
  (first | ((first | (apply K0 <;> intro h_5) | (refine CallK.pure (q5b _) (J1 ?_); have h_5 := trivial) | (refine CallK.pure (V0 _ _) (J1 ?_); have h_5 := trivial) | (refine CallK.pure (hx) (J1 ?_); have h_5 := trivial) | (refine CallK.pure (q1f _ _) (J1 ?_); have h_5 := trivial) | (refine CallK.pure (hl) (J1 ?_); have h_5 := trivial)) <;> simp -implicitDefEqProofs -dsimp only [go_sem, seval, ↓J0 _ _ q00, ↓J0 _ _ K8, ↓J0 _ _ V3, ↓J0 _ _ Y0, ↓J0 _ _ U0, h_1, h_2, h_3, h_4, h_5]) | (have h_5 := trivial)) <;>
  (first | ((first | (apply K0 <;> intro h_6) | (refine CallK.pure (q5b _) (J1 ?_); have h_6 := trivial) | (refine CallK.pure (V0 _ _) (J1 ?_); have h_6 := trivial) | (refine CallK.pure (hx) (J1 ?_); have h_6 := trivial) | (refine CallK.pure (q1f _ _) (J1 ?_); have h_6 := trivial) | (refine CallK.pure (hl) (J1 ?_); have h_6 := trivial)) <;> simp -implicitDefEqProofs -dsimp only [go_sem, seval, ↓J0 _ _ q00, ↓J0 _ _ K8, ↓J0 _ _ V3, ↓J0 _ _ Y0, ↓J0 _ _ U0, h_1, h_2, h_3, h_4, h_5, h_6]) | (have h_6 := trivial)) <;>
  (first | ((first | (apply K0 <;> intro h_7) | (refine CallK.pure (q5b _) (J1 ?_); have h_7 := trivial) | (refine CallK.pure (V0 _ _) (J1 ?_); have h_7 := trivial) | (refine CallK.pure (hx) (J1 ?_); have h_7 := trivial) | (refine CallK.pure (q1f _ _) (J1 ?_); have h_7 := trivial) | (refine CallK.pure (hl) (J1 ?_); have h_7 := trivial)) <;> simp -implicitDefEqProofs -dsimp only [go_sem, seval, ↓J0 _ _ q00, ↓J0 _ _ K8, ↓J0 _ _ V3, ↓J0 _ _ Y0, ↓J0 _ _ U0, h_1, h_2, h_3, h_4, h_5, h_6, h_7]) | (have h_7 := trivial)) <;>
  (first | ((first | (apply K0 <;> intro h_8) | (refine CallK.pure (q5b _) (J1 ?_); have h_8 := trivial) | (refine CallK.pure (V0 _ _) (J1 ?_); have h_8 := trivial) | (refine CallK.pure (hx) (J1 ?_); have h_8 := trivial) | (refine CallK.pure (q1f _ _) (J1 ?_); have h_8 := trivial) | (refine CallK.pure (hl) (J1 ?_); have h_8 := trivial)) <;> simp -implicitDefEqProofs -dsimp only [go_sem, seval, ↓J0 _ _ q00, ↓J0 _ _ K8, ↓J0 _ _ V3, ↓J0 _ _ Y0, ↓J0 _ _ U0, h_1, h_2, h_3, h_4, h_5, h_6, h_7, h_8]) | (have h_8 := trivial)) <;>
  (first | ((first | (apply K0 <;> intro h_9) | (refine CallK.pure (q5b _) (J1 ?_); have h_9 := trivial) | (refine CallK.pure (V0 _ _) (J1 ?_); have h_9 := trivial) | (refine CallK.pure (hx) (J1 ?_); have h_9 := trivial) | (refine CallK.pure (q1f _ _) (J1 ?_); have h_9 := trivial) | (refine CallK.pure (hl) (J1 ?_); have h_9 := trivial)) <;> simp -implicitDefEqProofs -dsimp only [go_sem, seval, ↓J0 _ _ q00, ↓J0 _ _ K8, ↓J0 _ _ V3, ↓J0 _ _ Y0, ↓J0 _ _ U0, h_1, h_2, h_3, h_4, h_5, h_6, h_7, h_8, h_9]) | (have h_9 := trivial)) <;>
  (first | ((first | (apply K0 <;> intro h_10) | (refine CallK.pure (q5b _) (J1 ?_); have h_10 := trivial) | (refine CallK.pure (V0 _ _) (J1 ?_); have h_10 := trivial) | (refine CallK.pure (hx) (J1 ?_); have h_10 := trivial) | (refine CallK.pure (q1f _ _) (J1 ?_); have h_10 := trivial) | (refine CallK.pure (hl) (J1 ?_); have h_10 := trivial)) <;> simp -implicitDefEqProofs -dsimp only [go_sem, seval, ↓J0 _ _ q00, ↓J0 _ _ K8, ↓J0 _ _ V3, ↓J0 _ _ Y0, ↓J0 _ _ U0, h_1, h_2, h_3, h_4, h_5, h_6, h_7, h_8, h_9, h_10]) | (have h_10 := trivial)) <;>
  (first | ((first | (apply K0 <;> intro h_11) | (refine CallK.pure (q5b _) (J1 ?_); have h_11 := trivial) | (refine CallK.pure (V0 _ _) (J1 ?_); have h_11 := trivial) | (refine CallK.pure (hx) (J1 ?_); have h_11 := trivial) | (refine CallK.pure (q1f _ _) (J1 ?_); have h_11 := trivial) | (refine CallK.pure (hl) (J1 ?_); have h_11 := trivial)) <;> simp -implicitDefEqProofs -dsimp only [go_sem, seval, ↓J0 _ _ q00, ↓J0 _ _ K8, ↓J0 _ _ V3, ↓J0 _ _ Y0, ↓J0 _ _ U0, h_1, h_2, h_3, h_4, h_5, h_6, h_7, h_8, h_9, h_10, h_11]) | (have h_11 := trivial)) <;>
  (first | ((first | (apply K0 <;> intro h_12) | (refine CallK.pure (q5b _) (J1 ?_); have h_12 := trivial) | (refine CallK.pure (V0 _ _) (J1 ?_); have h_12 := trivial) | (refine CallK.pure (hx) (J1 ?_); have h_12 := trivial) | (refine CallK.pure (q1f _ _) (J1 ?_); have h_12 := trivial) | (refine CallK.pure (hl) (J1 ?_); have h_12 := trivial)) <;> simp -implicitDefEqProofs -dsimp only [go_sem, seval, ↓J0 _ _ q00, ↓J0 _ _ K8, ↓J0 _ _ V3, ↓J0 _ _ Y0, ↓J0 _ _ U0, h_1, h_2, h_3, h_4, h_5, h_6, h_7, h_8, h_9, h_10, h_11, h_12]) | (have h_12 := trivial))
 all_goals (refine J9 ?_; simp only [maF, *, if_true, Bool.false_eq_true, if_false, Bool.true_and, Bool.and_true, Bool.false_and, Bool.and_false])
end Go.Aw
