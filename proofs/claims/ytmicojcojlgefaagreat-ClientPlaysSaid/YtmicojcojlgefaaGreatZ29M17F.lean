import Derived.Test.YtmicojcojlgefaaGreatZ29M17E
namespace Go.Aw
open Go
open Go.Proofs.Tryz (prog)
set_option linter.all false
set_option maxHeartbeats 8000000
set_option maxRecDepth 8000
def z3m (v : Vt) : Bool := !qyt v
def z26 (c : Cf) : Bool := !c.right
def z3n (e : En) : Bool := !qoz e
theorem z6b (v : Vt) (_ : True) : PCalls prog I3 [.agg (vtC v)] (.b (z3m v)) := by
 refine K5 Q7 qg5 (by simp) fun T => ?_
 unfold qa4
 have h := qup v
 simp only [vtC] at h
 simp -implicitDefEqProofs -dsimp only [go_sem, seval, vtC, ↓J0 _ _ qmy]
 refine cpn h ?_
 simp -implicitDefEqProofs -dsimp only [go_sem, seval]
 exact K1 rfl
theorem z6c (c : Cf) (h : CfL c) : PCalls prog I4 [.agg (cfC c)] (.b (z26 c)) := by
 refine K5 Q7 qg8 (by simp) fun T => ?_
 unfold qa5
 have h := q7z c none none h.1
 simp only [Cf.cells] at h
 simp -implicitDefEqProofs -dsimp only [go_sem, seval, cfC, Cf.cells, ↓J0 _ _ q24]
 refine cpn h ?_
 simp -implicitDefEqProofs -dsimp only [go_sem, seval]
 exact K1 rfl
theorem z6d (e : En) (h : EnF e) : PCalls prog I5 [.agg (enC e)] (.b (z3n e)) := by
 refine K5 Q7 qgb (by simp) fun T => ?_
 unfold qa6
 have h := qyf e none none h
 simp only [En.cells] at h
 simp -implicitDefEqProofs -dsimp only [go_sem, seval, enC, En.cells, ↓J0 _ _ qsy]
 refine cpn h ?_
 simp -implicitDefEqProofs -dsimp only [go_sem, seval]
 exact K1 rfl
def VtT (v : Vt) : Prop := True
theorem qnn {R : Y5} (hR : ExtR R) {T : Tab} {xs : List Vt} {cap : Option Nat} (hl : Len xs.length) (hx : ∀ x ∈ xs, VtT x) : ∀ (us : List Vt) (k : Nat), xs.drop k = us -> k <= xs.length ->
  (us.any z3m = true -> ∀ j : Nat, R .ret [(4, .i .i64 j)] [] T) ->
  (us.any z3m = false -> R (.exit 0) [(0, .fz xs.length (xs.flatMap vtC) cap), (1, .fn (.func I3) [] []), (7, .i .i64 xs.length), (8, .i .i64 xs.length), (9, .b false)] [] T) ->
  AW prog I6 R [(0, .fz xs.length (xs.flatMap vtC) cap), (1, .fn (.func I3) [] []), (7, .i .i64 xs.length), (8, .i .i64 k)] [] T := by
 intro us
 induction us with
 | nil =>
  intro k hk hle h1 h2
  have hk' := O9 hk hle
  refine Q2 hR ?_
  unfold G8
  simp -implicitDefEqProofs -dsimp only [go_sem, seval, hk', Int.lt_irrefl]
  rw [hk'] at h2
  exact h2 rfl
 | cons x us ih =>
  intro k hk hle h1 h2
  obtain ⟨hlt, hx1, hk'⟩ := Q5 hk
  have cl : ∀ c : Vt, (vtC c).length = 4 := fun _ => rfl
  have ea := V0 cl hx1
  have e5 : k * 4 + 4 <= (xs.flatMap vtC).length := by rw [K8 cl]; omega
  unfold Len at hl
  have hs : IntKind.i64.wrap ((k : Int) + 1) = ((k + 1 : Nat) : Int) := K9 (by omega)
  have pc := z6b x (hx x (List.mem_of_getElem? hx1))
  simp only [vtC] at pc
  simp only [List.any_cons] at h1 h2
  refine O2 (l := I6) rfl hR ?_
  unfold G8
  simp -implicitDefEqProofs -dsimp only [go_sem, seval, Int.ofNat_lt, hlt, Int.natCast_nonneg, Int.toNat_natCast, ea, e5, vtC, List.cons_append, List.nil_append, qh6 _ _ _ _ _ _ qg6]
  refine cpn pc ?_
  rcases he : z3m x with _ | _
  ·rw [he, Bool.false_or] at h1 h2
   simp -implicitDefEqProofs -dsimp only [go_sem, seval, hs]
   exact ih (k + 1) hk' hlt h1 h2
  ·simp -implicitDefEqProofs -dsimp only [go_sem, seval]
   exact h1 (by rw [he]; rfl) k
theorem q14 (xs : List Vt) (cap : Option Nat) (hl : Len xs.length) (hx : ∀ x ∈ xs, VtT x) : PCalls prog V3 [.fz xs.length (xs.flatMap vtC) cap, .fn (.func I3) [] []] (.b (xs.any z3m)) := by
 have cI : ∀ T, ACalls prog Y2 [.fz xs.length (xs.flatMap vtC) cap, .fn (.func I3) [] []] T (fun r T' => ∃ j : Int, r = .i .i64 j /\ decide (0 <= j) = xs.any z3m /\ T' = T) := fun T => by
  refine U9 Q7 q5r (by simp) ?_
  unfold q1g
  simp -implicitDefEqProofs -dsimp only [go_sem, seval]
  refine qnn (T := T) (by repeat' (first | exact N5 _ _ | assumption | apply N4 | apply K7 | apply U1)) hl hx xs 0 rfl (Nat.zero_le _) (fun h j => ?_) (fun h => ?_)
  ·simp -implicitDefEqProofs -dsimp only [go_sem, seval]
   exact V1 _ (fun _ => .inr (.inl rfl)) ⟨(j : Int), rfl, by rw [h]; exact decide_eq_true (by omega), rfl⟩
  ·simp -implicitDefEqProofs -dsimp only [go_sem, seval]
   exact V1 _ (fun _ => .inr (.inl rfl)) ⟨-1, rfl, by rw [h]; rfl, rfl⟩
 refine K5 Q7 q4u (by simp) fun T => ?_
 unfold q12
 simp -implicitDefEqProofs -dsimp only [go_sem, seval, ↓J0 _ _ q5s]
 refine CallK.of (cI T) (fun r T1 ⟨j, e1, e2, e3⟩ => J1 ?_)
 subst e1; subst e3
 simp -implicitDefEqProofs -dsimp only [go_sem, seval, e2]
 exact K1 rfl
theorem qql {R : Y5} (hR : ExtR R) {T : Tab} {xs : List Cf} {cap : Option Nat} (hl : Len xs.length) (hx : ∀ x ∈ xs, CfL x) : ∀ (us : List Cf) (k : Nat), xs.drop k = us -> k <= xs.length ->
  (us.any z26 = true -> ∀ j : Nat, R .ret [(4, .i .i64 j)] [] T) ->
  (us.any z26 = false -> R (.exit 0) [(0, .fz xs.length (xs.flatMap cfC) cap), (1, .fn (.func I4) [] []), (7, .i .i64 xs.length), (8, .i .i64 xs.length), (9, .b false)] [] T) ->
  AW prog q0a R [(0, .fz xs.length (xs.flatMap cfC) cap), (1, .fn (.func I4) [] []), (7, .i .i64 xs.length), (8, .i .i64 k)] [] T := by
 intro us
 induction us with
 | nil =>
  intro k hk hle h1 h2
  have hk' := O9 hk hle
  refine Q2 hR ?_
  unfold q06
  simp -implicitDefEqProofs -dsimp only [go_sem, seval, hk', Int.lt_irrefl]
  rw [hk'] at h2
  exact h2 rfl
 | cons x us ih =>
  intro k hk hle h1 h2
  obtain ⟨hlt, hx1, hk'⟩ := Q5 hk
  have cl : ∀ c : Cf, (cfC c).length = 5 := fun _ => rfl
  have ea := V0 cl hx1
  have e5 : k * 5 + 5 <= (xs.flatMap cfC).length := by rw [K8 cl]; omega
  unfold Len at hl
  have hs : IntKind.i64.wrap ((k : Int) + 1) = ((k + 1 : Nat) : Int) := K9 (by omega)
  have pc := z6c x (hx x (List.mem_of_getElem? hx1))
  simp only [cfC, Cf.cells] at pc
  simp only [List.any_cons] at h1 h2
  refine O2 (l := q0a) rfl hR ?_
  unfold q06
  simp -implicitDefEqProofs -dsimp only [go_sem, seval, Int.ofNat_lt, hlt, Int.natCast_nonneg, Int.toNat_natCast, ea, e5, cfC, Cf.cells, List.cons_append, List.nil_append, qh6 _ _ _ _ _ _ qg9]
  refine cpn pc ?_
  rcases he : z26 x with _ | _
  ·rw [he, Bool.false_or] at h1 h2
   simp -implicitDefEqProofs -dsimp only [go_sem, seval, hs]
   exact ih (k + 1) hk' hlt h1 h2
  ·simp -implicitDefEqProofs -dsimp only [go_sem, seval]
   exact h1 (by rw [he]; rfl) k
theorem q25 (xs : List Cf) (cap : Option Nat) (hl : Len xs.length) (hx : ∀ x ∈ xs, CfL x) : PCalls prog Y6 [.fz xs.length (xs.flatMap cfC) cap, .fn (.func I4) [] []] (.b (xs.any z26)) := by
 have cI : ∀ T, ACalls prog Z7 [.fz xs.length (xs.flatMap cfC) cap, .fn (.func I4) [] []] T (fun r T' => ∃ j : Int, r = .i .i64 j /\ decide (0 <= j) = xs.any z26 /\ T' = T) := fun T => by
  refine U9 Q7 q7x (by simp) ?_
  unfold q2d
  simp -implicitDefEqProofs -dsimp only [go_sem, seval]
  refine qql (T := T) (by repeat' (first | exact N5 _ _ | assumption | apply N4 | apply K7 | apply U1)) hl hx xs 0 rfl (Nat.zero_le _) (fun h j => ?_) (fun h => ?_)
  ·simp -implicitDefEqProofs -dsimp only [go_sem, seval]
   exact V1 _ (fun _ => .inr (.inl rfl)) ⟨(j : Int), rfl, by rw [h]; exact decide_eq_true (by omega), rfl⟩
  ·simp -implicitDefEqProofs -dsimp only [go_sem, seval]
   exact V1 _ (fun _ => .inr (.inl rfl)) ⟨-1, rfl, by rw [h]; rfl, rfl⟩
 refine K5 Q7 q6j (by simp) fun T => ?_
 unfold q1p
 simp -implicitDefEqProofs -dsimp only [go_sem, seval, ↓J0 _ _ q7y]
 refine CallK.of (cI T) (fun r T1 ⟨j, e1, e2, e3⟩ => J1 ?_)
 subst e1; subst e3
 simp -implicitDefEqProofs -dsimp only [go_sem, seval, e2]
 exact K1 rfl
theorem qno {R : Y5} (hR : ExtR R) {T : Tab} {xs : List En} {cap : Option Nat} (hl : Len xs.length) (hx : ∀ x ∈ xs, EnF x) : ∀ (us : List En) (k : Nat), xs.drop k = us -> k <= xs.length ->
  (us.any z3n = true -> ∀ j : Nat, R .ret [(4, .i .i64 j)] [] T) ->
  (us.any z3n = false -> R (.exit 0) [(0, .fz xs.length (xs.flatMap enC) cap), (1, .fn (.func I5) [] []), (7, .i .i64 xs.length), (8, .i .i64 xs.length), (9, .b false)] [] T) ->
  AW prog I7 R [(0, .fz xs.length (xs.flatMap enC) cap), (1, .fn (.func I5) [] []), (7, .i .i64 xs.length), (8, .i .i64 k)] [] T := by
 intro us
 induction us with
 | nil =>
  intro k hk hle h1 h2
  have hk' := O9 hk hle
  refine Q2 hR ?_
  unfold G9
  simp -implicitDefEqProofs -dsimp only [go_sem, seval, hk', Int.lt_irrefl]
  rw [hk'] at h2
  exact h2 rfl
 | cons x us ih =>
  intro k hk hle h1 h2
  obtain ⟨hlt, hx1, hk'⟩ := Q5 hk
  have cl : ∀ c : En, (enC c).length = 10 := fun _ => rfl
  have ea := V0 cl hx1
  have e5 : k * 10 + 10 <= (xs.flatMap enC).length := by rw [K8 cl]; omega
  unfold Len at hl
  have hs : IntKind.i64.wrap ((k : Int) + 1) = ((k + 1 : Nat) : Int) := K9 (by omega)
  have pc := z6d x (hx x (List.mem_of_getElem? hx1))
  simp only [enC, En.cells] at pc
  simp only [List.any_cons] at h1 h2
  refine O2 (l := I7) rfl hR ?_
  unfold G9
  simp -implicitDefEqProofs -dsimp only [go_sem, seval, Int.ofNat_lt, hlt, Int.natCast_nonneg, Int.toNat_natCast, ea, e5, enC, En.cells, List.cons_append, List.nil_append, qh6 _ _ _ _ _ _ qgc]
  refine cpn pc ?_
  rcases he : z3n x with _ | _
  ·rw [he, Bool.false_or] at h1 h2
   simp -implicitDefEqProofs -dsimp only [go_sem, seval, hs]
   exact ih (k + 1) hk' hlt h1 h2
  ·simp -implicitDefEqProofs -dsimp only [go_sem, seval]
   exact h1 (by rw [he]; rfl) k
theorem q15 (xs : List En) (cap : Option Nat) (hl : Len xs.length) (hx : ∀ x ∈ xs, EnF x) : PCalls prog V4 [.fz xs.length (xs.flatMap enC) cap, .fn (.func I5) [] []] (.b (xs.any z3n)) := by
 have cI : ∀ T, ACalls prog Y3 [.fz xs.length (xs.flatMap enC) cap, .fn (.func I5) [] []] T (fun r T' => ∃ j : Int, r = .i .i64 j /\ decide (0 <= j) = xs.any z3n /\ T' = T) := fun T => by
  refine U9 Q7 q5u (by simp) ?_
  unfold q1h
  simp -implicitDefEqProofs -dsimp only [go_sem, seval]
  refine qno (T := T) (by repeat' (first | exact N5 _ _ | assumption | apply N4 | apply K7 | apply U1)) hl hx xs 0 rfl (Nat.zero_le _) (fun h j => ?_) (fun h => ?_)
  ·simp -implicitDefEqProofs -dsimp only [go_sem, seval]
   exact V1 _ (fun _ => .inr (.inl rfl)) ⟨(j : Int), rfl, by rw [h]; exact decide_eq_true (by omega), rfl⟩
  ·simp -implicitDefEqProofs -dsimp only [go_sem, seval]
   exact V1 _ (fun _ => .inr (.inl rfl)) ⟨-1, rfl, by rw [h]; rfl, rfl⟩
 refine K5 Q7 q4w (by simp) fun T => ?_
 unfold q13
 simp -implicitDefEqProofs -dsimp only [go_sem, seval, ↓J0 _ _ q5v]
 refine CallK.of (cI T) (fun r T1 ⟨j, e1, e2, e3⟩ => J1 ?_)
 subst e1; subst e3
 simp -implicitDefEqProofs -dsimp only [go_sem, seval, e2]
 exact K1 rfl
def qcd (l : List Vt) : Bool := decide ((l.length : Int) <= 400) && !(l.any z3m)
def qce (l : List Cf) : Bool := decide ((l.length : Int) <= 4) && !(l.any z26)
def qcf (l : List En) : Bool := decide ((l.length : Int) <= 8) && !(l.any z3n)
def liF (l : Lt Cf) (s : Int) : Bool := if decide (s = 118) = true then qcd l.vs else if decide (s = 99) = true then qce l.cs else if decide (s = 108) = true then qcf l.es else true
theorem z3o (l : Lt Cf) (s : Int) (h : l.Small) : PCalls prog q3k [.agg l.cc, .i .u8 s] (.b (liF l s)) := by
 refine K5 Q7 qhx (by simp) fun T => ?_
 unfold qb0
 simp -implicitDefEqProofs -dsimp only [go_sem, seval, Lt.cells]
 (first | ((first | (apply J2 <;> intro h_1) | (refine CallK.pure (q14 _ _ h.vs (fun _ _ => trivial)) (J1 ?_); have h_1 := trivial) | (refine CallK.pure (q25 _ _ h.cs h.c) (J1 ?_); have h_1 := trivial) | (refine CallK.pure (q15 _ _ h.es h.e) (J1 ?_); have h_1 := trivial)) <;> simp -implicitDefEqProofs -dsimp only [go_sem, seval, ↓J0 _ _ N8, ↓J0 _ _ O4, ↓J0 _ _ N9, h_1]) | (have h_1 := trivial)) <;>
  (first | ((first | (apply J2 <;> intro h_2) | (refine CallK.pure (q14 _ _ h.vs (fun _ _ => trivial)) (J1 ?_); have h_2 := trivial) | (refine CallK.pure (q25 _ _ h.cs h.c) (J1 ?_); have h_2 := trivial) | (refine CallK.pure (q15 _ _ h.es h.e) (J1 ?_); have h_2 := trivial)) <;> simp -implicitDefEqProofs -dsimp only [go_sem, seval, ↓J0 _ _ N8, ↓J0 _ _ O4, ↓J0 _ _ N9, h_1, h_2]) | (have h_2 := trivial)) <;>
  (first | ((first | (apply J2 <;> intro h_3) | (refine CallK.pure (q14 _ _ h.vs (fun _ _ => trivial)) (J1 ?_); have h_3 := trivial) | (refine CallK.pure (q25 _ _ h.cs h.c) (J1 ?_); have h_3 := trivial) | (refine CallK.pure (q15 _ _ h.es h.e) (J1 ?_); have h_3 := trivial)) <;> simp -implicitDefEqProofs -dsimp only [go_sem, seval, ↓J0 _ _ N8, ↓J0 _ _ O4, ↓J0 _ _ N9, h_1, h_2, h_3]) | (have h_3 := trivial)) <;>
  (first | ((first | (apply J2 <;> intro h_4) | (refine CallK.pure (q14 _ _ h.vs (fun _ _ => trivial)) (J1 ?_); have h_4 := trivial) | (refine CallK.pure (q25 _ _ h.cs h.c) (J1 ?_); have h_4 := trivial) | (refine CallK.pure (q15 _ _ h.es h.e) (J1 ?_); have h_4 := trivial)) <;> simp -implicitDefEqProofs -dsimp only [go_sem, seval, ↓J0 _ _ N8, ↓J0 _ _ O4, ↓J0 _ _ N9, h_1, h_2, h_3, h_4]) | (have h_4 := trivial)) <;>
  (first | ((first | (apply J2 <;> intro h_5) | (refine CallK.pure (q14 _ _ h.vs (fun _ _ => trivial)) (J1 ?_); have h_5 := trivial) | (refine CallK.pure (q25 _ _ h.cs h.c) (J1 ?_); have h_5 := trivial) | (refine CallK.pure (q15 _ _ h.es h.e) (J1 ?_); have h_5 := trivial)) <;> simp -implicitDefEqProofs -dsimp only [go_sem, seval, ↓J0 _ _ N8, ↓J0 _ _ O4, ↓J0 _ _ N9, h_1, h_2, h_3, h_4, h_5]) | (have h_5 := trivial)) <;>
  (first | ((first | (apply J2 <;> intro h_6) | (refine CallK.pure (q14 _ _ h.vs (fun _ _ => trivial)) (J1 ?_); have h_6 := trivial) | (refine CallK.pure (q25 _ _ h.cs h.c) (J1 ?_); have h_6 := trivial) | (refine CallK.pure (q15 _ _ h.es h.e) (J1 ?_); have h_6 := trivial)) <;> simp -implicitDefEqProofs -dsimp only [go_sem, seval, ↓J0 _ _ N8, ↓J0 _ _ O4, ↓J0 _ _ N9, h_1, h_2, h_3, h_4, h_5, h_6]) | (have h_6 := trivial)) <;>
  (first | ((first | (apply J2 <;> intro h_7) | (refine CallK.pure (q14 _ _ h.vs (fun _ _ => trivial)) (J1 ?_); have h_7 := trivial) | (refine CallK.pure (q25 _ _ h.cs h.c) (J1 ?_); have h_7 := trivial) | (refine CallK.pure (q15 _ _ h.es h.e) (J1 ?_); have h_7 := trivial)) <;> simp -implicitDefEqProofs -dsimp only [go_sem, seval, ↓J0 _ _ N8, ↓J0 _ _ O4, ↓J0 _ _ N9, h_1, h_2, h_3, h_4, h_5, h_6, h_7]) | (have h_7 := trivial)) <;>
  (first | ((first | (apply J2 <;> intro h_8) | (refine CallK.pure (q14 _ _ h.vs (fun _ _ => trivial)) (J1 ?_); have h_8 := trivial) | (refine CallK.pure (q25 _ _ h.cs h.c) (J1 ?_); have h_8 := trivial) | (refine CallK.pure (q15 _ _ h.es h.e) (J1 ?_); have h_8 := trivial)) <;> simp -implicitDefEqProofs -dsimp only [go_sem, seval, ↓J0 _ _ N8, ↓J0 _ _ O4, ↓J0 _ _ N9, h_1, h_2, h_3, h_4, h_5, h_6, h_7, h_8]) | (have h_8 := trivial))
 all_goals (refine K1 ?_; simp only [liF, qcd, qce, qcf, *, if_true, Bool.false_eq_true, if_false, Bool.true_and, Bool.and_true, Bool.false_and, Bool.and_false])
def maF (l : Lt Cf) (s : Int) : Bool :=
 if decide (s = 115) = true then decide (0 <= l.sh) && decide (l.sh < 4) else if decide (s = 110) = true then qe0 l.n else if decide (s = 109) = true then qe0 l.m else if decide (s = 111) = true then decide (0 <= l.nd) && decide (l.nd < 8) else
 if decide (s = 98) = true then qv1 l.bn else if decide (s = 120) = true then qgd l.t else if decide (s = 105) = true then qp6 l.cl l.sq else if decide (s = 116) = true then decide ((l.v.length : Int) <= 64) else
 if decide (s = 114) = true then decide (0 <= l.co) && decide (l.co <= 99) else liF l s
theorem zaa (l : Lt Cf) (s : Int) (h : l.Small) (ht : l.t.Fine) : PCalls prog q56 [.agg l.cc, .i .u8 s] (.b (maF l s)) := by
 refine K5 Q7 ql8 (by simp) fun T => ?_
 have hl := z3o l s h
 have hx := qge l.t none none ht
 simp only [Tx.cells, Lt.cells] at hl hx
 unfold qd0
 simp -implicitDefEqProofs -dsimp only [go_sem, seval, Lt.cells]
 (first | ((first | (apply J2 <;> intro h_1) | (refine CallK.pure (q9c _) (J1 ?_); have h_1 := trivial) | (refine CallK.pure (V6 _ _) (J1 ?_); have h_1 := trivial) | (refine CallK.pure (hx) (J1 ?_); have h_1 := trivial) | (refine CallK.pure (q2f _ _) (J1 ?_); have h_1 := trivial) | (refine CallK.pure (hl) (J1 ?_); have h_1 := trivial)) <;> simp -implicitDefEqProofs -dsimp only [go_sem, seval, ↓J0 _ _ q0b, ↓J0 _ _ N0, ↓J0 _ _ V7, ↓J0 _ _ Z2, ↓J0 _ _ U4, h_1]) | (have h_1 := trivial)) <;>
  (first | ((first | (apply J2 <;> intro h_2) | (refine CallK.pure (q9c _) (J1 ?_); have h_2 := trivial) | (refine CallK.pure (V6 _ _) (J1 ?_); have h_2 := trivial) | (refine CallK.pure (hx) (J1 ?_); have h_2 := trivial) | (refine CallK.pure (q2f _ _) (J1 ?_); have h_2 := trivial) | (refine CallK.pure (hl) (J1 ?_); have h_2 := trivial)) <;> simp -implicitDefEqProofs -dsimp only [go_sem, seval, ↓J0 _ _ q0b, ↓J0 _ _ N0, ↓J0 _ _ V7, ↓J0 _ _ Z2, ↓J0 _ _ U4, h_1, h_2]) | (have h_2 := trivial)) <;>
  (first | ((first | (apply J2 <;> intro h_3) | (refine CallK.pure (q9c _) (J1 ?_); have h_3 := trivial) | (refine CallK.pure (V6 _ _) (J1 ?_); have h_3 := trivial) | (refine CallK.pure (hx) (J1 ?_); have h_3 := trivial) | (refine CallK.pure (q2f _ _) (J1 ?_); have h_3 := trivial) | (refine CallK.pure (hl) (J1 ?_); have h_3 := trivial)) <;> simp -implicitDefEqProofs -dsimp only [go_sem, seval, ↓J0 _ _ q0b, ↓J0 _ _ N0, ↓J0 _ _ V7, ↓J0 _ _ Z2, ↓J0 _ _ U4, h_1, h_2, h_3]) | (have h_3 := trivial)) <;>
  (first | ((first | (apply J2 <;> intro h_4) | (refine CallK.pure (q9c _) (J1 ?_); have h_4 := trivial) | (refine CallK.pure (V6 _ _) (J1 ?_); have h_4 := trivial) | (refine CallK.pure (hx) (J1 ?_); have h_4 := trivial) | (refine CallK.pure (q2f _ _) (J1 ?_); have h_4 := trivial) | (refine CallK.pure (hl) (J1 ?_); have h_4 := trivial)) <;> simp -implicitDefEqProofs -dsimp only [go_sem, seval, ↓J0 _ _ q0b, ↓J0 _ _ N0, ↓J0 _ _ V7, ↓J0 _ _ Z2, ↓J0 _ _ U4, h_1, h_2, h_3, h_4]) | (have h_4 := trivial)) <;>
  (first | ((first | (apply J2 <;> intro h_5) | (refine CallK.pure (q9c _) (J1 ?_); have h_5 := trivial) | (refine CallK.pure (V6 _ _) (J1 ?_); have h_5 := trivial) | (refine CallK.pure (hx) (J1 ?_); have h_5 := trivial) | (refine CallK.pure (q2f _ _) (J1 ?_); have h_5 := trivial) | (refine CallK.pure (hl) (J1 ?_); have h_5 := trivial)) <;> simp -implicitDefEqProofs -dsimp only [go_sem, seval, ↓J0 _ _ q0b, ↓J0 _ _ N0, ↓J0 _ _ V7, ↓J0 _ _ Z2, ↓J0 _ _ U4, h_1, h_2, h_3, h_4, h_5]) | (have h_5 := trivial)) <;>
  (first | ((first | (apply J2 <;> intro h_6) | (refine CallK.pure (q9c _) (J1 ?_); have h_6 := trivial) | (refine CallK.pure (V6 _ _) (J1 ?_); have h_6 := trivial) | (refine CallK.pure (hx) (J1 ?_); have h_6 := trivial) | (refine CallK.pure (q2f _ _) (J1 ?_); have h_6 := trivial) | (refine CallK.pure (hl) (J1 ?_); have h_6 := trivial)) <;> simp -implicitDefEqProofs -dsimp only [go_sem, seval, ↓J0 _ _ q0b, ↓J0 _ _ N0, ↓J0 _ _ V7, ↓J0 _ _ Z2, ↓J0 _ _ U4, h_1, h_2, h_3, h_4, h_5, h_6]) | (have h_6 := trivial)) <;>
  (first | ((first | (apply J2 <;> intro h_7) | (refine CallK.pure (q9c _) (J1 ?_); have h_7 := trivial) | (refine CallK.pure (V6 _ _) (J1 ?_); have h_7 := trivial) | (refine CallK.pure (hx) (J1 ?_); have h_7 := trivial) | (refine CallK.pure (q2f _ _) (J1 ?_); have h_7 := trivial) | (refine CallK.pure (hl) (J1 ?_); have h_7 := trivial)) <;> simp -implicitDefEqProofs -dsimp only [go_sem, seval, ↓J0 _ _ q0b, ↓J0 _ _ N0, ↓J0 _ _ V7, ↓J0 _ _ Z2, ↓J0 _ _ U4, h_1, h_2, h_3, h_4, h_5, h_6, h_7]) | (have h_7 := trivial)) <;>
  (first | ((first | (apply J2 <;> intro h_8) | (refine CallK.pure (q9c _) (J1 ?_); have h_8 := trivial) | (refine CallK.pure (V6 _ _) (J1 ?_); have h_8 := trivial) | (refine CallK.pure (hx) (J1 ?_); have h_8 := trivial) | (refine CallK.pure (q2f _ _) (J1 ?_); have h_8 := trivial) | (refine CallK.pure (hl) (J1 ?_); have h_8 := trivial)) <;> simp -implicitDefEqProofs -dsimp only [go_sem, seval, ↓J0 _ _ q0b, ↓J0 _ _ N0, ↓J0 _ _ V7, ↓J0 _ _ Z2, ↓J0 _ _ U4, h_1, h_2, h_3, h_4, h_5, h_6, h_7, h_8]) | (have h_8 := trivial)) <;>
  (first | ((first | (apply J2 <;> intro h_9) | (refine CallK.pure (q9c _) (J1 ?_); have h_9 := trivial) | (refine CallK.pure (V6 _ _) (J1 ?_); have h_9 := trivial) | (refine CallK.pure (hx) (J1 ?_); have h_9 := trivial) | (refine CallK.pure (q2f _ _) (J1 ?_); have h_9 := trivial) | (refine CallK.pure (hl) (J1 ?_); have h_9 := trivial)) <;> simp -implicitDefEqProofs -dsimp only [go_sem, seval, ↓J0 _ _ q0b, ↓J0 _ _ N0, ↓J0 _ _ V7, ↓J0 _ _ Z2, ↓J0 _ _ U4, h_1, h_2, h_3, h_4, h_5, h_6, h_7, h_8, h_9]) | (have h_9 := trivial)) <;>
  (first | ((first | (apply J2 <;> intro h_10) | (refine CallK.pure (q9c _) (J1 ?_); have h_10 := trivial) | (refine CallK.pure (V6 _ _) (J1 ?_); have h_10 := trivial) | (refine CallK.pure (hx) (J1 ?_); have h_10 := trivial) | (refine CallK.pure (q2f _ _) (J1 ?_); have h_10 := trivial) | (refine CallK.pure (hl) (J1 ?_); have h_10 := trivial)) <;> simp -implicitDefEqProofs -dsimp only [go_sem, seval, ↓J0 _ _ q0b, ↓J0 _ _ N0, ↓J0 _ _ V7, ↓J0 _ _ Z2, ↓J0 _ _ U4, h_1, h_2, h_3, h_4, h_5, h_6, h_7, h_8, h_9, h_10]) | (have h_10 := trivial)) <;>
  (first | ((first | (apply J2 <;> intro h_11) | (refine CallK.pure (q9c _) (J1 ?_); have h_11 := trivial) | (refine CallK.pure (V6 _ _) (J1 ?_); have h_11 := trivial) | (refine CallK.pure (hx) (J1 ?_); have h_11 := trivial) | (refine CallK.pure (q2f _ _) (J1 ?_); have h_11 := trivial) | (refine CallK.pure (hl) (J1 ?_); have h_11 := trivial)) <;> simp -implicitDefEqProofs -dsimp only [go_sem, seval, ↓J0 _ _ q0b, ↓J0 _ _ N0, ↓J0 _ _ V7, ↓J0 _ _ Z2, ↓J0 _ _ U4, h_1, h_2, h_3, h_4, h_5, h_6, h_7, h_8, h_9, h_10, h_11]) | (have h_11 := trivial)) <;>
  (first | ((first | (apply J2 <;> intro h_12) | (refine CallK.pure (q9c _) (J1 ?_); have h_12 := trivial) | (refine CallK.pure (V6 _ _) (J1 ?_); have h_12 := trivial) | (refine CallK.pure (hx) (J1 ?_); have h_12 := trivial) | (refine CallK.pure (q2f _ _) (J1 ?_); have h_12 := trivial) | (refine CallK.pure (hl) (J1 ?_); have h_12 := trivial)) <;> simp -implicitDefEqProofs -dsimp only [go_sem, seval, ↓J0 _ _ q0b, ↓J0 _ _ N0, ↓J0 _ _ V7, ↓J0 _ _ Z2, ↓J0 _ _ U4, h_1, h_2, h_3, h_4, h_5, h_6, h_7, h_8, h_9, h_10, h_11, h_12]) | (have h_12 := trivial))
 all_goals (refine K1 ?_; simp only [maF, *, if_true, Bool.false_eq_true, if_false, Bool.true_and, Bool.and_true, Bool.false_and, Bool.and_false])
end Go.Aw
