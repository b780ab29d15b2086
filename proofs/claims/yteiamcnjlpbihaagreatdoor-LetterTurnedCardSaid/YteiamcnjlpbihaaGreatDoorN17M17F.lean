import Derived.Test.YteiamcnjlpbihaaGreatDoorN17M17E
namespace Go.Aw
open Go
open Go.Proofs.Tryz (prog)
set_option linter.all false
set_option maxHeartbeats 8000000
set_option maxRecDepth 8000
def z19 (v : Vt) : Bool := !qyi v
def qz4 (c : Cf) : Bool := !c.right
def z1a (e : En) : Bool := !qdb e
theorem z7v (v : Vt) (_ : True) : PCalls prog I6 [.agg (vtC v)] (.b (z19 v)) := by
 refine K6 U7 qe5 (by simp) fun T => ?_
 unfold q8y
 have h := qtr v
 simp only [vtC] at h
 simp -implicitDefEqProofs -dsimp only [go_sem, seval, vtC, ↓J0 _ _ qk5]
 refine cpn h ?_
 simp -implicitDefEqProofs -dsimp only [go_sem, seval]
 exact J9 rfl
theorem z7w (c : Cf) (h : CfL c) : PCalls prog I7 [.agg (cfC c)] (.b (qz4 c)) := by
 refine K6 U7 qe8 (by simp) fun T => ?_
 unfold q8z
 have h := qeg c none none h.1
 simp only [Cf.cells] at h
 simp -implicitDefEqProofs -dsimp only [go_sem, seval, cfC, Cf.cells, ↓J0 _ _ qfu]
 refine cpn h ?_
 simp -implicitDefEqProofs -dsimp only [go_sem, seval]
 exact J9 rfl
theorem z7x (e : En) (h : EnF e) : PCalls prog I8 [.agg (enC e)] (.b (z1a e)) := by
 refine K6 U7 qeb (by simp) fun T => ?_
 unfold q90
 have h := qd7 e none none h
 simp only [En.cells] at h
 simp -implicitDefEqProofs -dsimp only [go_sem, seval, enC, En.cells, ↓J0 _ _ q91]
 refine cpn h ?_
 simp -implicitDefEqProofs -dsimp only [go_sem, seval]
 exact J9 rfl
def VtT (v : Vt) : Prop := True
theorem qku {R : Z1} (hR : ExtR R) {T : Tab} {xs : List Vt} {cap : Option Nat} (hl : Len xs.length) (hx : ∀ x ∈ xs, VtT x) : ∀ (us : List Vt) (k : Nat), xs.drop k = us -> k <= xs.length ->
  (us.any z19 = true -> ∀ j : Nat, R .ret [(4, .i .i64 j)] [] T) ->
  (us.any z19 = false -> R (.exit 0) [(0, .fz xs.length (xs.flatMap vtC) cap), (1, .fn (.func I6) [] []), (7, .i .i64 xs.length), (8, .i .i64 xs.length), (9, .b false)] [] T) ->
  AW prog I9 R [(0, .fz xs.length (xs.flatMap vtC) cap), (1, .fn (.func I6) [] []), (7, .i .i64 xs.length), (8, .i .i64 k)] [] T := by
 intro us
 induction us with
 | nil =>
  intro k hk hle h1 h2
  have hk' := U3 hk hle
  refine U1 hR ?_
  unfold I2
  simp -implicitDefEqProofs -dsimp only [go_sem, seval, hk', Int.lt_irrefl]
  rw [hk'] at h2
  exact h2 rfl
 | cons x us ih =>
  intro k hk hle h1 h2
  obtain ⟨hlt, hx1, hk'⟩ := U9 hk
  have cl : ∀ c : Vt, (vtC c).length = 4 := fun _ => rfl
  have ea := G2 cl hx1
  have e5 : k * 4 + 4 <= (xs.flatMap vtC).length := by rw [O6 cl]; omega
  unfold Len at hl
  have hs : IntKind.i64.wrap ((k : Int) + 1) = ((k + 1 : Nat) : Int) := N6 (by omega)
  have pc := z7v x (hx x (List.mem_of_getElem? hx1))
  simp only [vtC] at pc
  simp only [List.any_cons] at h1 h2
  refine O4 (l := I9) rfl hR ?_
  unfold I2
  simp -implicitDefEqProofs -dsimp only [go_sem, seval, Int.ofNat_lt, hlt, Int.natCast_nonneg, Int.toNat_natCast, ea, e5, vtC, List.cons_append, List.nil_append, qfb _ _ _ _ _ _ qe6]
  refine cpn pc ?_
  rcases he : z19 x with _ | _
  ·rw [he, Bool.false_or] at h1 h2
   simp -implicitDefEqProofs -dsimp only [go_sem, seval, hs]
   exact ih (k + 1) hk' hlt h1 h2
  ·simp -implicitDefEqProofs -dsimp only [go_sem, seval]
   exact h1 (by rw [he]; rfl) k
theorem q0z (xs : List Vt) (cap : Option Nat) (hl : Len xs.length) (hx : ∀ x ∈ xs, VtT x) : PCalls prog V7 [.fz xs.length (xs.flatMap vtC) cap, .fn (.func I6) [] []] (.b (xs.any z19)) := by
 have cI : ∀ T, ACalls prog Y4 [.fz xs.length (xs.flatMap vtC) cap, .fn (.func I6) [] []] T (fun r T' => ∃ j : Int, r = .i .i64 j /\ decide (0 <= j) = xs.any z19 /\ T' = T) := fun T => by
  refine q06 U7 q5g (by simp) ?_
  unfold q1b
  simp -implicitDefEqProofs -dsimp only [go_sem, seval]
  refine qku (T := T) (by repeat' (first | exact N8 _ _ | assumption | apply N7 | apply K8 | apply V0)) hl hx xs 0 rfl (Nat.zero_le _) (fun h j => ?_) (fun h => ?_)
  ·simp -implicitDefEqProofs -dsimp only [go_sem, seval]
   exact q0r _ (fun _ => .inr (.inl rfl)) ⟨(j : Int), rfl, by rw [h]; exact decide_eq_true (by omega), rfl⟩
  ·simp -implicitDefEqProofs -dsimp only [go_sem, seval]
   exact q0r _ (fun _ => .inr (.inl rfl)) ⟨-1, rfl, by rw [h]; rfl, rfl⟩
 refine K6 U7 q4s (by simp) fun T => ?_
 unfold q0x
 simp -implicitDefEqProofs -dsimp only [go_sem, seval, ↓J0 _ _ q5h]
 refine CallK.of (cI T) (fun r T1 ⟨j, e1, e2, e3⟩ => J1 ?_)
 subst e1; subst e3
 simp -implicitDefEqProofs -dsimp only [go_sem, seval, e2]
 exact J9 rfl
theorem qod {R : Z1} (hR : ExtR R) {T : Tab} {xs : List Cf} {cap : Option Nat} (hl : Len xs.length) (hx : ∀ x ∈ xs, CfL x) : ∀ (us : List Cf) (k : Nat), xs.drop k = us -> k <= xs.length ->
  (us.any qz4 = true -> ∀ j : Nat, R .ret [(4, .i .i64 j)] [] T) ->
  (us.any qz4 = false -> R (.exit 0) [(0, .fz xs.length (xs.flatMap cfC) cap), (1, .fn (.func I7) [] []), (7, .i .i64 xs.length), (8, .i .i64 xs.length), (9, .b false)] [] T) ->
  AW prog q0f R [(0, .fz xs.length (xs.flatMap cfC) cap), (1, .fn (.func I7) [] []), (7, .i .i64 xs.length), (8, .i .i64 k)] [] T := by
 intro us
 induction us with
 | nil =>
  intro k hk hle h1 h2
  have hk' := U3 hk hle
  refine U1 hR ?_
  unfold q0a
  simp -implicitDefEqProofs -dsimp only [go_sem, seval, hk', Int.lt_irrefl]
  rw [hk'] at h2
  exact h2 rfl
 | cons x us ih =>
  intro k hk hle h1 h2
  obtain ⟨hlt, hx1, hk'⟩ := U9 hk
  have cl : ∀ c : Cf, (cfC c).length = 5 := fun _ => rfl
  have ea := G2 cl hx1
  have e5 : k * 5 + 5 <= (xs.flatMap cfC).length := by rw [O6 cl]; omega
  unfold Len at hl
  have hs : IntKind.i64.wrap ((k : Int) + 1) = ((k + 1 : Nat) : Int) := N6 (by omega)
  have pc := z7w x (hx x (List.mem_of_getElem? hx1))
  simp only [cfC, Cf.cells] at pc
  simp only [List.any_cons] at h1 h2
  refine O4 (l := q0f) rfl hR ?_
  unfold q0a
  simp -implicitDefEqProofs -dsimp only [go_sem, seval, Int.ofNat_lt, hlt, Int.natCast_nonneg, Int.toNat_natCast, ea, e5, cfC, Cf.cells, List.cons_append, List.nil_append, qfb _ _ _ _ _ _ qe9]
  refine cpn pc ?_
  rcases he : qz4 x with _ | _
  ·rw [he, Bool.false_or] at h1 h2
   simp -implicitDefEqProofs -dsimp only [go_sem, seval, hs]
   exact ih (k + 1) hk' hlt h1 h2
  ·simp -implicitDefEqProofs -dsimp only [go_sem, seval]
   exact h1 (by rw [he]; rfl) k
theorem q23 (xs : List Cf) (cap : Option Nat) (hl : Len xs.length) (hx : ∀ x ∈ xs, CfL x) : PCalls prog Y7 [.fz xs.length (xs.flatMap cfC) cap, .fn (.func I7) [] []] (.b (xs.any qz4)) := by
 have cI : ∀ T, ACalls prog G1 [.fz xs.length (xs.flatMap cfC) cap, .fn (.func I7) [] []] T (fun r T' => ∃ j : Int, r = .i .i64 j /\ decide (0 <= j) = xs.any qz4 /\ T' = T) := fun T => by
  refine q06 U7 q70 (by simp) ?_
  unfold q29
  simp -implicitDefEqProofs -dsimp only [go_sem, seval]
  refine qod (T := T) (by repeat' (first | exact N8 _ _ | assumption | apply N7 | apply K8 | apply V0)) hl hx xs 0 rfl (Nat.zero_le _) (fun h j => ?_) (fun h => ?_)
  ·simp -implicitDefEqProofs -dsimp only [go_sem, seval]
   exact q0r _ (fun _ => .inr (.inl rfl)) ⟨(j : Int), rfl, by rw [h]; exact decide_eq_true (by omega), rfl⟩
  ·simp -implicitDefEqProofs -dsimp only [go_sem, seval]
   exact q0r _ (fun _ => .inr (.inl rfl)) ⟨-1, rfl, by rw [h]; rfl, rfl⟩
 refine K6 U7 q63 (by simp) fun T => ?_
 unfold q1h
 simp -implicitDefEqProofs -dsimp only [go_sem, seval, ↓J0 _ _ q71]
 refine CallK.of (cI T) (fun r T1 ⟨j, e1, e2, e3⟩ => J1 ?_)
 subst e1; subst e3
 simp -implicitDefEqProofs -dsimp only [go_sem, seval, e2]
 exact J9 rfl
theorem qkv {R : Z1} (hR : ExtR R) {T : Tab} {xs : List En} {cap : Option Nat} (hl : Len xs.length) (hx : ∀ x ∈ xs, EnF x) : ∀ (us : List En) (k : Nat), xs.drop k = us -> k <= xs.length ->
  (us.any z1a = true -> ∀ j : Nat, R .ret [(4, .i .i64 j)] [] T) ->
  (us.any z1a = false -> R (.exit 0) [(0, .fz xs.length (xs.flatMap enC) cap), (1, .fn (.func I8) [] []), (7, .i .i64 xs.length), (8, .i .i64 xs.length), (9, .b false)] [] T) ->
  AW prog q00 R [(0, .fz xs.length (xs.flatMap enC) cap), (1, .fn (.func I8) [] []), (7, .i .i64 xs.length), (8, .i .i64 k)] [] T := by
 intro us
 induction us with
 | nil =>
  intro k hk hle h1 h2
  have hk' := U3 hk hle
  refine U1 hR ?_
  unfold I3
  simp -implicitDefEqProofs -dsimp only [go_sem, seval, hk', Int.lt_irrefl]
  rw [hk'] at h2
  exact h2 rfl
 | cons x us ih =>
  intro k hk hle h1 h2
  obtain ⟨hlt, hx1, hk'⟩ := U9 hk
  have cl : ∀ c : En, (enC c).length = 10 := fun _ => rfl
  have ea := G2 cl hx1
  have e5 : k * 10 + 10 <= (xs.flatMap enC).length := by rw [O6 cl]; omega
  unfold Len at hl
  have hs : IntKind.i64.wrap ((k : Int) + 1) = ((k + 1 : Nat) : Int) := N6 (by omega)
  have pc := z7x x (hx x (List.mem_of_getElem? hx1))
  simp only [enC, En.cells] at pc
  simp only [List.any_cons] at h1 h2
  refine O4 (l := q00) rfl hR ?_
  unfold I3
  simp -implicitDefEqProofs -dsimp only [go_sem, seval, Int.ofNat_lt, hlt, Int.natCast_nonneg, Int.toNat_natCast, ea, e5, enC, En.cells, List.cons_append, List.nil_append, qfb _ _ _ _ _ _ qec]
  refine cpn pc ?_
  rcases he : z1a x with _ | _
  ·rw [he, Bool.false_or] at h1 h2
   simp -implicitDefEqProofs -dsimp only [go_sem, seval, hs]
   exact ih (k + 1) hk' hlt h1 h2
  ·simp -implicitDefEqProofs -dsimp only [go_sem, seval]
   exact h1 (by rw [he]; rfl) k
theorem q10 (xs : List En) (cap : Option Nat) (hl : Len xs.length) (hx : ∀ x ∈ xs, EnF x) : PCalls prog V8 [.fz xs.length (xs.flatMap enC) cap, .fn (.func I8) [] []] (.b (xs.any z1a)) := by
 have cI : ∀ T, ACalls prog Y5 [.fz xs.length (xs.flatMap enC) cap, .fn (.func I8) [] []] T (fun r T' => ∃ j : Int, r = .i .i64 j /\ decide (0 <= j) = xs.any z1a /\ T' = T) := fun T => by
  refine q06 U7 q5j (by simp) ?_
  unfold q1c
  simp -implicitDefEqProofs -dsimp only [go_sem, seval]
  refine qkv (T := T) (by repeat' (first | exact N8 _ _ | assumption | apply N7 | apply K8 | apply V0)) hl hx xs 0 rfl (Nat.zero_le _) (fun h j => ?_) (fun h => ?_)
  ·simp -implicitDefEqProofs -dsimp only [go_sem, seval]
   exact q0r _ (fun _ => .inr (.inl rfl)) ⟨(j : Int), rfl, by rw [h]; exact decide_eq_true (by omega), rfl⟩
  ·simp -implicitDefEqProofs -dsimp only [go_sem, seval]
   exact q0r _ (fun _ => .inr (.inl rfl)) ⟨-1, rfl, by rw [h]; rfl, rfl⟩
 refine K6 U7 q4u (by simp) fun T => ?_
 unfold q0y
 simp -implicitDefEqProofs -dsimp only [go_sem, seval, ↓J0 _ _ q5k]
 refine CallK.of (cI T) (fun r T1 ⟨j, e1, e2, e3⟩ => J1 ?_)
 subst e1; subst e3
 simp -implicitDefEqProofs -dsimp only [go_sem, seval, e2]
 exact J9 rfl
def q95 (l : List Vt) : Bool := decide ((l.length : Int) <= 400) && !(l.any z19)
def q96 (l : List Cf) : Bool := decide ((l.length : Int) <= 4) && !(l.any qz4)
def q97 (l : List En) : Bool := decide ((l.length : Int) <= 8) && !(l.any z1a)
def liF (l : Lt Cf) (s : Int) : Bool := if decide (s = 118) = true then q95 l.vs else if decide (s = 99) = true then q96 l.cs else if decide (s = 108) = true then q97 l.es else true
theorem z4o (l : Lt Cf) (s : Int) (h : l.Small) : PCalls prog q3a [.agg l.cc, .i .u8 s] (.b (liF l s)) := by
 refine K6 U7 qfo (by simp) fun T => ?_
 unfold q9x
 simp -implicitDefEqProofs -dsimp only [go_sem, seval, Lt.cells]
 (first | ((first | (apply J2 <;> intro h_1) | (refine CallK.pure (q0z _ _ h.vs (fun _ _ => trivial)) (J1 ?_); have h_1 := trivial) | (refine CallK.pure (q23 _ _ h.cs h.c) (J1 ?_); have h_1 := trivial) | (refine CallK.pure (q10 _ _ h.es h.e) (J1 ?_); have h_1 := trivial)) <;> simp -implicitDefEqProofs -dsimp only [go_sem, seval, ↓J0 _ _ O0, ↓J0 _ _ O8, ↓J0 _ _ O1, h_1]) | (have h_1 := trivial)) <;>
  (first | ((first | (apply J2 <;> intro h_2) | (refine CallK.pure (q0z _ _ h.vs (fun _ _ => trivial)) (J1 ?_); have h_2 := trivial) | (refine CallK.pure (q23 _ _ h.cs h.c) (J1 ?_); have h_2 := trivial) | (refine CallK.pure (q10 _ _ h.es h.e) (J1 ?_); have h_2 := trivial)) <;> simp -implicitDefEqProofs -dsimp only [go_sem, seval, ↓J0 _ _ O0, ↓J0 _ _ O8, ↓J0 _ _ O1, h_1, h_2]) | (have h_2 := trivial)) <;>
  (first | ((first | (apply J2 <;> intro h_3) | (refine CallK.pure (q0z _ _ h.vs (fun _ _ => trivial)) (J1 ?_); have h_3 := trivial) | (refine CallK.pure (q23 _ _ h.cs h.c) (J1 ?_); have h_3 := trivial) | (refine CallK.pure (q10 _ _ h.es h.e) (J1 ?_); have h_3 := trivial)) <;> simp -implicitDefEqProofs -dsimp only [go_sem, seval, ↓J0 _ _ O0, ↓J0 _ _ O8, ↓J0 _ _ O1, h_1, h_2, h_3]) | (have h_3 := trivial)) <;>
  (first | ((first | (apply J2 <;> intro h_4) | (refine CallK.pure (q0z _ _ h.vs (fun _ _ => trivial)) (J1 ?_); have h_4 := trivial) | (refine CallK.pure (q23 _ _ h.cs h.c) (J1 ?_); have h_4 := trivial) | (refine CallK.pure (q10 _ _ h.es h.e) (J1 ?_); have h_4 := trivial)) <;> simp -implicitDefEqProofs -dsimp only [go_sem, seval, ↓J0 _ _ O0, ↓J0 _ _ O8, ↓J0 _ _ O1, h_1, h_2, h_3, h_4]) | (have h_4 := trivial)) <;>
  (first | ((first | (apply J2 <;> intro h_5) | (refine CallK.pure (q0z _ _ h.vs (fun _ _ => trivial)) (J1 ?_); have h_5 := trivial) | (refine CallK.pure (q23 _ _ h.cs h.c) (J1 ?_); have h_5 := trivial) | (refine CallK.pure (q10 _ _ h.es h.e) (J1 ?_); have h_5 := trivial)) <;> simp -implicitDefEqProofs -dsimp only [go_sem, seval, ↓J0 _ _ O0, ↓J0 _ _ O8, ↓J0 _ _ O1, h_1, h_2, h_3, h_4, h_5]) | (have h_5 := trivial)) <;>
  (first | ((first | (apply J2 <;> intro h_6) | (refine CallK.pure (q0z _ _ h.vs (fun _ _ => trivial)) (J1 ?_); have h_6 := trivial) | (refine CallK.pure (q23 _ _ h.cs h.c) (J1 ?_); have h_6 := trivial) | (refine CallK.pure (q10 _ _ h.es h.e) (J1 ?_); have h_6 := trivial)) <;> simp -implicitDefEqProofs -dsimp only [go_sem, seval, ↓J0 _ _ O0, ↓J0 _ _ O8, ↓J0 _ _ O1, h_1, h_2, h_3, h_4, h_5, h_6]) | (have h_6 := trivial)) <;>
  (first | ((first | (apply J2 <;> intro h_7) | (refine CallK.pure (q0z _ _ h.vs (fun _ _ => trivial)) (J1 ?_); have h_7 := trivial) | (refine CallK.pure (q23 _ _ h.cs h.c) (J1 ?_); have h_7 := trivial) | (refine CallK.pure (q10 _ _ h.es h.e) (J1 ?_); have h_7 := trivial)) <;> simp -implicitDefEqProofs -dsimp only [go_sem, seval, ↓J0 _ _ O0, ↓J0 _ _ O8, ↓J0 _ _ O1, h_1, h_2, h_3, h_4, h_5, h_6, h_7]) | (have h_7 := trivial)) <;>
  (first | ((first | (apply J2 <;> intro h_8) | (refine CallK.pure (q0z _ _ h.vs (fun _ _ => trivial)) (J1 ?_); have h_8 := trivial) | (refine CallK.pure (q23 _ _ h.cs h.c) (J1 ?_); have h_8 := trivial) | (refine CallK.pure (q10 _ _ h.es h.e) (J1 ?_); have h_8 := trivial)) <;> simp -implicitDefEqProofs -dsimp only [go_sem, seval, ↓J0 _ _ O0, ↓J0 _ _ O8, ↓J0 _ _ O1, h_1, h_2, h_3, h_4, h_5, h_6, h_7, h_8]) | (have h_8 := trivial))
 all_goals (refine J9 ?_; simp only [liF, q95, q96, q97, *, if_true, Bool.false_eq_true, if_false, Bool.true_and, Bool.and_true, Bool.false_and, Bool.and_false])
def maF (l : Lt Cf) (s : Int) : Bool :=
 if decide (s = 115) = true then decide (0 <= l.sh) && decide (l.sh < 4) else if decide (s = 110) = true then q94 l.n else if decide (s = 109) = true then q94 l.m else if decide (s = 111) = true then decide (0 <= l.nd) && decide (l.nd < 8) else
 if decide (s = 98) = true then qhy l.bn else if decide (s = 120) = true then qo7 l.t else if decide (s = 105) = true then qhx l.cl l.sq else if decide (s = 116) = true then decide ((l.v.length : Int) <= 64) else
 if decide (s = 114) = true then decide (0 <= l.co) && decide (l.co <= 99) else liF l s
theorem zcc (l : Lt Cf) (s : Int) (h : l.Small) (ht : l.t.Fine) : PCalls prog q52 [.agg l.cc, .i .u8 s] (.b (maF l s)) := by
 refine K6 U7 qik (by simp) fun T => ?_
 have hl := z4o l s h
 have hx := qj1 l.t none none ht
 simp only [Tx.cells, Lt.cells] at hl hx
 unfold qbd
 simp -implicitDefEqProofs -dsimp only [go_sem, seval, Lt.cells]
 (first | ((first | (apply J2 <;> intro h_1) | (refine CallK.pure (q7t _) (J1 ?_); have h_1 := trivial) | (refine CallK.pure (V9 _ _) (J1 ?_); have h_1 := trivial) | (refine CallK.pure (hx) (J1 ?_); have h_1 := trivial) | (refine CallK.pure (q2a _ _) (J1 ?_); have h_1 := trivial) | (refine CallK.pure (hl) (J1 ?_); have h_1 := trivial)) <;> simp -implicitDefEqProofs -dsimp only [go_sem, seval, ↓J0 _ _ q0g, ↓J0 _ _ N0, ↓J0 _ _ Y6, ↓J0 _ _ Z4, ↓J0 _ _ V1, h_1]) | (have h_1 := trivial)) <;>
  (first | ((first | (apply J2 <;> intro h_2) | (refine CallK.pure (q7t _) (J1 ?_); have h_2 := trivial) | (refine CallK.pure (V9 _ _) (J1 ?_); have h_2 := trivial) | (refine CallK.pure (hx) (J1 ?_); have h_2 := trivial) | (refine CallK.pure (q2a _ _) (J1 ?_); have h_2 := trivial) | (refine CallK.pure (hl) (J1 ?_); have h_2 := trivial)) <;> simp -implicitDefEqProofs -dsimp only [go_sem, seval, ↓J0 _ _ q0g, ↓J0 _ _ N0, ↓J0 _ _ Y6, ↓J0 _ _ Z4, ↓J0 _ _ V1, h_1, h_2]) | (have h_2 := trivial)) <;>
  (first | ((first | (apply J2 <;> intro h_3) | (refine CallK.pure (q7t _) (J1 ?_); have h_3 := trivial) | (refine CallK.pure (V9 _ _) (J1 ?_); have h_3 := trivial) | (refine CallK.pure (hx) (J1 ?_); have h_3 := trivial) | (refine CallK.pure (q2a _ _) (J1 ?_); have h_3 := trivial) | (refine CallK.pure (hl) (J1 ?_); have h_3 := trivial)) <;> simp -implicitDefEqProofs -dsimp only [go_sem, seval, ↓J0 _ _ q0g, ↓J0 _ _ N0, ↓J0 _ _ Y6, ↓J0 _ _ Z4, ↓J0 _ _ V1, h_1, h_2, h_3]) | (have h_3 := trivial)) <;>
  (first | ((first | (apply J2 <;> intro h_4) | (refine CallK.pure (q7t _) (J1 ?_); have h_4 := trivial) | (refine CallK.pure (V9 _ _) (J1 ?_); have h_4 := trivial) | (refine CallK.pure (hx) (J1 ?_); have h_4 := trivial) | (refine CallK.pure (q2a _ _) (J1 ?_); have h_4 := trivial) | (refine CallK.pure (hl) (J1 ?_); have h_4 := trivial)) <;> simp -implicitDefEqProofs -dsimp only [go_sem, seval, ↓J0 _ _ q0g, ↓J0 _ _ N0, ↓J0 _ _ Y6, ↓J0 _ _ Z4, ↓J0 _ _ V1, h_1, h_2, h_3, h_4]) | (have h_4 := trivial)) <;>
  (first | ((first | (apply J2 <;> intro h_5) | (refine CallK.pure (q7t _) (J1 ?_); have h_5 := trivial) | (refine CallK.pure (V9 _ _) (J1 ?_); have h_5 := trivial) | (refine CallK.pure (hx) (J1 ?_); have h_5 := trivial) | (refine CallK.pure (q2a _ _) (J1 ?_); have h_5 := trivial) | (refine CallK.pure (hl) (J1 ?_); have h_5 := trivial)) <;> simp -implicitDefEqProofs -dsimp only [go_sem, seval, ↓J0 _ _ q0g, ↓J0 _ _ N0, ↓J0 _ _ Y6, ↓J0 _ _ Z4, ↓J0 _ _ V1, h_1, h_2, h_3, h_4, h_5]) | (have h_5 := trivial)) <;>
  (first | ((first | (apply J2 <;> intro h_6) | (refine CallK.pure (q7t _) (J1 ?_); have h_6 := trivial) | (refine CallK.pure (V9 _ _) (J1 ?_); have h_6 := trivial) | (refine CallK.pure (hx) (J1 ?_); have h_6 := trivial) | (refine CallK.pure (q2a _ _) (J1 ?_); have h_6 := trivial) | (refine CallK.pure (hl) (J1 ?_); have h_6 := trivial)) <;> simp -implicitDefEqProofs -dsimp only [go_sem, seval, ↓J0 _ _ q0g, ↓J0 _ _ N0, ↓J0 _ _ Y6, ↓J0 _ _ Z4, ↓J0 _ _ V1, h_1, h_2, h_3, h_4, h_5, h_6]) | (have h_6 := trivial)) <;>
  (first | ((first | (apply J2 <;> intro h_7) | (refine CallK.pure (q7t _) (J1 ?_); have h_7 := trivial) | (refine CallK.pure (V9 _ _) (J1 ?_); have h_7 := trivial) | (refine CallK.pure (hx) (J1 ?_); have h_7 := trivial) | (refine CallK.pure (q2a _ _) (J1 ?_); have h_7 := trivial) | (refine CallK.pure (hl) (J1 ?_); have h_7 := trivial)) <;> simp -implicitDefEqProofs -dsimp only [go_sem, seval, ↓J0 _ _ q0g, ↓J0 _ _ N0, ↓J0 _ _ Y6, ↓J0 _ _ Z4, ↓J0 _ _ V1, h_1, h_2, h_3, h_4, h_5, h_6, h_7]) | (have h_7 := trivial)) <;>
  (first | ((first | (apply J2 <;> intro h_8) | (refine CallK.pure (q7t _) (J1 ?_); have h_8 := trivial) | (refine CallK.pure (V9 _ _) (J1 ?_); have h_8 := trivial) | (refine CallK.pure (hx) (J1 ?_); have h_8 := trivial) | (refine CallK.pure (q2a _ _) (J1 ?_); have h_8 := trivial) | (refine CallK.pure (hl) (J1 ?_); have h_8 := trivial)) <;> simp -implicitDefEqProofs -dsimp only [go_sem, seval, ↓J0 _ _ q0g, ↓J0 _ _ N0, ↓J0 _ _ Y6, ↓J0 _ _ Z4, ↓J0 _ _ V1, h_1, h_2, h_3, h_4, h_5, h_6, h_7, h_8]) | (have h_8 := trivial)) <;>
  (first | ((first | (apply J2 <;> intro h_9) | (refine CallK.pure (q7t _) (J1 ?_); have h_9 := trivial) | (refine CallK.pure (V9 _ _) (J1 ?_); have h_9 := trivial) | (refine CallK.pure (hx) (J1 ?_); have h_9 := trivial) | (refine CallK.pure (q2a _ _) (J1 ?_); have h_9 := trivial) | (refine CallK.pure (hl) (J1 ?_); have h_9 := trivial)) <;> simp -implicitDefEqProofs -dsimp only [go_sem, seval, ↓J0 _ _ q0g, ↓J0 _ _ N0, ↓J0 _ _ Y6, ↓J0 _ _ Z4, ↓J0 _ _ V1, h_1, h_2, h_3, h_4, h_5, h_6, h_7, h_8, h_9]) | (have h_9 := trivial)) <;>
  (first | ((first | (apply J2 <;> intro h_10) | (refine CallK.pure (q7t _) (J1 ?_); have h_10 := trivial) | (refine CallK.pure (V9 _ _) (J1 ?_); have h_10 := trivial) | (refine CallK.pure (hx) (J1 ?_); have h_10 := trivial) | (refine CallK.pure (q2a _ _) (J1 ?_); have h_10 := trivial) | (refine CallK.pure (hl) (J1 ?_); have h_10 := trivial)) <;> simp -implicitDefEqProofs -dsimp only [go_sem, seval, ↓J0 _ _ q0g, ↓J0 _ _ N0, ↓J0 _ _ Y6, ↓J0 _ _ Z4, ↓J0 _ _ V1, h_1, h_2, h_3, h_4, h_5, h_6, h_7, h_8, h_9, h_10]) | (have h_10 := trivial)) <;>
  (first | ((first | (apply J2 <;> intro h_11) | (refine CallK.pure (q7t _) (J1 ?_); have h_11 := trivial) | (refine CallK.pure (V9 _ _) (J1 ?_); have h_11 := trivial) | (refine CallK.pure (hx) (J1 ?_); have h_11 := trivial) | (refine CallK.pure (q2a _ _) (J1 ?_); have h_11 := trivial) | (refine CallK.pure (hl) (J1 ?_); have h_11 := trivial)) <;> simp -implicitDefEqProofs -dsimp only [go_sem, seval, ↓J0 _ _ q0g, ↓J0 _ _ N0, ↓J0 _ _ Y6, ↓J0 _ _ Z4, ↓J0 _ _ V1, h_1, h_2, h_3, h_4, h_5, h_6, h_7, h_8, h_9, h_10, h_11]) | (have h_11 := trivial)) <;>
  (first | ((first | (apply J2 <;> intro h_12) | (refine CallK.pure (q7t _) (J1 ?_); have h_12 := trivial) | (refine CallK.pure (V9 _ _) (J1 ?_); have h_12 := trivial) | (refine CallK.pure (hx) (J1 ?_); have h_12 := trivial) | (refine CallK.pure (q2a _ _) (J1 ?_); have h_12 := trivial) | (refine CallK.pure (hl) (J1 ?_); have h_12 := trivial)) <;> simp -implicitDefEqProofs -dsimp only [go_sem, seval, ↓J0 _ _ q0g, ↓J0 _ _ N0, ↓J0 _ _ Y6, ↓J0 _ _ Z4, ↓J0 _ _ V1, h_1, h_2, h_3, h_4, h_5, h_6, h_7, h_8, h_9, h_10, h_11, h_12]) | (have h_12 := trivial))
 all_goals (refine J9 ?_; simp only [maF, *, if_true, Bool.false_eq_true, if_false, Bool.true_and, Bool.and_true, Bool.false_and, Bool.and_false])
end Go.Aw
