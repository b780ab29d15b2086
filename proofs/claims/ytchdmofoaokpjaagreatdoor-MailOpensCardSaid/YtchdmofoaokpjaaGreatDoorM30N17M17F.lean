import Derived.Test.YtchdmofoaokpjaaGreatDoorM30N17M17E
namespace Go.Aw
open Go
open Go.Proofs.Tryz (prog)
set_option linter.all false
set_option maxHeartbeats 8000000
set_option maxRecDepth 8000
def z1w (v : Vt) : Bool := !zb8 v
def z1x (c : Cf) : Bool := !c.right
def z1y (e : En) : Bool := !qim e
theorem z5d (v : Vt) (_ : True) : PCalls prog G4 [.agg (vtC v)] (.b (z1w v)) := by
 refine K6 U1 qbd (by simp) fun T => ?_
 unfold q72
 have h := qqr v
 simp only [vtC] at h
 simp -implicitDefEqProofs -dsimp only [go_sem, seval, vtC, ↓J0 _ _ qgm]
 refine cpn h ?_
 simp -implicitDefEqProofs -dsimp only [go_sem, seval]
 exact J9 rfl
theorem z5e (c : Cf) (h : CfL c) : PCalls prog G5 [.agg (cfC c)] (.b (z1x c)) := by
 refine K6 U1 qbg (by simp) fun T => ?_
 unfold q73
 have h := qbn c none none h.1
 simp only [Cf.cells] at h
 simp -implicitDefEqProofs -dsimp only [go_sem, seval, cfC, Cf.cells, ↓J0 _ _ qd0]
 refine cpn h ?_
 simp -implicitDefEqProofs -dsimp only [go_sem, seval]
 exact J9 rfl
theorem z5f (e : En) (h : EnF e) : PCalls prog G6 [.agg (enC e)] (.b (z1y e)) := by
 refine K6 U1 qbj (by simp) fun T => ?_
 unfold q74
 have h := qaq e none none h
 simp only [En.cells] at h
 simp -implicitDefEqProofs -dsimp only [go_sem, seval, enC, En.cells, ↓J0 _ _ q75]
 refine cpn h ?_
 simp -implicitDefEqProofs -dsimp only [go_sem, seval]
 exact J9 rfl
def VtT (v : Vt) : Prop := True
theorem qhk {R : G9} (hR : ExtR R) {T : Tab} {xs : List Vt} {cap : Option Nat} (hl : Len xs.length) (hx : ∀ x ∈ xs, VtT x) : ∀ (us : List Vt) (k : Nat), xs.drop k = us -> k <= xs.length ->
  (us.any z1w = true -> ∀ j : Nat, R .ret [(4, .i .i64 j)] [] T) ->
  (us.any z1w = false -> R (.exit 0) [(0, .fz xs.length (xs.flatMap vtC) cap), (1, .fn (.func G4) [] []), (7, .i .i64 xs.length), (8, .i .i64 xs.length), (9, .b false)] [] T) ->
  AW prog G7 R [(0, .fz xs.length (xs.flatMap vtC) cap), (1, .fn (.func G4) [] []), (7, .i .i64 xs.length), (8, .i .i64 k)] [] T := by
 intro us
 induction us with
 | nil =>
  intro k hk hle h1 h2
  have hk' := V6 hk hle
  refine V1 hR ?_
  unfold G1
  simp -implicitDefEqProofs -dsimp only [go_sem, seval, hk', Int.lt_irrefl]
  rw [hk'] at h2
  exact h2 rfl
 | cons x us ih =>
  intro k hk hle h1 h2
  obtain ⟨hlt, hx1, hk'⟩ := Y6 hk
  have cl : ∀ c : Vt, (vtC c).length = 4 := fun _ => rfl
  have ea := q08 cl hx1
  have e5 : k * 4 + 4 <= (xs.flatMap vtC).length := by rw [Q5 cl]; omega
  unfold Len at hl
  have hs : IntKind.i64.wrap ((k : Int) + 1) = ((k + 1 : Nat) : Int) := O8 (by omega)
  have pc := z5d x (hx x (List.mem_of_getElem? hx1))
  simp only [vtC] at pc
  simp only [List.any_cons] at h1 h2
  refine Q1 (l := G7) rfl hR ?_
  unfold G1
  simp -implicitDefEqProofs -dsimp only [go_sem, seval, Int.ofNat_lt, hlt, Int.natCast_nonneg, Int.toNat_natCast, ea, e5, vtC, List.cons_append, List.nil_append, qcg _ _ _ _ _ _ qbe]
  refine cpn pc ?_
  rcases he : z1w x with _ | _
  ·rw [he, Bool.false_or] at h1 h2
   simp -implicitDefEqProofs -dsimp only [go_sem, seval, hs]
   exact ih (k + 1) hk' hlt h1 h2
  ·simp -implicitDefEqProofs -dsimp only [go_sem, seval]
   exact h1 (by rw [he]; rfl) k
theorem q0k (xs : List Vt) (cap : Option Nat) (hl : Len xs.length) (hx : ∀ x ∈ xs, VtT x) : PCalls prog U8 [.fz xs.length (xs.flatMap vtC) cap, .fn (.func G4) [] []] (.b (xs.any z1w)) := by
 have cI : ∀ T, ACalls prog V2 [.fz xs.length (xs.flatMap vtC) cap, .fn (.func G4) [] []] T (fun r T' => ∃ j : Int, r = .i .i64 j /\ decide (0 <= j) = xs.any z1w /\ T' = T) := fun T => by
  refine U7 U1 q40 (by simp) ?_
  unfold q0t
  simp -implicitDefEqProofs -dsimp only [go_sem, seval]
  refine qhk (T := T) (by repeat' (first | exact O6 _ _ | assumption | apply O5 | apply N4 | apply V8)) hl hx xs 0 rfl (Nat.zero_le _) (fun h j => ?_) (fun h => ?_)
  ·simp -implicitDefEqProofs -dsimp only [go_sem, seval]
   exact Y3 _ (fun _ => .inr (.inl rfl)) ⟨(j : Int), rfl, by rw [h]; exact decide_eq_true (by omega), rfl⟩
  ·simp -implicitDefEqProofs -dsimp only [go_sem, seval]
   exact Y3 _ (fun _ => .inr (.inl rfl)) ⟨-1, rfl, by rw [h]; rfl, rfl⟩
 refine K6 U1 q3e (by simp) fun T => ?_
 unfold q0i
 simp -implicitDefEqProofs -dsimp only [go_sem, seval, ↓J0 _ _ q41]
 refine CallK.of (cI T) (fun r T1 ⟨j, e1, e2, e3⟩ => J1 ?_)
 subst e1; subst e3
 simp -implicitDefEqProofs -dsimp only [go_sem, seval, e2]
 exact J9 rfl
theorem qld {R : G9} (hR : ExtR R) {T : Tab} {xs : List Cf} {cap : Option Nat} (hl : Len xs.length) (hx : ∀ x ∈ xs, CfL x) : ∀ (us : List Cf) (k : Nat), xs.drop k = us -> k <= xs.length ->
  (us.any z1x = true -> ∀ j : Nat, R .ret [(4, .i .i64 j)] [] T) ->
  (us.any z1x = false -> R (.exit 0) [(0, .fz xs.length (xs.flatMap cfC) cap), (1, .fn (.func G5) [] []), (7, .i .i64 xs.length), (8, .i .i64 xs.length), (9, .b false)] [] T) ->
  AW prog q02 R [(0, .fz xs.length (xs.flatMap cfC) cap), (1, .fn (.func G5) [] []), (7, .i .i64 xs.length), (8, .i .i64 k)] [] T := by
 intro us
 induction us with
 | nil =>
  intro k hk hle h1 h2
  have hk' := V6 hk hle
  refine V1 hR ?_
  unfold I8
  simp -implicitDefEqProofs -dsimp only [go_sem, seval, hk', Int.lt_irrefl]
  rw [hk'] at h2
  exact h2 rfl
 | cons x us ih =>
  intro k hk hle h1 h2
  obtain ⟨hlt, hx1, hk'⟩ := Y6 hk
  have cl : ∀ c : Cf, (cfC c).length = 5 := fun _ => rfl
  have ea := q08 cl hx1
  have e5 : k * 5 + 5 <= (xs.flatMap cfC).length := by rw [Q5 cl]; omega
  unfold Len at hl
  have hs : IntKind.i64.wrap ((k : Int) + 1) = ((k + 1 : Nat) : Int) := O8 (by omega)
  have pc := z5e x (hx x (List.mem_of_getElem? hx1))
  simp only [cfC, Cf.cells] at pc
  simp only [List.any_cons] at h1 h2
  refine Q1 (l := q02) rfl hR ?_
  unfold I8
  simp -implicitDefEqProofs -dsimp only [go_sem, seval, Int.ofNat_lt, hlt, Int.natCast_nonneg, Int.toNat_natCast, ea, e5, cfC, Cf.cells, List.cons_append, List.nil_append, qcg _ _ _ _ _ _ qbh]
  refine cpn pc ?_
  rcases he : z1x x with _ | _
  ·rw [he, Bool.false_or] at h1 h2
   simp -implicitDefEqProofs -dsimp only [go_sem, seval, hs]
   exact ih (k + 1) hk' hlt h1 h2
  ·simp -implicitDefEqProofs -dsimp only [go_sem, seval]
   exact h1 (by rw [he]; rfl) k
theorem q1c (xs : List Cf) (cap : Option Nat) (hl : Len xs.length) (hx : ∀ x ∈ xs, CfL x) : PCalls prog V7 [.fz xs.length (xs.flatMap cfC) cap, .fn (.func G5) [] []] (.b (xs.any z1x)) := by
 have cI : ∀ T, ACalls prog Z0 [.fz xs.length (xs.flatMap cfC) cap, .fn (.func G5) [] []] T (fun r T' => ∃ j : Int, r = .i .i64 j /\ decide (0 <= j) = xs.any z1x /\ T' = T) := fun T => by
  refine U7 U1 q54 (by simp) ?_
  unfold q1i
  simp -implicitDefEqProofs -dsimp only [go_sem, seval]
  refine qld (T := T) (by repeat' (first | exact O6 _ _ | assumption | apply O5 | apply N4 | apply V8)) hl hx xs 0 rfl (Nat.zero_le _) (fun h j => ?_) (fun h => ?_)
  ·simp -implicitDefEqProofs -dsimp only [go_sem, seval]
   exact Y3 _ (fun _ => .inr (.inl rfl)) ⟨(j : Int), rfl, by rw [h]; exact decide_eq_true (by omega), rfl⟩
  ·simp -implicitDefEqProofs -dsimp only [go_sem, seval]
   exact Y3 _ (fun _ => .inr (.inl rfl)) ⟨-1, rfl, by rw [h]; rfl, rfl⟩
 refine K6 U1 q4e (by simp) fun T => ?_
 unfold q0z
 simp -implicitDefEqProofs -dsimp only [go_sem, seval, ↓J0 _ _ q55]
 refine CallK.of (cI T) (fun r T1 ⟨j, e1, e2, e3⟩ => J1 ?_)
 subst e1; subst e3
 simp -implicitDefEqProofs -dsimp only [go_sem, seval, e2]
 exact J9 rfl
theorem qhl {R : G9} (hR : ExtR R) {T : Tab} {xs : List En} {cap : Option Nat} (hl : Len xs.length) (hx : ∀ x ∈ xs, EnF x) : ∀ (us : List En) (k : Nat), xs.drop k = us -> k <= xs.length ->
  (us.any z1y = true -> ∀ j : Nat, R .ret [(4, .i .i64 j)] [] T) ->
  (us.any z1y = false -> R (.exit 0) [(0, .fz xs.length (xs.flatMap enC) cap), (1, .fn (.func G6) [] []), (7, .i .i64 xs.length), (8, .i .i64 xs.length), (9, .b false)] [] T) ->
  AW prog G8 R [(0, .fz xs.length (xs.flatMap enC) cap), (1, .fn (.func G6) [] []), (7, .i .i64 xs.length), (8, .i .i64 k)] [] T := by
 intro us
 induction us with
 | nil =>
  intro k hk hle h1 h2
  have hk' := V6 hk hle
  refine V1 hR ?_
  unfold G2
  simp -implicitDefEqProofs -dsimp only [go_sem, seval, hk', Int.lt_irrefl]
  rw [hk'] at h2
  exact h2 rfl
 | cons x us ih =>
  intro k hk hle h1 h2
  obtain ⟨hlt, hx1, hk'⟩ := Y6 hk
  have cl : ∀ c : En, (enC c).length = 10 := fun _ => rfl
  have ea := q08 cl hx1
  have e5 : k * 10 + 10 <= (xs.flatMap enC).length := by rw [Q5 cl]; omega
  unfold Len at hl
  have hs : IntKind.i64.wrap ((k : Int) + 1) = ((k + 1 : Nat) : Int) := O8 (by omega)
  have pc := z5f x (hx x (List.mem_of_getElem? hx1))
  simp only [enC, En.cells] at pc
  simp only [List.any_cons] at h1 h2
  refine Q1 (l := G8) rfl hR ?_
  unfold G2
  simp -implicitDefEqProofs -dsimp only [go_sem, seval, Int.ofNat_lt, hlt, Int.natCast_nonneg, Int.toNat_natCast, ea, e5, enC, En.cells, List.cons_append, List.nil_append, qcg _ _ _ _ _ _ qbk]
  refine cpn pc ?_
  rcases he : z1y x with _ | _
  ·rw [he, Bool.false_or] at h1 h2
   simp -implicitDefEqProofs -dsimp only [go_sem, seval, hs]
   exact ih (k + 1) hk' hlt h1 h2
  ·simp -implicitDefEqProofs -dsimp only [go_sem, seval]
   exact h1 (by rw [he]; rfl) k
theorem q0l (xs : List En) (cap : Option Nat) (hl : Len xs.length) (hx : ∀ x ∈ xs, EnF x) : PCalls prog U9 [.fz xs.length (xs.flatMap enC) cap, .fn (.func G6) [] []] (.b (xs.any z1y)) := by
 have cI : ∀ T, ACalls prog V3 [.fz xs.length (xs.flatMap enC) cap, .fn (.func G6) [] []] T (fun r T' => ∃ j : Int, r = .i .i64 j /\ decide (0 <= j) = xs.any z1y /\ T' = T) := fun T => by
  refine U7 U1 q43 (by simp) ?_
  unfold q0u
  simp -implicitDefEqProofs -dsimp only [go_sem, seval]
  refine qhl (T := T) (by repeat' (first | exact O6 _ _ | assumption | apply O5 | apply N4 | apply V8)) hl hx xs 0 rfl (Nat.zero_le _) (fun h j => ?_) (fun h => ?_)
  ·simp -implicitDefEqProofs -dsimp only [go_sem, seval]
   exact Y3 _ (fun _ => .inr (.inl rfl)) ⟨(j : Int), rfl, by rw [h]; exact decide_eq_true (by omega), rfl⟩
  ·simp -implicitDefEqProofs -dsimp only [go_sem, seval]
   exact Y3 _ (fun _ => .inr (.inl rfl)) ⟨-1, rfl, by rw [h]; rfl, rfl⟩
 refine K6 U1 q3g (by simp) fun T => ?_
 unfold q0j
 simp -implicitDefEqProofs -dsimp only [go_sem, seval, ↓J0 _ _ q44]
 refine CallK.of (cI T) (fun r T1 ⟨j, e1, e2, e3⟩ => J1 ?_)
 subst e1; subst e3
 simp -implicitDefEqProofs -dsimp only [go_sem, seval, e2]
 exact J9 rfl
def qw4 (l : List Vt) : Bool := decide ((l.length : Int) <= 400) && !(l.any z1w)
def qw5 (l : List Cf) : Bool := decide ((l.length : Int) <= 4) && !(l.any z1x)
def qw6 (l : List En) : Bool := decide ((l.length : Int) <= 8) && !(l.any z1y)
def liF (l : Lt Cf) (s : Int) : Bool := if decide (s = 118) = true then qw4 l.vs else if decide (s = 99) = true then qw5 l.cs else if decide (s = 108) = true then qw6 l.es else true
theorem z1z (l : Lt Cf) (s : Int) (h : l.Small) : PCalls prog q2j [.agg l.cc, .i .u8 s] (.b (liF l s)) := by
 refine K6 U1 qcs (by simp) fun T => ?_
 unfold q7r
 simp -implicitDefEqProofs -dsimp only [go_sem, seval, Lt.cells]
 (first | ((first | (apply K0 <;> intro h_1) | (refine CallK.pure (q0k _ _ h.vs (fun _ _ => trivial)) (J1 ?_); have h_1 := trivial) | (refine CallK.pure (q1c _ _ h.cs h.c) (J1 ?_); have h_1 := trivial) | (refine CallK.pure (q0l _ _ h.es h.e) (J1 ?_); have h_1 := trivial)) <;> simp -implicitDefEqProofs -dsimp only [go_sem, seval, ↓J0 _ _ N5, ↓J0 _ _ N7, ↓J0 _ _ N6, h_1]) | (have h_1 := trivial)) <;>
  (first | ((first | (apply K0 <;> intro h_2) | (refine CallK.pure (q0k _ _ h.vs (fun _ _ => trivial)) (J1 ?_); have h_2 := trivial) | (refine CallK.pure (q1c _ _ h.cs h.c) (J1 ?_); have h_2 := trivial) | (refine CallK.pure (q0l _ _ h.es h.e) (J1 ?_); have h_2 := trivial)) <;> simp -implicitDefEqProofs -dsimp only [go_sem, seval, ↓J0 _ _ N5, ↓J0 _ _ N7, ↓J0 _ _ N6, h_1, h_2]) | (have h_2 := trivial)) <;>
  (first | ((first | (apply K0 <;> intro h_3) | (refine CallK.pure (q0k _ _ h.vs (fun _ _ => trivial)) (J1 ?_); have h_3 := trivial) | (refine CallK.pure (q1c _ _ h.cs h.c) (J1 ?_); have h_3 := trivial) | (refine CallK.pure (q0l _ _ h.es h.e) (J1 ?_); have h_3 := trivial)) <;> simp -implicitDefEqProofs -dsimp only [go_sem, seval, ↓J0 _ _ N5, ↓J0 _ _ N7, ↓J0 _ _ N6, h_1, h_2, h_3]) | (have h_3 := trivial)) <;>
  (first | ((first | (apply K0 <;> intro h_4) | (refine CallK.pure (q0k _ _ h.vs (fun _ _ => trivial)) (J1 ?_); have h_4 := trivial) | (refine CallK.pure (q1c _ _ h.cs h.c) (J1 ?_); have h_4 := trivial) | (refine CallK.pure (q0l _ _ h.es h.e) (J1 ?_); have h_4 := trivial)) <;> simp -implicitDefEqProofs -dsimp only [go_sem, seval, ↓J0 _ _ N5, ↓J0 _ _ N7, ↓J0 _ _ N6, h_1, h_2, h_3, h_4]) | (have h_4 := trivial)) <;>
  (first | ((first | (apply K0 <;> intro h_5) | (refine CallK.pure (q0k _ _ h.vs (fun _ _ => trivial)) (J1 ?_); have h_5 := trivial) | (refine CallK.pure (q1c _ _ h.cs h.c) (J1 ?_); have h_5 := trivial) | (refine CallK.pure (q0l _ _ h.es h.e) (J1 ?_); have h_5 := trivial)) <;> simp -implicitDefEqProofs -dsimp only [go_sem, seval, ↓J0 _ _ N5, ↓J0 _ _ N7, ↓J0 _ _ N6, h_1, h_2, h_3, h_4, h_5]) | (have h_5 := trivial)) <;>
  (first | ((first | (apply K0 <;> intro h_6) | (refine CallK.pure (q0k _ _ h.vs (fun _ _ => trivial)) (J1 ?_); have h_6 := trivial) | (refine CallK.pure (q1c _ _ h.cs h.c) (J1 ?_); have h_6 := trivial) | (refine CallK.pure (q0l _ _ h.es h.e) (J1 ?_); have h_6 := trivial)) <;> simp -implicitDefEqProofs -dsimp only [go_sem, seval, ↓J0 _ _ N5, ↓J0 _ _ N7, ↓J0 _ _ N6, h_1, h_2, h_3, h_4, h_5, h_6]) | (have h_6 := trivial)) <;>
  (first | ((first | (apply K0 <;> intro h_7) | (refine CallK.pure (q0k _ _ h.vs (fun _ _ => trivial)) (J1 ?_); have h_7 := trivial) | (refine CallK.pure (q1c _ _ h.cs h.c) (J1 ?_); have h_7 := trivial) | (refine CallK.pure (q0l _ _ h.es h.e) (J1 ?_); have h_7 := trivial)) <;> simp -implicitDefEqProofs -dsimp only [go_sem, seval, ↓J0 _ _ N5, ↓J0 _ _ N7, ↓J0 _ _ N6, h_1, h_2, h_3, h_4, h_5, h_6, h_7]) | (have h_7 := trivial)) <;>
  (first | ((first | (apply K0 <;> intro h_8) | (refine CallK.pure (q0k _ _ h.vs (fun _ _ => trivial)) (J1 ?_); have h_8 := trivial) | (refine CallK.pure (q1c _ _ h.cs h.c) (J1 ?_); have h_8 := trivial) | (refine CallK.pure (q0l _ _ h.es h.e) (J1 ?_); have h_8 := trivial)) <;> simp -implicitDefEqProofs -dsimp only [go_sem, seval, ↓J0 _ _ N5, ↓J0 _ _ N7, ↓J0 _ _ N6, h_1, h_2, h_3, h_4, h_5, h_6, h_7, h_8]) | (have h_8 := trivial))
 all_goals (refine J9 ?_; simp only [liF, qw4, qw5, qw6, *, if_true, Bool.false_eq_true, if_false, Bool.true_and, Bool.and_true, Bool.false_and, Bool.and_false])
def maF (l : Lt Cf) (s : Int) : Bool :=
 if decide (s = 115) = true then decide (0 <= l.sh) && decide (l.sh < 4) else if decide (s = 110) = true then qm7 l.n else if decide (s = 109) = true then qm7 l.m else if decide (s = 111) = true then decide (0 <= l.nd) && decide (l.nd < 8) else
 if decide (s = 98) = true then qjk l.bn else if decide (s = 120) = true then qsq l.t else if decide (s = 105) = true then qm6 l.cl l.sq else if decide (s = 116) = true then decide ((l.v.length : Int) <= 64) else
 if decide (s = 114) = true then decide (0 <= l.co) && decide (l.co <= 99) else liF l s
theorem za5 (l : Lt Cf) (s : Int) (h : l.Small) (ht : l.t.Fine) : PCalls prog q3n [.agg l.cc, .i .u8 s] (.b (maF l s)) := by
 refine K6 U1 qf5 (by simp) fun T => ?_
 have hl := z1z l s h
 have hx := qfi l.t none none ht
 simp only [Tx.cells, Lt.cells] at hl hx
 unfold q8x
 simp -implicitDefEqProofs -dsimp only [go_sem, seval, Lt.cells]
 (first | ((first | (apply K0 <;> intro h_1) | (refine CallK.pure (q5z _) (J1 ?_); have h_1 := trivial) | (refine CallK.pure (V0 _ _) (J1 ?_); have h_1 := trivial) | (refine CallK.pure (hx) (J1 ?_); have h_1 := trivial) | (refine CallK.pure (q1j _ _) (J1 ?_); have h_1 := trivial) | (refine CallK.pure (hl) (J1 ?_); have h_1 := trivial)) <;> simp -implicitDefEqProofs -dsimp only [go_sem, seval, ↓J0 _ _ q03, ↓J0 _ _ K9, ↓J0 _ _ V4, ↓J0 _ _ Y4, ↓J0 _ _ U2, h_1]) | (have h_1 := trivial)) <;>
  (first | ((first | (apply K0 <;> intro h_2) | (refine CallK.pure (q5z _) (J1 ?_); have h_2 := trivial) | (refine CallK.pure (V0 _ _) (J1 ?_); have h_2 := trivial) | (refine CallK.pure (hx) (J1 ?_); have h_2 := trivial) | (refine CallK.pure (q1j _ _) (J1 ?_); have h_2 := trivial) | (refine CallK.pure (hl) (J1 ?_); have h_2 := trivial)) <;> simp -implicitDefEqProofs -dsimp only [go_sem, seval, ↓J0 _ _ q03, ↓J0 _ _ K9, ↓J0 _ _ V4, ↓J0 _ _ Y4, ↓J0 _ _ U2, h_1, h_2]) | (have h_2 := trivial)) <;>
  (first | ((first | (apply K0 <;> intro h_3) | (refine CallK.pure (q5z _) (J1 ?_); have h_3 := trivial) | (refine CallK.pure (V0 _ _) (J1 ?_); have h_3 := trivial) | (refine CallK.pure (hx) (J1 ?_); have h_3 := trivial) | (refine CallK.pure (q1j _ _) (J1 ?_); have h_3 := trivial) | (refine CallK.pure (hl) (J1 ?_); have h_3 := trivial)) <;> simp -implicitDefEqProofs -dsimp only [go_sem, seval, ↓J0 _ _ q03, ↓J0 _ _ K9, ↓J0 _ _ V4, ↓J0 _ _ Y4, ↓J0 _ _ U2, h_1, h_2, h_3]) | (have h_3 := trivial)) <;>
  (first | ((first | (apply K0 <;> intro h_4) | (refine CallK.pure (q5z _) (J1 ?_); have h_4 := trivial) | (refine CallK.pure (V0 _ _) (J1 ?_); have h_4 := trivial) | (refine CallK.pure (hx) (J1 ?_); have h_4 := trivial) | (refine CallK.pure (q1j _ _) (J1 ?_); have h_4 := trivial) | (refine CallK.pure (hl) (J1 ?_); have h_4 := trivial)) <;> simp -implicitDefEqProofs -dsimp only [go_sem, seval, ↓J0 _ _ q03, ↓J0 _ _ K9, ↓J0 _ _ V4, ↓J0 _ _ Y4, ↓J0 _ _ U2, h_1, h_2, h_3, h_4]) | (have h_4 := trivial)) <;>
  (first | ((first | (apply K0 <;> intro h_5) | (refine CallK.pure (q5z _) (J1 ?_); have h_5 := trivial) | (refine CallK.pure (V0 _ _) (J1 ?_); have h_5 := trivial) | (refine CallK.pure (hx) (J1 ?_); have h_5 := trivial) | (refine CallK.pure (q1j _ _) (J1 ?_); have h_5 := trivial) | (refine CallK.pure (hl) (J1 ?_); have h_5 := trivial)) <;> simp -implicitDefEqProofs -dsimp only [go_sem, seval, ↓J0 _ _ q03, ↓J0 _ _ K9, ↓J0 _ _ V4, ↓J0 _ _ Y4, ↓J0 _ _ U2, h_1, h_2, h_3, h_4, h_5]) | (have h_5 := trivial)) <;>
  (first | ((first | (apply K0 <;> intro h_6) | (refine CallK.pure (q5z _) (J1 ?_); have h_6 := trivial) | (refine CallK.pure (V0 _ _) (J1 ?_); have h_6 := trivial) | (refine CallK.pure (hx) (J1 ?_); have h_6 := trivial) | (refine CallK.pure (q1j _ _) (J1 ?_); have h_6 := trivial) | (refine CallK.pure (hl) (J1 ?_); have h_6 := trivial)) <;> simp -implicitDefEqProofs -dsimp only [go_sem, seval, ↓J0 _ _ q03, ↓J0 _ _ K9, ↓J0 _ _ V4, ↓J0 _ _ Y4, ↓J0 _ _ U2, h_1, h_2, h_3, h_4, h_5, h_6]) | (have h_6 := trivial)) <;>
  (first | ((first | (apply K0 <;> intro h_7) | (refine CallK.pure (q5z _) (J1 ?_); have h_7 := trivial) | (refine CallK.pure (V0 _ _) (J1 ?_); have h_7 := trivial) | (refine CallK.pure (hx) (J1 ?_); have h_7 := trivial) | (refine CallK.pure (q1j _ _) (J1 ?_); have h_7 := trivial) | (refine CallK.pure (hl) (J1 ?_); have h_7 := trivial)) <;> simp -implicitDefEqProofs -dsimp only [go_sem, seval, ↓J0 _ _ q03, ↓J0 _ _ K9, ↓J0 _ _ V4, ↓J0 _ _ Y4, ↓J0 _ _ U2, h_1, h_2, h_3, h_4, h_5, h_6, h_7]) | (have h_7 := trivial)) <;>
  (first | ((first | (apply K0 <;> intro h_8) | (refine CallK.pure (q5z _) (J1 ?_); have h_8 := trivial) | (refine CallK.pure (V0 _ _) (J1 ?_); have h_8 := trivial) | (refine CallK.pure (hx) (J1 ?_); have h_8 := trivial) | (refine CallK.pure (q1j _ _) (J1 ?_); have h_8 := trivial) | (refine CallK.pure (hl) (J1 ?_); have h_8 := trivial)) <;> simp -implicitDefEqProofs -dsimp only [go_sem, seval, ↓J0 _ _ q03, ↓J0 _ _ K9, ↓J0 _ _ V4, ↓J0 _ _ Y4, ↓J0 _ _ U2, h_1, h_2, h_3, h_4, h_5, h_6, h_7, h_8]) | (have h_8 := trivial)) <;>
  (first | ((first | (apply K0 <;> intro h_9) | (refine CallK.pure (q5z _) (J1 ?_); have h_9 := trivial) | (refine CallK.pure (V0 _ _) (J1 ?_); have h_9 := trivial) | (refine CallK.pure (hx) (J1 ?_); have h_9 := trivial) | (refine CallK.pure (q1j _ _) (J1 ?_); have h_9 := trivial) | (refine CallK.pure (hl) (J1 ?_); have h_9 := trivial)) <;> simp -implicitDefEqProofs -dsimp only [go_sem, seval, ↓J0 _ _ q03, ↓J0 _ _ K9, ↓J0 _ _ V4, ↓J0 _ _ Y4, ↓J0 _ _ U2, h_1, h_2, h_3, h_4, h_5, h_6, h_7, h_8, h_9]) | (have h_9 := trivial)) <;>
  (first | ((first | (apply K0 <;> intro h_10) | (refine CallK.pure (q5z _) (J1 ?_); have h_10 := trivial) | (refine CallK.pure (V0 _ _) (J1 ?_); have h_10 := trivial) | (refine CallK.pure (hx) (J1 ?_); have h_10 := trivial) | (refine CallK.pure (q1j _ _) (J1 ?_); have h_10 := trivial) | (refine CallK.pure (hl) (J1 ?_); have h_10 := trivial)) <;> simp -implicitDefEqProofs -dsimp only [go_sem, seval, ↓J0 _ _ q03, ↓J0 _ _ K9, ↓J0 _ _ V4, ↓J0 _ _ Y4, ↓J0 _ _ U2, h_1, h_2, h_3, h_4, h_5, h_6, h_7, h_8, h_9, h_10]) | (have h_10 := trivial)) <;>
  (first | ((first | (apply K0 <;> intro h_11) | (refine CallK.pure (q5z _) (J1 ?_); have h_11 := trivial) | (refine CallK.pure (V0 _ _) (J1 ?_); have h_11 := trivial) | (refine CallK.pure (hx) (J1 ?_); have h_11 := trivial) | (refine CallK.pure (q1j _ _) (J1 ?_); have h_11 := trivial) | (refine CallK.pure (hl) (J1 ?_); have h_11 := trivial)) <;> simp -implicitDefEqProofs -dsimp only [go_sem, seval, ↓J0 _ _ q03, ↓J0 _ _ K9, ↓J0 _ _ V4, ↓J0 _ _ Y4, ↓J0 _ _ U2, h_1, h_2, h_3, h_4, h_5, h_6, h_7, h_8, h_9, h_10, h_11]) | (have h_11 := trivial)) <;>
  (first | ((first | (apply K0 <;> intro h_12) | (refine CallK.pure (q5z _) (J1 ?_); have h_12 := trivial) | (refine CallK.pure (V0 _ _) (J1 ?_); have h_12 := trivial) | (refine CallK.pure (hx) (J1 ?_); have h_12 := trivial) | (refine CallK.pure (q1j _ _) (J1 ?_); have h_12 := trivial) | (refine CallK.pure (hl) (J1 ?_); have h_12 := trivial)) <;> simp -implicitDefEqProofs -dsimp only [go_sem, seval, ↓J0 _ _ q03, ↓J0 _ _ K9, ↓J0 _ _ V4, ↓J0 _ _ Y4, ↓J0 _ _ U2, h_1, h_2, h_3, h_4, h_5, h_6, h_7, h_8, h_9, h_10, h_11, h_12]) | (have h_12 := trivial))
 all_goals (refine J9 ?_; simp only [maF, *, if_true, Bool.false_eq_true, if_false, Bool.true_and, Bool.and_true, Bool.false_and, Bool.and_false])
end Go.Aw
