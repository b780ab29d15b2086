import Derived.Test.YtmicojcojlgefaaK29M17E
namespace Go.Aw
open Go
open Go.Proofs.Try (prog)
set_option linter.all false
set_option maxHeartbeats 8000000
set_option maxRecDepth 8000
def qto (v : Vt) : Bool := !z0h v
def qtp (c : Cf) : Bool := !c.right
def qtq (e : En) : Bool := !qq9 e
theorem qtr (v : Vt) (_ : True) : PCalls prog Y8 [.agg (vtC v)] (.b (qto v)) := by
 refine K4 U6 q98 (by simp) fun T => ?_
 unfold q5m
 have h := ql3 v
 simp only [vtC] at h
 simp -implicitDefEqProofs -dsimp only [go_sem, seval, vtC, ↓J0 _ _ qe2]
 refine cpn h ?_
 simp -implicitDefEqProofs -dsimp only [go_sem, seval]
 exact K2 rfl
theorem qts (c : Cf) (h : CfL c) : PCalls prog Y9 [.agg (cfC c)] (.b (qtp c)) := by
 refine K4 U6 q9b (by simp) fun T => ?_
 unfold q5n
 have h := q4b c none none h.1
 simp only [Cf.cells] at h
 simp -implicitDefEqProofs -dsimp only [go_sem, seval, cfC, Cf.cells, ↓J0 _ _ q0n]
 refine cpn h ?_
 simp -implicitDefEqProofs -dsimp only [go_sem, seval]
 exact K2 rfl
theorem qtt (e : En) (h : EnF e) : PCalls prog Z0 [.agg (enC e)] (.b (qtq e)) := by
 refine K4 U6 q9e (by simp) fun T => ?_
 unfold q5o
 have h := qo9 e none none h
 simp only [En.cells] at h
 simp -implicitDefEqProofs -dsimp only [go_sem, seval, enC, En.cells, ↓J0 _ _ qji]
 refine cpn h ?_
 simp -implicitDefEqProofs -dsimp only [go_sem, seval]
 exact K2 rfl
def VtT (v : Vt) : Prop := True
theorem qeq {R : I2} (hR : ExtR R) {T : Tab} {xs : List Vt} {cap : Option Nat} (hl : Len xs.length) (hx : ∀ x ∈ xs, VtT x) : ∀ (us : List Vt) (k : Nat), xs.drop k = us -> k <= xs.length ->
  (us.any qto = true -> ∀ j : Nat, R .ret [(4, .i .i64 j)] [] T) ->
  (us.any qto = false -> R (.exit 0) [(0, .fz xs.length (xs.flatMap vtC) cap), (1, .fn (.func Y8) [] []), (7, .i .i64 xs.length), (8, .i .i64 xs.length), (9, .b false)] [] T) ->
  AW prog Z1 R [(0, .fz xs.length (xs.flatMap vtC) cap), (1, .fn (.func Y8) [] []), (7, .i .i64 xs.length), (8, .i .i64 k)] [] T := by
 intro us
 induction us with
 | nil =>
  intro k hk hle h1 h2
  have hk' := V0 hk hle
  refine V7 hR ?_
  unfold Y5
  simp -implicitDefEqProofs -dsimp only [go_sem, seval, hk', Int.lt_irrefl]
  rw [hk'] at h2
  exact h2 rfl
 | cons x us ih =>
  intro k hk hle h1 h2
  obtain ⟨hlt, hx1, hk'⟩ := V8 hk
  have cl : ∀ c : Vt, (vtC c).length = 4 := fun _ => rfl
  have ea := I4 cl hx1
  have e5 : k * 4 + 4 <= (xs.flatMap vtC).length := by rw [O1 cl]; omega
  unfold Len at hl
  have hs : IntKind.i64.wrap ((k : Int) + 1) = ((k + 1 : Nat) : Int) := O7 (by omega)
  have pc := qtr x (hx x (List.mem_of_getElem? hx1))
  simp only [vtC] at pc
  simp only [List.any_cons] at h1 h2
  refine Q4 (l := Z1) rfl hR ?_
  unfold Y5
  simp -implicitDefEqProofs -dsimp only [go_sem, seval, Int.ofNat_lt, hlt, Int.natCast_nonneg, Int.toNat_natCast, ea, e5, vtC, List.cons_append, List.nil_append, qac _ _ _ _ _ _ q99]
  refine cpn pc ?_
  rcases he : qto x with _ | _
  ·rw [he, Bool.false_or] at h1 h2
   simp -implicitDefEqProofs -dsimp only [go_sem, seval, hs]
   exact ih (k + 1) hk' hlt h1 h2
  ·simp -implicitDefEqProofs -dsimp only [go_sem, seval]
   exact h1 (by rw [he]; rfl) k
theorem q02 (xs : List Vt) (cap : Option Nat) (hl : Len xs.length) (hx : ∀ x ∈ xs, VtT x) : PCalls prog Q6 [.fz xs.length (xs.flatMap vtC) cap, .fn (.func Y8) [] []] (.b (xs.any qto)) := by
 have cI : ∀ T, ACalls prog U1 [.fz xs.length (xs.flatMap vtC) cap, .fn (.func Y8) [] []] T (fun r T' => ∃ j : Int, r = .i .i64 j /\ decide (0 <= j) = xs.any qto /\ T' = T) := fun T => by
  refine I5 U6 q33 (by simp) ?_
  unfold q0a
  simp -implicitDefEqProofs -dsimp only [go_sem, seval]
  refine qeq (T := T) (by repeat' (first | exact O9 _ _ | assumption | apply O8 | apply N9 | apply Z5)) hl hx xs 0 rfl (Nat.zero_le _) (fun h j => ?_) (fun h => ?_)
  ·simp -implicitDefEqProofs -dsimp only [go_sem, seval]
   exact q1d _ (fun _ => .inr (.inl rfl)) ⟨(j : Int), rfl, by rw [h]; exact decide_eq_true (by omega), rfl⟩
  ·simp -implicitDefEqProofs -dsimp only [go_sem, seval]
   exact q1d _ (fun _ => .inr (.inl rfl)) ⟨-1, rfl, by rw [h]; rfl, rfl⟩
 refine K4 U6 q2k (by simp) fun T => ?_
 unfold q00
 simp -implicitDefEqProofs -dsimp only [go_sem, seval, ↓J0 _ _ q34]
 refine CallK.of (cI T) (fun r T1 ⟨j, e1, e2, e3⟩ => J1 ?_)
 subst e1; subst e3
 simp -implicitDefEqProofs -dsimp only [go_sem, seval, e2]
 exact K2 rfl
theorem qhh {R : I2} (hR : ExtR R) {T : Tab} {xs : List Cf} {cap : Option Nat} (hl : Len xs.length) (hx : ∀ x ∈ xs, CfL x) : ∀ (us : List Cf) (k : Nat), xs.drop k = us -> k <= xs.length ->
  (us.any qtp = true -> ∀ j : Nat, R .ret [(4, .i .i64 j)] [] T) ->
  (us.any qtp = false -> R (.exit 0) [(0, .fz xs.length (xs.flatMap cfC) cap), (1, .fn (.func Y9) [] []), (7, .i .i64 xs.length), (8, .i .i64 xs.length), (9, .b false)] [] T) ->
  AW prog G2 R [(0, .fz xs.length (xs.flatMap cfC) cap), (1, .fn (.func Y9) [] []), (7, .i .i64 xs.length), (8, .i .i64 k)] [] T := by
 intro us
 induction us with
 | nil =>
  intro k hk hle h1 h2
  have hk' := V0 hk hle
  refine V7 hR ?_
  unfold Z9
  simp -implicitDefEqProofs -dsimp only [go_sem, seval, hk', Int.lt_irrefl]
  rw [hk'] at h2
  exact h2 rfl
 | cons x us ih =>
  intro k hk hle h1 h2
  obtain ⟨hlt, hx1, hk'⟩ := V8 hk
  have cl : ∀ c : Cf, (cfC c).length = 5 := fun _ => rfl
  have ea := I4 cl hx1
  have e5 : k * 5 + 5 <= (xs.flatMap cfC).length := by rw [O1 cl]; omega
  unfold Len at hl
  have hs : IntKind.i64.wrap ((k : Int) + 1) = ((k + 1 : Nat) : Int) := O7 (by omega)
  have pc := qts x (hx x (List.mem_of_getElem? hx1))
  simp only [cfC, Cf.cells] at pc
  simp only [List.any_cons] at h1 h2
  refine Q4 (l := G2) rfl hR ?_
  unfold Z9
  simp -implicitDefEqProofs -dsimp only [go_sem, seval, Int.ofNat_lt, hlt, Int.natCast_nonneg, Int.toNat_natCast, ea, e5, cfC, Cf.cells, List.cons_append, List.nil_append, qac _ _ _ _ _ _ q9c]
  refine cpn pc ?_
  rcases he : qtp x with _ | _
  ·rw [he, Bool.false_or] at h1 h2
   simp -implicitDefEqProofs -dsimp only [go_sem, seval, hs]
   exact ih (k + 1) hk' hlt h1 h2
  ·simp -implicitDefEqProofs -dsimp only [go_sem, seval]
   exact h1 (by rw [he]; rfl) k
theorem q0o (xs : List Cf) (cap : Option Nat) (hl : Len xs.length) (hx : ∀ x ∈ xs, CfL x) : PCalls prog U3 [.fz xs.length (xs.flatMap cfC) cap, .fn (.func Y9) [] []] (.b (xs.any qtp)) := by
 have cI : ∀ T, ACalls prog V3 [.fz xs.length (xs.flatMap cfC) cap, .fn (.func Y9) [] []] T (fun r T' => ∃ j : Int, r = .i .i64 j /\ decide (0 <= j) = xs.any qtp /\ T' = T) := fun T => by
  refine I5 U6 q49 (by simp) ?_
  unfold q0u
  simp -implicitDefEqProofs -dsimp only [go_sem, seval]
  refine qhh (T := T) (by repeat' (first | exact O9 _ _ | assumption | apply O8 | apply N9 | apply Z5)) hl hx xs 0 rfl (Nat.zero_le _) (fun h j => ?_) (fun h => ?_)
  ·simp -implicitDefEqProofs -dsimp only [go_sem, seval]
   exact q1d _ (fun _ => .inr (.inl rfl)) ⟨(j : Int), rfl, by rw [h]; exact decide_eq_true (by omega), rfl⟩
  ·simp -implicitDefEqProofs -dsimp only [go_sem, seval]
   exact q1d _ (fun _ => .inr (.inl rfl)) ⟨-1, rfl, by rw [h]; rfl, rfl⟩
 refine K4 U6 q3k (by simp) fun T => ?_
 unfold q0e
 simp -implicitDefEqProofs -dsimp only [go_sem, seval, ↓J0 _ _ q4a]
 refine CallK.of (cI T) (fun r T1 ⟨j, e1, e2, e3⟩ => J1 ?_)
 subst e1; subst e3
 simp -implicitDefEqProofs -dsimp only [go_sem, seval, e2]
 exact K2 rfl
theorem qer {R : I2} (hR : ExtR R) {T : Tab} {xs : List En} {cap : Option Nat} (hl : Len xs.length) (hx : ∀ x ∈ xs, EnF x) : ∀ (us : List En) (k : Nat), xs.drop k = us -> k <= xs.length ->
  (us.any qtq = true -> ∀ j : Nat, R .ret [(4, .i .i64 j)] [] T) ->
  (us.any qtq = false -> R (.exit 0) [(0, .fz xs.length (xs.flatMap enC) cap), (1, .fn (.func Z0) [] []), (7, .i .i64 xs.length), (8, .i .i64 xs.length), (9, .b false)] [] T) ->
  AW prog Z2 R [(0, .fz xs.length (xs.flatMap enC) cap), (1, .fn (.func Z0) [] []), (7, .i .i64 xs.length), (8, .i .i64 k)] [] T := by
 intro us
 induction us with
 | nil =>
  intro k hk hle h1 h2
  have hk' := V0 hk hle
  refine V7 hR ?_
  unfold Y6
  simp -implicitDefEqProofs -dsimp only [go_sem, seval, hk', Int.lt_irrefl]
  rw [hk'] at h2
  exact h2 rfl
 | cons x us ih =>
  intro k hk hle h1 h2
  obtain ⟨hlt, hx1, hk'⟩ := V8 hk
  have cl : ∀ c : En, (enC c).length = 10 := fun _ => rfl
  have ea := I4 cl hx1
  have e5 : k * 10 + 10 <= (xs.flatMap enC).length := by rw [O1 cl]; omega
  unfold Len at hl
  have hs : IntKind.i64.wrap ((k : Int) + 1) = ((k + 1 : Nat) : Int) := O7 (by omega)
  have pc := qtt x (hx x (List.mem_of_getElem? hx1))
  simp only [enC, En.cells] at pc
  simp only [List.any_cons] at h1 h2
  refine Q4 (l := Z2) rfl hR ?_
  unfold Y6
  simp -implicitDefEqProofs -dsimp only [go_sem, seval, Int.ofNat_lt, hlt, Int.natCast_nonneg, Int.toNat_natCast, ea, e5, enC, En.cells, List.cons_append, List.nil_append, qac _ _ _ _ _ _ q9f]
  refine cpn pc ?_
  rcases he : qtq x with _ | _
  ·rw [he, Bool.false_or] at h1 h2
   simp -implicitDefEqProofs -dsimp only [go_sem, seval, hs]
   exact ih (k + 1) hk' hlt h1 h2
  ·simp -implicitDefEqProofs -dsimp only [go_sem, seval]
   exact h1 (by rw [he]; rfl) k
theorem q03 (xs : List En) (cap : Option Nat) (hl : Len xs.length) (hx : ∀ x ∈ xs, EnF x) : PCalls prog Q7 [.fz xs.length (xs.flatMap enC) cap, .fn (.func Z0) [] []] (.b (xs.any qtq)) := by
 have cI : ∀ T, ACalls prog U2 [.fz xs.length (xs.flatMap enC) cap, .fn (.func Z0) [] []] T (fun r T' => ∃ j : Int, r = .i .i64 j /\ decide (0 <= j) = xs.any qtq /\ T' = T) := fun T => by
  refine I5 U6 q36 (by simp) ?_
  unfold q0b
  simp -implicitDefEqProofs -dsimp only [go_sem, seval]
  refine qer (T := T) (by repeat' (first | exact O9 _ _ | assumption | apply O8 | apply N9 | apply Z5)) hl hx xs 0 rfl (Nat.zero_le _) (fun h j => ?_) (fun h => ?_)
  ·simp -implicitDefEqProofs -dsimp only [go_sem, seval]
   exact q1d _ (fun _ => .inr (.inl rfl)) ⟨(j : Int), rfl, by rw [h]; exact decide_eq_true (by omega), rfl⟩
  ·simp -implicitDefEqProofs -dsimp only [go_sem, seval]
   exact q1d _ (fun _ => .inr (.inl rfl)) ⟨-1, rfl, by rw [h]; rfl, rfl⟩
 refine K4 U6 q2m (by simp) fun T => ?_
 unfold q01
 simp -implicitDefEqProofs -dsimp only [go_sem, seval, ↓J0 _ _ q37]
 refine CallK.of (cI T) (fun r T1 ⟨j, e1, e2, e3⟩ => J1 ?_)
 subst e1; subst e3
 simp -implicitDefEqProofs -dsimp only [go_sem, seval, e2]
 exact K2 rfl
def qxs (l : List Vt) : Bool := decide ((l.length : Int) <= 400) && !(l.any qto)
def qxt (l : List Cf) : Bool := decide ((l.length : Int) <= 4) && !(l.any qtp)
def qxu (l : List En) : Bool := decide ((l.length : Int) <= 8) && !(l.any qtq)
def liF (l : Lt Cf) (s : Int) : Bool := if decide (s = 118) = true then qxs l.vs else if decide (s = 99) = true then qxt l.cs else if decide (s = 108) = true then qxu l.es else true
theorem qs0 (l : Lt Cf) (s : Int) (h : l.Small) : PCalls prog q1o [.agg l.cc, .i .u8 s] (.b (liF l s)) := by
 refine K4 U6 qap (by simp) fun T => ?_
 unfold q6b
 simp -implicitDefEqProofs -dsimp only [go_sem, seval, Lt.cells]
 (first | ((first | (apply J7 <;> intro h_1) | (refine CallK.pure (q02 _ _ h.vs (fun _ _ => trivial)) (J1 ?_); have h_1 := trivial) | (refine CallK.pure (q0o _ _ h.cs h.c) (J1 ?_); have h_1 := trivial) | (refine CallK.pure (q03 _ _ h.es h.e) (J1 ?_); have h_1 := trivial)) <;> simp -implicitDefEqProofs -dsimp only [go_sem, seval, ↓J0 _ _ K9, ↓J0 _ _ N2, ↓J0 _ _ N0, h_1]) | (have h_1 := trivial)) <;>
  (first | ((first | (apply J7 <;> intro h_2) | (refine CallK.pure (q02 _ _ h.vs (fun _ _ => trivial)) (J1 ?_); have h_2 := trivial) | (refine CallK.pure (q0o _ _ h.cs h.c) (J1 ?_); have h_2 := trivial) | (refine CallK.pure (q03 _ _ h.es h.e) (J1 ?_); have h_2 := trivial)) <;> simp -implicitDefEqProofs -dsimp only [go_sem, seval, ↓J0 _ _ K9, ↓J0 _ _ N2, ↓J0 _ _ N0, h_1, h_2]) | (have h_2 := trivial)) <;>
  (first | ((first | (apply J7 <;> intro h_3) | (refine CallK.pure (q02 _ _ h.vs (fun _ _ => trivial)) (J1 ?_); have h_3 := trivial) | (refine CallK.pure (q0o _ _ h.cs h.c) (J1 ?_); have h_3 := trivial) | (refine CallK.pure (q03 _ _ h.es h.e) (J1 ?_); have h_3 := trivial)) <;> simp -implicitDefEqProofs -dsimp only [go_sem, seval, ↓J0 _ _ K9, ↓J0 _ _ N2, ↓J0 _ _ N0, h_1, h_2, h_3]) | (have h_3 := trivial)) <;>
  (first | ((first | (apply J7 <;> intro h_4) | (refine CallK.pure (q02 _ _ h.vs (fun _ _ => trivial)) (J1 ?_); have h_4 := trivial) | (refine CallK.pure (q0o _ _ h.cs h.c) (J1 ?_); have h_4 := trivial) | (refine CallK.pure (q03 _ _ h.es h.e) (J1 ?_); have h_4 := trivial)) <;> simp -implicitDefEqProofs -dsimp only [go_sem, seval, ↓J0 _ _ K9, ↓J0 _ _ N2, ↓J0 _ _ N0, h_1, h_2, h_3, h_4]) | (have h_4 := trivial)) <;>
  (first | ((first | (apply J7 <;> intro h_5) | (refine CallK.pure (q02 _ _ h.vs (fun _ _ => trivial)) (J1 ?_); have h_5 := trivial) | (refine CallK.pure (q0o _ _ h.cs h.c) (J1 ?_); have h_5 := trivial) | (refine CallK.pure (q03 _ _ h.es h.e) (J1 ?_); have h_5 := trivial)) <;> simp -implicitDefEqProofs -dsimp only [go_sem, seval, ↓J0 _ _ K9, ↓J0 _ _ N2, ↓J0 _ _ N0, h_1, h_2, h_3, h_4, h_5]) | (have h_5 := trivial)) <;>
  (first | ((first | (apply J7 <;> intro h_6) | (refine CallK.pure (q02 _ _ h.vs (fun _ _ => trivial)) (J1 ?_); have h_6 := trivial) | (refine CallK.pure (q0o _ _ h.cs h.c) (J1 ?_); have h_6 := trivial) | (refine CallK.pure (q03 _ _ h.es h.e) (J1 ?_); have h_6 := trivial)) <;> simp -implicitDefEqProofs -dsimp only [go_sem, seval, ↓J0 _ _ K9, ↓J0 _ _ N2, ↓J0 _ _ N0, h_1, h_2, h_3, h_4, h_5, h_6]) | (have h_6 := trivial)) <;>
  (first | ((first | (apply J7 <;> intro h_7) | (refine CallK.pure (q02 _ _ h.vs (fun _ _ => trivial)) (J1 ?_); have h_7 := trivial) | (refine CallK.pure (q0o _ _ h.cs h.c) (J1 ?_); have h_7 := trivial) | (refine CallK.pure (q03 _ _ h.es h.e) (J1 ?_); have h_7 := trivial)) <;> simp -implicitDefEqProofs -dsimp only [go_sem, seval, ↓J0 _ _ K9, ↓J0 _ _ N2, ↓J0 _ _ N0, h_1, h_2, h_3, h_4, h_5, h_6, h_7]) | (have h_7 := trivial)) <;>
  (first | ((first | (apply J7 <;> intro h_8) | (refine CallK.pure (q02 _ _ h.vs (fun _ _ => trivial)) (J1 ?_); have h_8 := trivial) | (refine CallK.pure (q0o _ _ h.cs h.c) (J1 ?_); have h_8 := trivial) | (refine CallK.pure (q03 _ _ h.es h.e) (J1 ?_); have h_8 := trivial)) <;> simp -implicitDefEqProofs -dsimp only [go_sem, seval, ↓J0 _ _ K9, ↓J0 _ _ N2, ↓J0 _ _ N0, h_1, h_2, h_3, h_4, h_5, h_6, h_7, h_8]) | (have h_8 := trivial))
 all_goals (refine K2 ?_; simp only [liF, qxs, qxt, qxu, *, if_true, Bool.false_eq_true, if_false, Bool.true_and, Bool.and_true, Bool.false_and, Bool.and_false])
def maF (l : Lt Cf) (s : Int) : Bool :=
 if decide (s = 115) = true then decide (0 <= l.sh) && decide (l.sh < 4) else if decide (s = 110) = true then qup l.n else if decide (s = 109) = true then qup l.m else if decide (s = 111) = true then decide (0 <= l.nd) && decide (l.nd < 8) else
 if decide (s = 98) = true then qxp l.bn else if decide (s = 120) = true then qfe l.t else if decide (s = 105) = true then qo6 l.cl l.sq else if decide (s = 116) = true then decide ((l.v.length : Int) <= 64) else
 if decide (s = 114) = true then decide (0 <= l.co) && decide (l.co <= 99) else liF l s
theorem qxv (l : Lt Cf) (s : Int) (h : l.Small) (ht : l.t.Fine) : PCalls prog q2s [.agg l.cc, .i .u8 s] (.b (maF l s)) := by
 refine K4 U6 qcu (by simp) fun T => ?_
 have hl := qs0 l s h
 have hx := q9h l.t none none ht
 simp only [Tx.cells, Lt.cells] at hl hx
 unfold q7a
 simp -implicitDefEqProofs -dsimp only [go_sem, seval, Lt.cells]
 (first | ((first | (apply J7 <;> intro h_1) | (refine CallK.pure (q4w _) (J1 ?_); have h_1 := trivial) | (refine CallK.pure (Q8 _ _) (J1 ?_); have h_1 := trivial) | (refine CallK.pure (hx) (J1 ?_); have h_1 := trivial) | (refine CallK.pure (q0v _ _) (J1 ?_); have h_1 := trivial) | (refine CallK.pure (hl) (J1 ?_); have h_1 := trivial)) <;> simp -implicitDefEqProofs -dsimp only [go_sem, seval, ↓J0 _ _ G3, ↓J0 _ _ K5, ↓J0 _ _ Q9, ↓J0 _ _ U8, ↓J0 _ _ Q0, h_1]) | (have h_1 := trivial)) <;>
  (first | ((first | (apply J7 <;> intro h_2) | (refine CallK.pure (q4w _) (J1 ?_); have h_2 := trivial) | (refine CallK.pure (Q8 _ _) (J1 ?_); have h_2 := trivial) | (refine CallK.pure (hx) (J1 ?_); have h_2 := trivial) | (refine CallK.pure (q0v _ _) (J1 ?_); have h_2 := trivial) | (refine CallK.pure (hl) (J1 ?_); have h_2 := trivial)) <;> simp -implicitDefEqProofs -dsimp only [go_sem, seval, ↓J0 _ _ G3, ↓J0 _ _ K5, ↓J0 _ _ Q9, ↓J0 _ _ U8, ↓J0 _ _ Q0, h_1, h_2]) | (have h_2 := trivial)) <;>
  (first | ((first | (apply J7 <;> intro h_3) | (refine CallK.pure (q4w _) (J1 ?_); have h_3 := trivial) | (refine CallK.pure (Q8 _ _) (J1 ?_); have h_3 := trivial) | (refine CallK.pure (hx) (J1 ?_); have h_3 := trivial) | (refine CallK.pure (q0v _ _) (J1 ?_); have h_3 := trivial) | (refine CallK.pure (hl) (J1 ?_); have h_3 := trivial)) <;> simp -implicitDefEqProofs -dsimp only [go_sem, seval, ↓J0 _ _ G3, ↓J0 _ _ K5, ↓J0 _ _ Q9, ↓J0 _ _ U8, ↓J0 _ _ Q0, h_1, h_2, h_3]) | (have h_3 := trivial)) <;>
  (first | ((first | (apply J7 <;> intro h_4) | (refine CallK.pure (q4w _) (J1 ?_); have h_4 := trivial) | (refine CallK.pure (Q8 _ _) (J1 ?_); have h_4 := trivial) | (refine CallK.pure (hx) (J1 ?_); have h_4 := trivial) | (refine CallK.pure (q0v _ _) (J1 ?_); have h_4 := trivial) | (refine CallK.pure (hl) (J1 ?_); have h_4 := trivial)) <;> simp -implicitDefEqProofs -dsimp only [go_sem, seval, ↓J0 _ _ G3, ↓J0 _ _ K5, ↓J0 _ _ Q9, ↓J0 _ _ U8, ↓J0 _ _ Q0, h_1, h_2, h_3, h_4]) | (have h_4 := trivial)) <;>
  (first | ((first | (apply J7 <;> intro h_5) | (refine CallK.pure (q4w _) (J1 ?_); have h_5 := trivial) | (refine CallK.pure (Q8 _ _) (J1 ?_); have h_5 := trivial) | (refine CallK.pure (hx) (J1 ?_); have h_5 := trivial) | (refine CallK.pure (q0v _ _) (J1 ?_); have h_5 := trivial) | (refine CallK.pure (hl) (J1 ?_); have h_5 := trivial)) <;> simp -implicitDefEqProofs -dsimp only [go_sem, seval, ↓J0 _ _ G3, ↓J0 _ _ K5, ↓J0 _ _ Q9, ↓J0 _ _ U8, ↓J0 _ _ Q0, h_1, h_2, h_3, h_4, h_5]) | (have h_5 := trivial)) <;>
  (first | ((first | (apply J7 <;> intro h_6) | (refine CallK.pure (q4w _) (J1 ?_); have h_6 := trivial) | (refine CallK.pure (Q8 _ _) (J1 ?_); have h_6 := trivial) | (refine CallK.pure (hx) (J1 ?_); have h_6 := trivial) | (refine CallK.pure (q0v _ _) (J1 ?_); have h_6 := trivial) | (refine CallK.pure (hl) (J1 ?_); have h_6 := trivial)) <;> simp -implicitDefEqProofs -dsimp only [go_sem, seval, ↓J0 _ _ G3, ↓J0 _ _ K5, ↓J0 _ _ Q9, ↓J0 _ _ U8, ↓J0 _ _ Q0, h_1, h_2, h_3, h_4, h_5, h_6]) | (have h_6 := trivial)) <;>
  (first | ((first | (apply J7 <;> intro h_7) | (refine CallK.pure (q4w _) (J1 ?_); have h_7 := trivial) | (refine CallK.pure (Q8 _ _) (J1 ?_); have h_7 := trivial) | (refine CallK.pure (hx) (J1 ?_); have h_7 := trivial) | (refine CallK.pure (q0v _ _) (J1 ?_); have h_7 := trivial) | (refine CallK.pure (hl) (J1 ?_); have h_7 := trivial)) <;> simp -implicitDefEqProofs -dsimp only [go_sem, seval, ↓J0 _ _ G3, ↓J0 _ _ K5, ↓J0 _ _ Q9, ↓J0 _ _ U8, ↓J0 _ _ Q0, h_1, h_2, h_3, h_4, h_5, h_6, h_7]) | (have h_7 := trivial)) <;>
  (first | ((first | (apply J7 <;> intro h_8) | (refine CallK.pure (q4w _) (J1 ?_); have h_8 := trivial) | (refine CallK.pure (Q8 _ _) (J1 ?_); have h_8 := trivial) | (refine CallK.pure (hx) (J1 ?_); have h_8 := trivial) | (refine CallK.pure (q0v _ _) (J1 ?_); have h_8 := trivial) | (refine CallK.pure (hl) (J1 ?_); have h_8 := trivial)) <;> simp -implicitDefEqProofs -dsimp only [go_sem, seval, ↓J0 _ _ G3, ↓J0 _ _ K5, ↓J0 _ _ Q9, ↓J0 _ _ U8, ↓J0 _ _ Q0, h_1, h_2, h_3, h_4, h_5, h_6, h_7, h_8]) | (have h_8 := trivial)) <;>
  (first | ((first | (apply J7 <;> intro h_9) | (refine CallK.pure (q4w _) (J1 ?_); have h_9 := trivial) | (refine CallK.pure (Q8 _ _) (J1 ?_); have h_9 := trivial) | (refine CallK.pure (hx) (J1 ?_); have h_9 := trivial) | (refine CallK.pure (q0v _ _) (J1 ?_); have h_9 := trivial) | (refine CallK.pure (hl) (J1 ?_); have h_9 := trivial)) <;> simp -implicitDefEqProofs -dsimp only [go_sem, seval, ↓J0 _ _ G3, ↓J0 _ _ K5, ↓J0 _ _ Q9, ↓J0 _ _ U8, ↓J0 _ _ Q0, h_1, h_2, h_3, h_4, h_5, h_6, h_7, h_8, h_9]) | (have h_9 := trivial)) <;>
  (first | ((first | (apply J7 <;> intro h_10) | (refine CallK.pure (q4w _) (J1 ?_); have h_10 := trivial) | (refine CallK.pure (Q8 _ _) (J1 ?_); have h_10 := trivial) | (refine CallK.pure (hx) (J1 ?_); have h_10 := trivial) | (refine CallK.pure (q0v _ _) (J1 ?_); have h_10 := trivial) | (refine CallK.pure (hl) (J1 ?_); have h_10 := trivial)) <;> simp -implicitDefEqProofs -dsimp only [go_sem, seval, ↓J0 _ _ G3, ↓J0 _ _ K5, ↓J0 _ _ Q9, ↓J0 _ _ U8, ↓J0 _ _ Q0, h_1, h_2, h_3, h_4, h_5, h_6, h_7, h_8, h_9, h_10]) | (have h_10 := trivial)) <;>
  (first | ((first | (apply J7 <;> intro h_11) | (refine CallK.pure (q4w _) (J1 ?_); have h_11 := trivial) | (refine CallK.pure (Q8 _ _) (J1 ?_); have h_11 := trivial) | (refine CallK.pure (hx) (J1 ?_); have h_11 := trivial) | (refine CallK.pure (q0v _ _) (J1 ?_); have h_11 := trivial) | (refine CallK.pure (hl) (J1 ?_); have h_11 := trivial)) <;> simp -implicitDefEqProofs -dsimp only [go_sem, seval, ↓J0 _ _ G3, ↓J0 _ _ K5, ↓J0 _ _ Q9, ↓J0 _ _ U8, ↓J0 _ _ Q0, h_1, h_2, h_3, h_4, h_5, h_6, h_7, h_8, h_9, h_10, h_11]) | (have h_11 := trivial)) <;>
  (first | ((first | (apply J7 <;> intro h_12) | (refine CallK.pure (q4w _) (J1 ?_); have h_12 := trivial) | (refine CallK.pure (Q8 _ _) (J1 ?_); have h_12 := trivial) | (refine CallK.pure (hx) (J1 ?_); have h_12 := trivial) | (refine CallK.pure (q0v _ _) (J1 ?_); have h_12 := trivial) | (refine CallK.pure (hl) (J1 ?_); have h_12 := trivial)) <;> simp -implicitDefEqProofs -dsimp only [go_sem, seval, ↓J0 _ _ G3, ↓J0 _ _ K5, ↓J0 _ _ Q9, ↓J0 _ _ U8, ↓J0 _ _ Q0, h_1, h_2, h_3, h_4, h_5, h_6, h_7, h_8, h_9, h_10, h_11, h_12]) | (have h_12 := trivial))
 all_goals (refine K2 ?_; simp only [maF, *, if_true, Bool.false_eq_true, if_false, Bool.true_and, Bool.and_true, Bool.false_and, Bool.and_false])
end Go.Aw
