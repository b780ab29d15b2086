import Derived.Test.YteiamcnjlpbihaaGreatDoorN17M17E
namespace Go.Aw
open Go
open Go.Proofs.Tryz (prog)
set_option linter.all false
set_option maxHeartbeats 8000000
set_option maxRecDepth 8000
def z63 (v : Vt) : Bool := !qz3 v
def z3h (c : Cf) : Bool := !c.right
def z64 (e : En) : Bool := !qeo e
theorem zc9 (v : Vt) (_ : True) : PCalls prog q0a [.agg (vtC v)] (.b (z63 v)) := by
 refine K7 U3 qgg (by simp) fun T => ?_
 unfold qad
 have h := qyc v
 simp only [vtC] at h
 simp -implicitDefEqProofs -dsimp only [go_sem, seval, vtC, ↓J0 _ _ qnu]
 refine cpn h ?_
 simp -implicitDefEqProofs -dsimp only [go_sem, seval]
 exact J9 rfl
theorem zca (c : Cf) (h : CfL c) : PCalls prog q0b [.agg (cfC c)] (.b (z3h c)) := by
 refine K7 U3 qgj (by simp) fun T => ?_
 unfold qae
 have h := qgr c none none h.1
 simp only [Cf.cells] at h
 simp -implicitDefEqProofs -dsimp only [go_sem, seval, cfC, Cf.cells, ↓J0 _ _ qi8]
 refine cpn h ?_
 simp -implicitDefEqProofs -dsimp only [go_sem, seval]
 exact J9 rfl
theorem zcb (e : En) (h : EnF e) : PCalls prog q0c [.agg (enC e)] (.b (z64 e)) := by
 refine K7 U3 qgm (by simp) fun T => ?_
 unfold qaf
 have h := qfi e none none h
 simp only [En.cells] at h
 simp -implicitDefEqProofs -dsimp only [go_sem, seval, enC, En.cells, ↓J0 _ _ qag]
 refine cpn h ?_
 simp -implicitDefEqProofs -dsimp only [go_sem, seval]
 exact J9 rfl
def VtT (v : Vt) : Prop := True
theorem qor {R : Z1} (hR : ExtR R) {T : Tab} {xs : List Vt} {cap : Option Nat} (hl : Len xs.length) (hx : ∀ x ∈ xs, VtT x) : ∀ (us : List Vt) (k : Nat), xs.drop k = us -> k <= xs.length ->
  (us.any z63 = true -> ∀ j : Nat, R .ret [(4, .i .i64 j)] [] T) ->
  (us.any z63 = false -> R (.exit 0) [(0, .fz xs.length (xs.flatMap vtC) cap), (1, .fn (.func q0a) [] []), (7, .i .i64 xs.length), (8, .i .i64 xs.length), (9, .b false)] [] T) ->
  AW prog q0d R [(0, .fz xs.length (xs.flatMap vtC) cap), (1, .fn (.func q0a) [] []), (7, .i .i64 xs.length), (8, .i .i64 k)] [] T := by
 intro us
 induction us with
 | nil =>
  intro k hk hle h1 h2
  have hk' := Q7 hk hle
  refine Q5 hR ?_
  unfold q03
  simp -implicitDefEqProofs -dsimp only [go_sem, seval, hk', Int.lt_irrefl]
  rw [hk'] at h2
  exact h2 rfl
 | cons x us ih =>
  intro k hk hle h1 h2
  obtain ⟨hlt, hx1, hk'⟩ := U6 hk
  have cl : ∀ c : Vt, (vtC c).length = 4 := fun _ => rfl
  have ea := Z5 cl hx1
  have e5 : k * 4 + 4 <= (xs.flatMap vtC).length := by rw [O1 cl]; omega
  unfold Len at hl
  have hs : IntKind.i64.wrap ((k : Int) + 1) = ((k + 1 : Nat) : Int) := N4 (by omega)
  have pc := zc9 x (hx x (List.mem_of_getElem? hx1))
  simp only [vtC] at pc
  simp only [List.any_cons] at h1 h2
  refine O0 (l := q0d) rfl hR ?_
  unfold q03
  simp -implicitDefEqProofs -dsimp only [go_sem, seval, Int.ofNat_lt, hlt, Int.natCast_nonneg, Int.toNat_natCast, ea, e5, vtC, List.cons_append, List.nil_append, qhp _ _ _ _ _ _ qgh]
  refine cpn pc ?_
  rcases he : z63 x with _ | _
  ·rw [he, Bool.false_or] at h1 h2
   simp -implicitDefEqProofs -dsimp only [go_sem, seval, hs]
   exact ih (k + 1) hk' hlt h1 h2
  ·simp -implicitDefEqProofs -dsimp only [go_sem, seval]
   exact h1 (by rw [he]; rfl) k
theorem q1a (xs : List Vt) (cap : Option Nat) (hl : Len xs.length) (hx : ∀ x ∈ xs, VtT x) : PCalls prog Y6 [.fz xs.length (xs.flatMap vtC) cap, .fn (.func q0a) [] []] (.b (xs.any z63)) := by
 have cI : ∀ T, ACalls prog Z6 [.fz xs.length (xs.flatMap vtC) cap, .fn (.func q0a) [] []] T (fun r T' => ∃ j : Int, r = .i .i64 j /\ decide (0 <= j) = xs.any z63 /\ T' = T) := fun T => by
  refine Z3 U3 q66 (by simp) ?_
  unfold q1o
  simp -implicitDefEqProofs -dsimp only [go_sem, seval]
  refine qor (T := T) (by repeat' (first | exact N2 _ _ | assumption | apply N1 | apply K9 | apply Q3)) hl hx xs 0 rfl (Nat.zero_le _) (fun h j => ?_) (fun h => ?_)
  ·simp -implicitDefEqProofs -dsimp only [go_sem, seval]
   exact q12 _ (fun _ => .inr (.inl rfl)) ⟨(j : Int), rfl, by rw [h]; exact decide_eq_true (by omega), rfl⟩
  ·simp -implicitDefEqProofs -dsimp only [go_sem, seval]
   exact q12 _ (fun _ => .inr (.inl rfl)) ⟨-1, rfl, by rw [h]; rfl, rfl⟩
 refine K7 U3 q5f (by simp) fun T => ?_
 unfold q18
 simp -implicitDefEqProofs -dsimp only [go_sem, seval, ↓J0 _ _ q67]
 refine CallK.of (cI T) (fun r T1 ⟨j, e1, e2, e3⟩ => J1 ?_)
 subst e1; subst e3
 simp -implicitDefEqProofs -dsimp only [go_sem, seval, e2]
 exact J9 rfl
theorem qs6 {R : Z1} (hR : ExtR R) {T : Tab} {xs : List Cf} {cap : Option Nat} (hl : Len xs.length) (hx : ∀ x ∈ xs, CfL x) : ∀ (us : List Cf) (k : Nat), xs.drop k = us -> k <= xs.length ->
  (us.any z3h = true -> ∀ j : Nat, R .ret [(4, .i .i64 j)] [] T) ->
  (us.any z3h = false -> R (.exit 0) [(0, .fz xs.length (xs.flatMap cfC) cap), (1, .fn (.func q0b) [] []), (7, .i .i64 xs.length), (8, .i .i64 xs.length), (9, .b false)] [] T) ->
  AW prog q0q R [(0, .fz xs.length (xs.flatMap cfC) cap), (1, .fn (.func q0b) [] []), (7, .i .i64 xs.length), (8, .i .i64 k)] [] T := by
 intro us
 induction us with
 | nil =>
  intro k hk hle h1 h2
  have hk' := Q7 hk hle
  refine Q5 hR ?_
  unfold q0l
  simp -implicitDefEqProofs -dsimp only [go_sem, seval, hk', Int.lt_irrefl]
  rw [hk'] at h2
  exact h2 rfl
 | cons x us ih =>
  intro k hk hle h1 h2
  obtain ⟨hlt, hx1, hk'⟩ := U6 hk
  have cl : ∀ c : Cf, (cfC c).length = 5 := fun _ => rfl
  have ea := Z5 cl hx1
  have e5 : k * 5 + 5 <= (xs.flatMap cfC).length := by rw [O1 cl]; omega
  unfold Len at hl
  have hs : IntKind.i64.wrap ((k : Int) + 1) = ((k + 1 : Nat) : Int) := N4 (by omega)
  have pc := zca x (hx x (List.mem_of_getElem? hx1))
  simp only [cfC, Cf.cells] at pc
  simp only [List.any_cons] at h1 h2
  refine O0 (l := q0q) rfl hR ?_
  unfold q0l
  simp -implicitDefEqProofs -dsimp only [go_sem, seval, Int.ofNat_lt, hlt, Int.natCast_nonneg, Int.toNat_natCast, ea, e5, cfC, Cf.cells, List.cons_append, List.nil_append, qhp _ _ _ _ _ _ qgk]
  refine cpn pc ?_
  rcases he : z3h x with _ | _
  ·rw [he, Bool.false_or] at h1 h2
   simp -implicitDefEqProofs -dsimp only [go_sem, seval, hs]
   exact ih (k + 1) hk' hlt h1 h2
  ·simp -implicitDefEqProofs -dsimp only [go_sem, seval]
   exact h1 (by rw [he]; rfl) k
theorem q2k (xs : List Cf) (cap : Option Nat) (hl : Len xs.length) (hx : ∀ x ∈ xs, CfL x) : PCalls prog Z9 [.fz xs.length (xs.flatMap cfC) cap, .fn (.func q0b) [] []] (.b (xs.any z3h)) := by
 have cI : ∀ T, ACalls prog I3 [.fz xs.length (xs.flatMap cfC) cap, .fn (.func q0b) [] []] T (fun r T' => ∃ j : Int, r = .i .i64 j /\ decide (0 <= j) = xs.any z3h /\ T' = T) := fun T => by
  refine Z3 U3 q83 (by simp) ?_
  unfold q2s
  simp -implicitDefEqProofs -dsimp only [go_sem, seval]
  refine qs6 (T := T) (by repeat' (first | exact N2 _ _ | assumption | apply N1 | apply K9 | apply Q3)) hl hx xs 0 rfl (Nat.zero_le _) (fun h j => ?_) (fun h => ?_)
  ·simp -implicitDefEqProofs -dsimp only [go_sem, seval]
   exact q12 _ (fun _ => .inr (.inl rfl)) ⟨(j : Int), rfl, by rw [h]; exact decide_eq_true (by omega), rfl⟩
  ·simp -implicitDefEqProofs -dsimp only [go_sem, seval]
   exact q12 _ (fun _ => .inr (.inl rfl)) ⟨-1, rfl, by rw [h]; rfl, rfl⟩
 refine K7 U3 q6y (by simp) fun T => ?_
 unfold q20
 simp -implicitDefEqProofs -dsimp only [go_sem, seval, ↓J0 _ _ q84]
 refine CallK.of (cI T) (fun r T1 ⟨j, e1, e2, e3⟩ => J1 ?_)
 subst e1; subst e3
 simp -implicitDefEqProofs -dsimp only [go_sem, seval, e2]
 exact J9 rfl
theorem qos {R : Z1} (hR : ExtR R) {T : Tab} {xs : List En} {cap : Option Nat} (hl : Len xs.length) (hx : ∀ x ∈ xs, EnF x) : ∀ (us : List En) (k : Nat), xs.drop k = us -> k <= xs.length ->
  (us.any z64 = true -> ∀ j : Nat, R .ret [(4, .i .i64 j)] [] T) ->
  (us.any z64 = false -> R (.exit 0) [(0, .fz xs.length (xs.flatMap enC) cap), (1, .fn (.func q0c) [] []), (7, .i .i64 xs.length), (8, .i .i64 xs.length), (9, .b false)] [] T) ->
  AW prog q0e R [(0, .fz xs.length (xs.flatMap enC) cap), (1, .fn (.func q0c) [] []), (7, .i .i64 xs.length), (8, .i .i64 k)] [] T := by
 intro us
 induction us with
 | nil =>
  intro k hk hle h1 h2
  have hk' := Q7 hk hle
  refine Q5 hR ?_
  unfold q04
  simp -implicitDefEqProofs -dsimp only [go_sem, seval, hk', Int.lt_irrefl]
  rw [hk'] at h2
  exact h2 rfl
 | cons x us ih =>
  intro k hk hle h1 h2
  obtain ⟨hlt, hx1, hk'⟩ := U6 hk
  have cl : ∀ c : En, (enC c).length = 10 := fun _ => rfl
  have ea := Z5 cl hx1
  have e5 : k * 10 + 10 <= (xs.flatMap enC).length := by rw [O1 cl]; omega
  unfold Len at hl
  have hs : IntKind.i64.wrap ((k : Int) + 1) = ((k + 1 : Nat) : Int) := N4 (by omega)
  have pc := zcb x (hx x (List.mem_of_getElem? hx1))
  simp only [enC, En.cells] at pc
  simp only [List.any_cons] at h1 h2
  refine O0 (l := q0e) rfl hR ?_
  unfold q04
  simp -implicitDefEqProofs -dsimp only [go_sem, seval, Int.ofNat_lt, hlt, Int.natCast_nonneg, Int.toNat_natCast, ea, e5, enC, En.cells, List.cons_append, List.nil_append, qhp _ _ _ _ _ _ qgn]
  refine cpn pc ?_
  rcases he : z64 x with _ | _
  ·rw [he, Bool.false_or] at h1 h2
   simp -implicitDefEqProofs -dsimp only [go_sem, seval, hs]
   exact ih (k + 1) hk' hlt h1 h2
  ·simp -implicitDefEqProofs -dsimp only [go_sem, seval]
   exact h1 (by rw [he]; rfl) k
theorem q1b (xs : List En) (cap : Option Nat) (hl : Len xs.length) (hx : ∀ x ∈ xs, EnF x) : PCalls prog Y7 [.fz xs.length (xs.flatMap enC) cap, .fn (.func q0c) [] []] (.b (xs.any z64)) := by
 have cI : ∀ T, ACalls prog Z7 [.fz xs.length (xs.flatMap enC) cap, .fn (.func q0c) [] []] T (fun r T' => ∃ j : Int, r = .i .i64 j /\ decide (0 <= j) = xs.any z64 /\ T' = T) := fun T => by
  refine Z3 U3 q69 (by simp) ?_
  unfold q1p
  simp -implicitDefEqProofs -dsimp only [go_sem, seval]
  refine qos (T := T) (by repeat' (first | exact N2 _ _ | assumption | apply N1 | apply K9 | apply Q3)) hl hx xs 0 rfl (Nat.zero_le _) (fun h j => ?_) (fun h => ?_)
  ·simp -implicitDefEqProofs -dsimp only [go_sem, seval]
   exact q12 _ (fun _ => .inr (.inl rfl)) ⟨(j : Int), rfl, by rw [h]; exact decide_eq_true (by omega), rfl⟩
  ·simp -implicitDefEqProofs -dsimp only [go_sem, seval]
   exact q12 _ (fun _ => .inr (.inl rfl)) ⟨-1, rfl, by rw [h]; rfl, rfl⟩
 refine K7 U3 q5h (by simp) fun T => ?_
 unfold q19
 simp -implicitDefEqProofs -dsimp only [go_sem, seval, ↓J0 _ _ q6a]
 refine CallK.of (cI T) (fun r T1 ⟨j, e1, e2, e3⟩ => J1 ?_)
 subst e1; subst e3
 simp -implicitDefEqProofs -dsimp only [go_sem, seval, e2]
 exact J9 rfl
def q9p (l : List Vt) : Bool := decide ((l.length : Int) <= 400) && !(l.any z63)
def q9q (l : List Cf) : Bool := decide ((l.length : Int) <= 4) && !(l.any z3h)
def q9r (l : List En) : Bool := decide ((l.length : Int) <= 8) && !(l.any z64)
def liF (l : Lt Cf) (s : Int) : Bool := if decide (s = 118) = true then q9p l.vs else if decide (s = 99) = true then q9q l.cs else if decide (s = 108) = true then q9r l.es else true
theorem z8w (l : Lt Cf) (s : Int) (h : l.Small) : PCalls prog q40 [.agg l.cc, .i .u8 s] (.b (liF l s)) := by
 refine K7 U3 qi2 (by simp) fun T => ?_
 unfold qbg
 simp -implicitDefEqProofs -dsimp only [go_sem, seval, Lt.cells]
 (first | ((first | (apply J2 <;> intro h_1) | (refine CallK.pure (q1a _ _ h.vs (fun _ _ => trivial)) (J1 ?_); have h_1 := trivial) | (refine CallK.pure (q2k _ _ h.cs h.c) (J1 ?_); have h_1 := trivial) | (refine CallK.pure (q1b _ _ h.es h.e) (J1 ?_); have h_1 := trivial)) <;> simp -implicitDefEqProofs -dsimp only [go_sem, seval, ↓J0 _ _ O4, ↓J0 _ _ O9, ↓J0 _ _ O5, h_1]) | (have h_1 := trivial)) <;>
  (first | ((first | (apply J2 <;> intro h_2) | (refine CallK.pure (q1a _ _ h.vs (fun _ _ => trivial)) (J1 ?_); have h_2 := trivial) | (refine CallK.pure (q2k _ _ h.cs h.c) (J1 ?_); have h_2 := trivial) | (refine CallK.pure (q1b _ _ h.es h.e) (J1 ?_); have h_2 := trivial)) <;> simp -implicitDefEqProofs -dsimp only [go_sem, seval, ↓J0 _ _ O4, ↓J0 _ _ O9, ↓J0 _ _ O5, h_1, h_2]) | (have h_2 := trivial)) <;>
  (first | ((first | (apply J2 <;> intro h_3) | (refine CallK.pure (q1a _ _ h.vs (fun _ _ => trivial)) (J1 ?_); have h_3 := trivial) | (refine CallK.pure (q2k _ _ h.cs h.c) (J1 ?_); have h_3 := trivial) | (refine CallK.pure (q1b _ _ h.es h.e) (J1 ?_); have h_3 := trivial)) <;> simp -implicitDefEqProofs -dsimp only [go_sem, seval, ↓J0 _ _ O4, ↓J0 _ _ O9, ↓J0 _ _ O5, h_1, h_2, h_3]) | (have h_3 := trivial)) <;>
  (first | ((first | (apply J2 <;> intro h_4) | (refine CallK.pure (q1a _ _ h.vs (fun _ _ => trivial)) (J1 ?_); have h_4 := trivial) | (refine CallK.pure (q2k _ _ h.cs h.c) (J1 ?_); have h_4 := trivial) | (refine CallK.pure (q1b _ _ h.es h.e) (J1 ?_); have h_4 := trivial)) <;> simp -implicitDefEqProofs -dsimp only [go_sem, seval, ↓J0 _ _ O4, ↓J0 _ _ O9, ↓J0 _ _ O5, h_1, h_2, h_3, h_4]) | (have h_4 := trivial)) <;>
  (first | ((first | (apply J2 <;> intro h_5) | (refine CallK.pure (q1a _ _ h.vs (fun _ _ => trivial)) (J1 ?_); have h_5 := trivial) | (refine CallK.pure (q2k _ _ h.cs h.c) (J1 ?_); have h_5 := trivial) | (refine CallK.pure (q1b _ _ h.es h.e) (J1 ?_); have h_5 := trivial)) <;> simp -implicitDefEqProofs -dsimp only [go_sem, seval, ↓J0 _ _ O4, ↓J0 _ _ O9, ↓J0 _ _ O5, h_1, h_2, h_3, h_4, h_5]) | (have h_5 := trivial)) <;>
  (first | ((first | (apply J2 <;> intro h_6) | (refine CallK.pure (q1a _ _ h.vs (fun _ _ => trivial)) (J1 ?_); have h_6 := trivial) | (refine CallK.pure (q2k _ _ h.cs h.c) (J1 ?_); have h_6 := trivial) | (refine CallK.pure (q1b _ _ h.es h.e) (J1 ?_); have h_6 := trivial)) <;> simp -implicitDefEqProofs -dsimp only [go_sem, seval, ↓J0 _ _ O4, ↓J0 _ _ O9, ↓J0 _ _ O5, h_1, h_2, h_3, h_4, h_5, h_6]) | (have h_6 := trivial)) <;>
  (first | ((first | (apply J2 <;> intro h_7) | (refine CallK.pure (q1a _ _ h.vs (fun _ _ => trivial)) (J1 ?_); have h_7 := trivial) | (refine CallK.pure (q2k _ _ h.cs h.c) (J1 ?_); have h_7 := trivial) | (refine CallK.pure (q1b _ _ h.es h.e) (J1 ?_); have h_7 := trivial)) <;> simp -implicitDefEqProofs -dsimp only [go_sem, seval, ↓J0 _ _ O4, ↓J0 _ _ O9, ↓J0 _ _ O5, h_1, h_2, h_3, h_4, h_5, h_6, h_7]) | (have h_7 := trivial)) <;>
  (first | ((first | (apply J2 <;> intro h_8) | (refine CallK.pure (q1a _ _ h.vs (fun _ _ => trivial)) (J1 ?_); have h_8 := trivial) | (refine CallK.pure (q2k _ _ h.cs h.c) (J1 ?_); have h_8 := trivial) | (refine CallK.pure (q1b _ _ h.es h.e) (J1 ?_); have h_8 := trivial)) <;> simp -implicitDefEqProofs -dsimp only [go_sem, seval, ↓J0 _ _ O4, ↓J0 _ _ O9, ↓J0 _ _ O5, h_1, h_2, h_3, h_4, h_5, h_6, h_7, h_8]) | (have h_8 := trivial))
 all_goals (refine J9 ?_; simp only [liF, q9p, q9q, q9r, *, if_true, Bool.false_eq_true, if_false, Bool.true_and, Bool.and_true, Bool.false_and, Bool.and_false])
def maF (l : Lt Cf) (s : Int) : Bool :=
 if decide (s = 115) = true then decide (0 <= l.sh) && decide (l.sh < 4) else if decide (s = 110) = true then qap l.n else if decide (s = 109) = true then qap l.m else if decide (s = 111) = true then decide (0 <= l.nd) && decide (l.nd < 8) else
 if decide (s = 98) = true then qh1 l.bn else if decide (s = 120) = true then qqi l.t else if decide (s = 105) = true then qj0 l.cl l.sq else if decide (s = 116) = true then decide ((l.v.length : Int) <= 64) else
 if decide (s = 114) = true then decide (0 <= l.co) && decide (l.co <= 99) else liF l s
theorem zh2 (l : Lt Cf) (s : Int) (h : l.Small) (ht : l.t.Fine) : PCalls prog q5q [.agg l.cc, .i .u8 s] (.b (maF l s)) := by
 refine K7 U3 qlh (by simp) fun T => ?_
 have hl := z8w l s h
 have hx := qm1 l.t none none ht
 simp only [Tx.cells, Lt.cells] at hl hx
 unfold qcy
 simp -implicitDefEqProofs -dsimp only [go_sem, seval, Lt.cells]
 (first | ((first | (apply J2 <;> intro h_1) | (refine CallK.pure (q91 _) (J1 ?_); have h_1 := trivial) | (refine CallK.pure (Y8 _ _) (J1 ?_); have h_1 := trivial) | (refine CallK.pure (hx) (J1 ?_); have h_1 := trivial) | (refine CallK.pure (q2t _ _) (J1 ?_); have h_1 := trivial) | (refine CallK.pure (hl) (J1 ?_); have h_1 := trivial)) <;> simp -implicitDefEqProofs -dsimp only [go_sem, seval, ↓J0 _ _ q0s, ↓J0 _ _ N5, ↓J0 _ _ Z8, ↓J0 _ _ G8, ↓J0 _ _ V7, h_1]) | (have h_1 := trivial)) <;>
  (first | ((first | (apply J2 <;> intro h_2) | (refine CallK.pure (q91 _) (J1 ?_); have h_2 := trivial) | (refine CallK.pure (Y8 _ _) (J1 ?_); have h_2 := trivial) | (refine CallK.pure (hx) (J1 ?_); have h_2 := trivial) | (refine CallK.pure (q2t _ _) (J1 ?_); have h_2 := trivial) | (refine CallK.pure (hl) (J1 ?_); have h_2 := trivial)) <;> simp -implicitDefEqProofs -dsimp only [go_sem, seval, ↓J0 _ _ q0s, ↓J0 _ _ N5, ↓J0 _ _ Z8, ↓J0 _ _ G8, ↓J0 _ _ V7, h_1, h_2]) | (have h_2 := trivial)) <;>
  (first | ((first | (apply J2 <;> intro h_3) | (refine CallK.pure (q91 _) (J1 ?_); have h_3 := trivial) | (refine CallK.pure (Y8 _ _) (J1 ?_); have h_3 := trivial) | (refine CallK.pure (hx) (J1 ?_); have h_3 := trivial) | (refine CallK.pure (q2t _ _) (J1 ?_); have h_3 := trivial) | (refine CallK.pure (hl) (J1 ?_); have h_3 := trivial)) <;> simp -implicitDefEqProofs -dsimp only [go_sem, seval, ↓J0 _ _ q0s, ↓J0 _ _ N5, ↓J0 _ _ Z8, ↓J0 _ _ G8, ↓J0 _ _ V7, h_1, h_2, h_3]) | (have h_3 := trivial)) <;>
  (first | ((first | (apply J2 <;> intro h_4) | (refine CallK.pure (q91 _) (J1 ?_); have h_4 := trivial) | (refine CallK.pure (Y8 _ _) (J1 ?_); have h_4 := trivial) | (refine CallK.pure (hx) (J1 ?_); have h_4 := trivial) | (refine CallK.pure (q2t _ _) (J1 ?_); have h_4 := trivial) | (refine CallK.pure (hl) (J1 ?_); have h_4 := trivial)) <;> simp -implicitDefEqProofs -dsimp only [go_sem, seval, ↓J0 _ _ q0s, ↓J0 _ _ N5, ↓J0 _ _ Z8, ↓J0 _ _ G8, ↓J0 _ _ V7, h_1, h_2, h_3, h_4]) | (have h_4 := trivial)) <;>
  (first | ((first | (apply J2 <;> intro h_5) | (refine CallK.pure (q91 _) (J1 ?_); have h_5 := trivial) | (refine CallK.pure (Y8 _ _) (J1 ?_); have h_5 := trivial) | (refine CallK.pure (hx) (J1 ?_); have h_5 := trivial) | (refine CallK.pure (q2t _ _) (J1 ?_); have h_5 := trivial) | (refine CallK.pure (hl) (J1 ?_); have h_5 := trivial)) <;> simp -implicitDefEqProofs -dsimp only [go_sem, seval, ↓J0 _ _ q0s, ↓J0 _ _ N5, ↓J0 _ _ Z8, ↓J0 _ _ G8, ↓J0 _ _ V7, h_1, h_2, h_3, h_4, h_5]) | (have h_5 := trivial)) <;>
  (first | ((first | (apply J2 <;> intro h_6) | (refine CallK.pure (q91 _) (J1 ?_); have h_6 := trivial) | (refine CallK.pure (Y8 _ _) (J1 ?_); have h_6 := trivial) | (refine CallK.pure (hx) (J1 ?_); have h_6 := trivial) | (refine CallK.pure (q2t _ _) (J1 ?_); have h_6 := trivial) | (refine CallK.pure (hl) (J1 ?_); have h_6 := trivial)) <;> simp -implicitDefEqProofs -dsimp only [go_sem, seval, ↓J0 _ _ q0s, ↓J0 _ _ N5, ↓J0 _ _ Z8, ↓J0 _ _ G8, ↓J0 _ _ V7, h_1, h_2, h_3, h_4, h_5, h_6]) | (have h_6 := trivial)) <;>
  (first | ((first | (apply J2 <;> intro h_7) | (refine CallK.pure (q91 _) (J1 ?_); have h_7 := trivial) | (refine CallK.pure (Y8 _ _) (J1 ?_); have h_7 := trivial) | (refine CallK.pure (hx) (J1 ?_); have h_7 := trivial) | (refine CallK.pure (q2t _ _) (J1 ?_); have h_7 := trivial) | (refine CallK.pure (hl) (J1 ?_); have h_7 := trivial)) <;> simp -implicitDefEqProofs -dsimp only [go_sem, seval, ↓J0 _ _ q0s, ↓J0 _ _ N5, ↓J0 _ _ Z8, ↓J0 _ _ G8, ↓J0 _ _ V7, h_1, h_2, h_3, h_4, h_5, h_6, h_7]) | (have h_7 := trivial)) <;>
  (first | ((first | (apply J2 <;> intro h_8) | (refine CallK.pure (q91 _) (J1 ?_); have h_8 := trivial) | (refine CallK.pure (Y8 _ _) (J1 ?_); have h_8 := trivial) | (refine CallK.pure (hx) (J1 ?_); have h_8 := trivial) | (refine CallK.pure (q2t _ _) (J1 ?_); have h_8 := trivial) | (refine CallK.pure (hl) (J1 ?_); have h_8 := trivial)) <;> simp -implicitDefEqProofs -dsimp only [go_sem, seval, ↓J0 _ _ q0s, ↓J0 _ _ N5, ↓J0 _ _ Z8, ↓J0 _ _ G8, ↓J0 _ _ V7, h_1, h_2, h_3, h_4, h_5, h_6, h_7, h_8]) | (have h_8 := trivial)) <;>
  (first | ((first | (apply J2 <;> intro h_9) | (refine CallK.pure (q91 _) (J1 ?_); have h_9 := trivial) | (refine CallK.pure (Y8 _ _) (J1 ?_); have h_9 := trivial) | (refine CallK.pure (hx) (J1 ?_); have h_9 := trivial) | (refine CallK.pure (q2t _ _) (J1 ?_); have h_9 := trivial) | (refine CallK.pure (hl) (J1 ?_); have h_9 := trivial)) <;> simp -implicitDefEqProofs -dsimp only [go_sem, seval, ↓J0 _ _ q0s, ↓J0 _ _ N5, ↓J0 _ _ Z8, ↓J0 _ _ G8, ↓J0 _ _ V7, h_1, h_2, h_3, h_4, h_5, h_6, h_7, h_8, h_9]) | (have h_9 := trivial)) <;>
  (first | ((first | (apply J2 <;> intro h_10) | (refine CallK.pure (q91 _) (J1 ?_); have h_10 := trivial) | (refine CallK.pure (Y8 _ _) (J1 ?_); have h_10 := trivial) | (refine CallK.pure (hx) (J1 ?_); have h_10 := trivial) | (refine CallK.pure (q2t _ _) (J1 ?_); have h_10 := trivial) | (refine CallK.pure (hl) (J1 ?_); have h_10 := trivial)) <;> simp -implicitDefEqProofs -dsimp only [go_sem, seval, ↓J0 _ _ q0s, ↓J0 _ _ N5, ↓J0 _ _ Z8, ↓J0 _ _ G8, ↓J0 _ _ V7, h_1, h_2, h_3, h_4, h_5, h_6, h_7, h_8, h_9, h_10]) | (have h_10 := trivial)) <;>
  (first | ((first | (apply J2 <;> intro h_11) | (refine CallK.pure (q91 _) (J1 ?_); have h_11 := trivial) | (refine CallK.pure (Y8 _ _) (J1 ?_); have h_11 := trivial) | (refine CallK.pure (hx) (J1 ?_); have h_11 := trivial) | (refine CallK.pure (q2t _ _) (J1 ?_); have h_11 := trivial) | (refine CallK.pure (hl) (J1 ?_); have h_11 := trivial)) <;> simp -implicitDefEqProofs -dsimp only [go_sem, seval, ↓J0 _ _ q0s, ↓J0 _ _ N5, ↓J0 _ _ Z8, ↓J0 _ _ G8, ↓J0 _ _ V7, h_1, h_2, h_3, h_4, h_5, h_6, h_7, h_8, h_9, h_10, h_11]) | (have h_11 := trivial)) <;>
  (first | ((first | (apply J2 <;> intro h_12) | (refine CallK.pure (q91 _) (J1 ?_); have h_12 := trivial) | (refine CallK.pure (Y8 _ _) (J1 ?_); have h_12 := trivial) | (refine CallK.pure (hx) (J1 ?_); have h_12 := trivial) | (refine CallK.pure (q2t _ _) (J1 ?_); have h_12 := trivial) | (refine CallK.pure (hl) (J1 ?_); have h_12 := trivial)) <;> simp -implicitDefEqProofs -dsimp only [go_sem, seval, ↓J0 _ _ q0s, ↓J0 _ _ N5, ↓J0 _ _ Z8, ↓J0 _ _ G8, ↓J0 _ _ V7, h_1, h_2, h_3, h_4, h_5, h_6, h_7, h_8, h_9, h_10, h_11, h_12]) | (have h_12 := trivial))
 all_goals (refine J9 ?_; simp only [maF, *, if_true, Bool.false_eq_true, if_false, Bool.true_and, Bool.and_true, Bool.false_and, Bool.and_false])
end Go.Aw
