import Derived.Test.YteiamcnjlpbihaaGreatDoorN17M17E
namespace Go.Aw
open Go
open Go.Proofs.Tryz (prog)
set_option linter.all false
set_option maxHeartbeats 8000000
set_option maxRecDepth 8000
def z6i (v : Vt) : Bool := !z2d v
def z3u (c : Cf) : Bool := !c.right
def z6j (e : En) : Bool := !qfu e
theorem zcq (v : Vt) (_ : True) : PCalls prog q09 [.agg (vtC v)] (.b (z6i v)) := by
 refine K7 U4 qgo (by simp) fun T => ?_
 unfold qaq
 have h := qyl v
 simp only [vtC] at h
 simp -implicitDefEqProofs -dsimp only [go_sem, seval, vtC, ↓J0 _ _ qoc]
 refine cpn h ?_
 simp -implicitDefEqProofs -dsimp only [go_sem, seval]
 exact J9 rfl
theorem zcr (c : Cf) (h : CfL c) : PCalls prog q0a [.agg (cfC c)] (.b (z3u c)) := by
 refine K7 U4 qgr (by simp) fun T => ?_
 unfold qar
 have h := qgz c none none h.1
 simp only [Cf.cells] at h
 simp -implicitDefEqProofs -dsimp only [go_sem, seval, cfC, Cf.cells, ↓J0 _ _ qif]
 refine cpn h ?_
 simp -implicitDefEqProofs -dsimp only [go_sem, seval]
 exact J9 rfl
theorem zcs (e : En) (h : EnF e) : PCalls prog q0b [.agg (enC e)] (.b (z6j e)) := by
 refine K7 U4 qgu (by simp) fun T => ?_
 unfold qas
 have h := qfq e none none h
 simp only [En.cells] at h
 simp -implicitDefEqProofs -dsimp only [go_sem, seval, enC, En.cells, ↓J0 _ _ qat]
 refine cpn h ?_
 simp -implicitDefEqProofs -dsimp only [go_sem, seval]
 exact J9 rfl
def VtT (v : Vt) : Prop := True
theorem qpa {R : Y5} (hR : ExtR R) {T : Tab} {xs : List Vt} {cap : Option Nat} (hl : Len xs.length) (hx : ∀ x ∈ xs, VtT x) : ∀ (us : List Vt) (k : Nat), xs.drop k = us -> k <= xs.length ->
  (us.any z6i = true -> ∀ j : Nat, R .ret [(4, .i .i64 j)] [] T) ->
  (us.any z6i = false -> R (.exit 0) [(0, .fz xs.length (xs.flatMap vtC) cap), (1, .fn (.func q09) [] []), (7, .i .i64 xs.length), (8, .i .i64 xs.length), (9, .b false)] [] T) ->
  AW prog q0c R [(0, .fz xs.length (xs.flatMap vtC) cap), (1, .fn (.func q09) [] []), (7, .i .i64 xs.length), (8, .i .i64 k)] [] T := by
 intro us
 induction us with
 | nil =>
  intro k hk hle h1 h2
  have hk' := Q2 hk hle
  refine Q1 hR ?_
  unfold q02
  simp -implicitDefEqProofs -dsimp only [go_sem, seval, hk', Int.lt_irrefl]
  rw [hk'] at h2
  exact h2 rfl
 | cons x us ih =>
  intro k hk hle h1 h2
  obtain ⟨hlt, hx1, hk'⟩ := U1 hk
  have cl : ∀ c : Vt, (vtC c).length = 4 := fun _ => rfl
  have ea := Y6 cl hx1
  have e5 : k * 4 + 4 <= (xs.flatMap vtC).length := by rw [N5 cl]; omega
  unfold Len at hl
  have hs : IntKind.i64.wrap ((k : Int) + 1) = ((k + 1 : Nat) : Int) := N3 (by omega)
  have pc := zcq x (hx x (List.mem_of_getElem? hx1))
  simp only [vtC] at pc
  simp only [List.any_cons] at h1 h2
  refine N8 (l := q0c) rfl hR ?_
  unfold q02
  simp -implicitDefEqProofs -dsimp only [go_sem, seval, Int.ofNat_lt, hlt, Int.natCast_nonneg, Int.toNat_natCast, ea, e5, vtC, List.cons_append, List.nil_append, qhu _ _ _ _ _ _ qgp]
  refine cpn pc ?_
  rcases he : z6i x with _ | _
  ·rw [he, Bool.false_or] at h1 h2
   simp -implicitDefEqProofs -dsimp only [go_sem, seval, hs]
   exact ih (k + 1) hk' hlt h1 h2
  ·simp -implicitDefEqProofs -dsimp only [go_sem, seval]
   exact h1 (by rw [he]; rfl) k
theorem q1a (xs : List Vt) (cap : Option Nat) (hl : Len xs.length) (hx : ∀ x ∈ xs, VtT x) : PCalls prog Y8 [.fz xs.length (xs.flatMap vtC) cap, .fn (.func q09) [] []] (.b (xs.any z6i)) := by
 have cI : ∀ T, ACalls prog Z4 [.fz xs.length (xs.flatMap vtC) cap, .fn (.func q09) [] []] T (fun r T' => ∃ j : Int, r = .i .i64 j /\ decide (0 <= j) = xs.any z6i /\ T' = T) := fun T => by
  refine Z3 U4 q6b (by simp) ?_
  unfold q1m
  simp -implicitDefEqProofs -dsimp only [go_sem, seval]
  refine qpa (T := T) (by repeat' (first | exact N2 _ _ | assumption | apply N1 | apply K8 | apply Q6)) hl hx xs 0 rfl (Nat.zero_le _) (fun h j => ?_) (fun h => ?_)
  ·simp -implicitDefEqProofs -dsimp only [go_sem, seval]
   exact q12 _ (fun _ => .inr (.inl rfl)) ⟨(j : Int), rfl, by rw [h]; exact decide_eq_true (by omega), rfl⟩
  ·simp -implicitDefEqProofs -dsimp only [go_sem, seval]
   exact q12 _ (fun _ => .inr (.inl rfl)) ⟨-1, rfl, by rw [h]; rfl, rfl⟩
 refine K7 U4 q5e (by simp) fun T => ?_
 unfold q18
 simp -implicitDefEqProofs -dsimp only [go_sem, seval, ↓J0 _ _ q6c]
 refine CallK.of (cI T) (fun r T1 ⟨j, e1, e2, e3⟩ => J1 ?_)
 subst e1; subst e3
 simp -implicitDefEqProofs -dsimp only [go_sem, seval, e2]
 exact J9 rfl
theorem qsv {R : Y5} (hR : ExtR R) {T : Tab} {xs : List Cf} {cap : Option Nat} (hl : Len xs.length) (hx : ∀ x ∈ xs, CfL x) : ∀ (us : List Cf) (k : Nat), xs.drop k = us -> k <= xs.length ->
  (us.any z3u = true -> ∀ j : Nat, R .ret [(4, .i .i64 j)] [] T) ->
  (us.any z3u = false -> R (.exit 0) [(0, .fz xs.length (xs.flatMap cfC) cap), (1, .fn (.func q0a) [] []), (7, .i .i64 xs.length), (8, .i .i64 xs.length), (9, .b false)] [] T) ->
  AW prog q0q R [(0, .fz xs.length (xs.flatMap cfC) cap), (1, .fn (.func q0a) [] []), (7, .i .i64 xs.length), (8, .i .i64 k)] [] T := by
 intro us
 induction us with
 | nil =>
  intro k hk hle h1 h2
  have hk' := Q2 hk hle
  refine Q1 hR ?_
  unfold q0l
  simp -implicitDefEqProofs -dsimp only [go_sem, seval, hk', Int.lt_irrefl]
  rw [hk'] at h2
  exact h2 rfl
 | cons x us ih =>
  intro k hk hle h1 h2
  obtain ⟨hlt, hx1, hk'⟩ := U1 hk
  have cl : ∀ c : Cf, (cfC c).length = 5 := fun _ => rfl
  have ea := Y6 cl hx1
  have e5 : k * 5 + 5 <= (xs.flatMap cfC).length := by rw [N5 cl]; omega
  unfold Len at hl
  have hs : IntKind.i64.wrap ((k : Int) + 1) = ((k + 1 : Nat) : Int) := N3 (by omega)
  have pc := zcr x (hx x (List.mem_of_getElem? hx1))
  simp only [cfC, Cf.cells] at pc
  simp only [List.any_cons] at h1 h2
  refine N8 (l := q0q) rfl hR ?_
  unfold q0l
  simp -implicitDefEqProofs -dsimp only [go_sem, seval, Int.ofNat_lt, hlt, Int.natCast_nonneg, Int.toNat_natCast, ea, e5, cfC, Cf.cells, List.cons_append, List.nil_append, qhu _ _ _ _ _ _ qgs]
  refine cpn pc ?_
  rcases he : z3u x with _ | _
  ·rw [he, Bool.false_or] at h1 h2
   simp -implicitDefEqProofs -dsimp only [go_sem, seval, hs]
   exact ih (k + 1) hk' hlt h1 h2
  ·simp -implicitDefEqProofs -dsimp only [go_sem, seval]
   exact h1 (by rw [he]; rfl) k
theorem q2g (xs : List Cf) (cap : Option Nat) (hl : Len xs.length) (hx : ∀ x ∈ xs, CfL x) : PCalls prog Z7 [.fz xs.length (xs.flatMap cfC) cap, .fn (.func q0a) [] []] (.b (xs.any z3u)) := by
 have cI : ∀ T, ACalls prog I2 [.fz xs.length (xs.flatMap cfC) cap, .fn (.func q0a) [] []] T (fun r T' => ∃ j : Int, r = .i .i64 j /\ decide (0 <= j) = xs.any z3u /\ T' = T) := fun T => by
  refine Z3 U4 q8d (by simp) ?_
  unfold q2p
  simp -implicitDefEqProofs -dsimp only [go_sem, seval]
  refine qsv (T := T) (by repeat' (first | exact N2 _ _ | assumption | apply N1 | apply K8 | apply Q6)) hl hx xs 0 rfl (Nat.zero_le _) (fun h j => ?_) (fun h => ?_)
  ·simp -implicitDefEqProofs -dsimp only [go_sem, seval]
   exact q12 _ (fun _ => .inr (.inl rfl)) ⟨(j : Int), rfl, by rw [h]; exact decide_eq_true (by omega), rfl⟩
  ·simp -implicitDefEqProofs -dsimp only [go_sem, seval]
   exact q12 _ (fun _ => .inr (.inl rfl)) ⟨-1, rfl, by rw [h]; rfl, rfl⟩
 refine K7 U4 q74 (by simp) fun T => ?_
 unfold q1y
 simp -implicitDefEqProofs -dsimp only [go_sem, seval, ↓J0 _ _ q8e]
 refine CallK.of (cI T) (fun r T1 ⟨j, e1, e2, e3⟩ => J1 ?_)
 subst e1; subst e3
 simp -implicitDefEqProofs -dsimp only [go_sem, seval, e2]
 exact J9 rfl
theorem qpb {R : Y5} (hR : ExtR R) {T : Tab} {xs : List En} {cap : Option Nat} (hl : Len xs.length) (hx : ∀ x ∈ xs, EnF x) : ∀ (us : List En) (k : Nat), xs.drop k = us -> k <= xs.length ->
  (us.any z6j = true -> ∀ j : Nat, R .ret [(4, .i .i64 j)] [] T) ->
  (us.any z6j = false -> R (.exit 0) [(0, .fz xs.length (xs.flatMap enC) cap), (1, .fn (.func q0b) [] []), (7, .i .i64 xs.length), (8, .i .i64 xs.length), (9, .b false)] [] T) ->
  AW prog q0d R [(0, .fz xs.length (xs.flatMap enC) cap), (1, .fn (.func q0b) [] []), (7, .i .i64 xs.length), (8, .i .i64 k)] [] T := by
 intro us
 induction us with
 | nil =>
  intro k hk hle h1 h2
  have hk' := Q2 hk hle
  refine Q1 hR ?_
  unfold q03
  simp -implicitDefEqProofs -dsimp only [go_sem, seval, hk', Int.lt_irrefl]
  rw [hk'] at h2
  exact h2 rfl
 | cons x us ih =>
  intro k hk hle h1 h2
  obtain ⟨hlt, hx1, hk'⟩ := U1 hk
  have cl : ∀ c : En, (enC c).length = 10 := fun _ => rfl
  have ea := Y6 cl hx1
  have e5 : k * 10 + 10 <= (xs.flatMap enC).length := by rw [N5 cl]; omega
  unfold Len at hl
  have hs : IntKind.i64.wrap ((k : Int) + 1) = ((k + 1 : Nat) : Int) := N3 (by omega)
  have pc := zcs x (hx x (List.mem_of_getElem? hx1))
  simp only [enC, En.cells] at pc
  simp only [List.any_cons] at h1 h2
  refine N8 (l := q0d) rfl hR ?_
  unfold q03
  simp -implicitDefEqProofs -dsimp only [go_sem, seval, Int.ofNat_lt, hlt, Int.natCast_nonneg, Int.toNat_natCast, ea, e5, enC, En.cells, List.cons_append, List.nil_append, qhu _ _ _ _ _ _ qgv]
  refine cpn pc ?_
  rcases he : z6j x with _ | _
  ·rw [he, Bool.false_or] at h1 h2
   simp -implicitDefEqProofs -dsimp only [go_sem, seval, hs]
   exact ih (k + 1) hk' hlt h1 h2
  ·simp -implicitDefEqProofs -dsimp only [go_sem, seval]
   exact h1 (by rw [he]; rfl) k
theorem q1b (xs : List En) (cap : Option Nat) (hl : Len xs.length) (hx : ∀ x ∈ xs, EnF x) : PCalls prog Y9 [.fz xs.length (xs.flatMap enC) cap, .fn (.func q0b) [] []] (.b (xs.any z6j)) := by
 have cI : ∀ T, ACalls prog Z5 [.fz xs.length (xs.flatMap enC) cap, .fn (.func q0b) [] []] T (fun r T' => ∃ j : Int, r = .i .i64 j /\ decide (0 <= j) = xs.any z6j /\ T' = T) := fun T => by
  refine Z3 U4 q6e (by simp) ?_
  unfold q1n
  simp -implicitDefEqProofs -dsimp only [go_sem, seval]
  refine qpb (T := T) (by repeat' (first | exact N2 _ _ | assumption | apply N1 | apply K8 | apply Q6)) hl hx xs 0 rfl (Nat.zero_le _) (fun h j => ?_) (fun h => ?_)
  ·simp -implicitDefEqProofs -dsimp only [go_sem, seval]
   exact q12 _ (fun _ => .inr (.inl rfl)) ⟨(j : Int), rfl, by rw [h]; exact decide_eq_true (by omega), rfl⟩
  ·simp -implicitDefEqProofs -dsimp only [go_sem, seval]
   exact q12 _ (fun _ => .inr (.inl rfl)) ⟨-1, rfl, by rw [h]; rfl, rfl⟩
 refine K7 U4 q5g (by simp) fun T => ?_
 unfold q19
 simp -implicitDefEqProofs -dsimp only [go_sem, seval, ↓J0 _ _ q6f]
 refine CallK.of (cI T) (fun r T1 ⟨j, e1, e2, e3⟩ => J1 ?_)
 subst e1; subst e3
 simp -implicitDefEqProofs -dsimp only [go_sem, seval, e2]
 exact J9 rfl
def qaw (l : List Vt) : Bool := decide ((l.length : Int) <= 400) && !(l.any z6i)
def qax (l : List Cf) : Bool := decide ((l.length : Int) <= 4) && !(l.any z3u)
def qay (l : List En) : Bool := decide ((l.length : Int) <= 8) && !(l.any z6j)
def liF (l : Lt Cf) (s : Int) : Bool := if decide (s = 118) = true then qaw l.vs else if decide (s = 99) = true then qax l.cs else if decide (s = 108) = true then qay l.es else true
theorem z9e (l : Lt Cf) (s : Int) (h : l.Small) : PCalls prog q3x [.agg l.cc, .i .u8 s] (.b (liF l s)) := by
 refine K7 U4 qi9 (by simp) fun T => ?_
 unfold qbo
 simp -implicitDefEqProofs -dsimp only [go_sem, seval, Lt.cells]
 (first | ((first | (apply J2 <;> intro h_1) | (refine CallK.pure (q1a _ _ h.vs (fun _ _ => trivial)) (J1 ?_); have h_1 := trivial) | (refine CallK.pure (q2g _ _ h.cs h.c) (J1 ?_); have h_1 := trivial) | (refine CallK.pure (q1b _ _ h.es h.e) (J1 ?_); have h_1 := trivial)) <;> simp -implicitDefEqProofs -dsimp only [go_sem, seval, ↓J0 _ _ O4, ↓J0 _ _ Q0, ↓J0 _ _ O5, h_1]) | (have h_1 := trivial)) <;>
  (first | ((first | (apply J2 <;> intro h_2) | (refine CallK.pure (q1a _ _ h.vs (fun _ _ => trivial)) (J1 ?_); have h_2 := trivial) | (refine CallK.pure (q2g _ _ h.cs h.c) (J1 ?_); have h_2 := trivial) | (refine CallK.pure (q1b _ _ h.es h.e) (J1 ?_); have h_2 := trivial)) <;> simp -implicitDefEqProofs -dsimp only [go_sem, seval, ↓J0 _ _ O4, ↓J0 _ _ Q0, ↓J0 _ _ O5, h_1, h_2]) | (have h_2 := trivial)) <;>
  (first | ((first | (apply J2 <;> intro h_3) | (refine CallK.pure (q1a _ _ h.vs (fun _ _ => trivial)) (J1 ?_); have h_3 := trivial) | (refine CallK.pure (q2g _ _ h.cs h.c) (J1 ?_); have h_3 := trivial) | (refine CallK.pure (q1b _ _ h.es h.e) (J1 ?_); have h_3 := trivial)) <;> simp -implicitDefEqProofs -dsimp only [go_sem, seval, ↓J0 _ _ O4, ↓J0 _ _ Q0, ↓J0 _ _ O5, h_1, h_2, h_3]) | (have h_3 := trivial)) <;>
  (first | ((first | (apply J2 <;> intro h_4) | (refine CallK.pure (q1a _ _ h.vs (fun _ _ => trivial)) (J1 ?_); have h_4 := trivial) | (refine CallK.pure (q2g _ _ h.cs h.c) (J1 ?_); have h_4 := trivial) | (refine CallK.pure (q1b _ _ h.es h.e) (J1 ?_); have h_4 := trivial)) <;> simp -implicitDefEqProofs -dsimp only [go_sem, seval, ↓J0 _ _ O4, ↓J0 _ _ Q0, ↓J0 _ _ O5, h_1, h_2, h_3, h_4]) | (have h_4 := trivial)) <;>
  (first | ((first | (apply J2 <;> intro h_5) | (refine CallK.pure (q1a _ _ h.vs (fun _ _ => trivial)) (J1 ?_); have h_5 := trivial) | (refine CallK.pure (q2g _ _ h.cs h.c) (J1 ?_); have h_5 := trivial) | (refine CallK.pure (q1b _ _ h.es h.e) (J1 ?_); have h_5 := trivial)) <;> simp -implicitDefEqProofs -dsimp only [go_sem, seval, ↓J0 _ _ O4, ↓J0 _ _ Q0, ↓J0 _ _ O5, h_1, h_2, h_3, h_4, h_5]) | (have h_5 := trivial)) <;>
  (first | ((first | (apply J2 <;> intro h_6) | (refine CallK.pure (q1a _ _ h.vs (fun _ _ => trivial)) (J1 ?_); have h_6 := trivial) | (refine CallK.pure (q2g _ _ h.cs h.c) (J1 ?_); have h_6 := trivial) | (refine CallK.pure (q1b _ _ h.es h.e) (J1 ?_); have h_6 := trivial)) <;> simp -implicitDefEqProofs -dsimp only [go_sem, seval, ↓J0 _ _ O4, ↓J0 _ _ Q0, ↓J0 _ _ O5, h_1, h_2, h_3, h_4, h_5, h_6]) | (have h_6 := trivial)) <;>
  (first | ((first | (apply J2 <;> intro h_7) | (refine CallK.pure (q1a _ _ h.vs (fun _ _ => trivial)) (J1 ?_); have h_7 := trivial) | (refine CallK.pure (q2g _ _ h.cs h.c) (J1 ?_); have h_7 := trivial) | (refine CallK.pure (q1b _ _ h.es h.e) (J1 ?_); have h_7 := trivial)) <;> simp -implicitDefEqProofs -dsimp only [go_sem, seval, ↓J0 _ _ O4, ↓J0 _ _ Q0, ↓J0 _ _ O5, h_1, h_2, h_3, h_4, h_5, h_6, h_7]) | (have h_7 := trivial)) <;>
  (first | ((first | (apply J2 <;> intro h_8) | (refine CallK.pure (q1a _ _ h.vs (fun _ _ => trivial)) (J1 ?_); have h_8 := trivial) | (refine CallK.pure (q2g _ _ h.cs h.c) (J1 ?_); have h_8 := trivial) | (refine CallK.pure (q1b _ _ h.es h.e) (J1 ?_); have h_8 := trivial)) <;> simp -implicitDefEqProofs -dsimp only [go_sem, seval, ↓J0 _ _ O4, ↓J0 _ _ Q0, ↓J0 _ _ O5, h_1, h_2, h_3, h_4, h_5, h_6, h_7, h_8]) | (have h_8 := trivial))
 all_goals (refine J9 ?_; simp only [liF, qaw, qax, qay, *, if_true, Bool.false_eq_true, if_false, Bool.true_and, Bool.and_true, Bool.false_and, Bool.and_false])
def maF (l : Lt Cf) (s : Int) : Bool :=
 if decide (s = 115) = true then decide (0 <= l.sh) && decide (l.sh < 4) else if decide (s = 110) = true then qa1 l.n else if decide (s = 109) = true then qa1 l.m else if decide (s = 111) = true then decide (0 <= l.nd) && decide (l.nd < 8) else
 if decide (s = 98) = true then qh1 l.bn else if decide (s = 120) = true then qqt l.t else if decide (s = 105) = true then qhl l.cl l.sq else if decide (s = 116) = true then decide ((l.v.length : Int) <= 64) else
 if decide (s = 114) = true then decide (0 <= l.co) && decide (l.co <= 99) else liF l s
theorem zht (l : Lt Cf) (s : Int) (h : l.Small) (ht : l.t.Fine) : PCalls prog q5s [.agg l.cc, .i .u8 s] (.b (maF l s)) := by
 refine K7 U4 qm0 (by simp) fun T => ?_
 have hl := z9e l s h
 have hx := qmk l.t none none ht
 simp only [Tx.cells, Lt.cells] at hl hx
 unfold qdf
 simp -implicitDefEqProofs -dsimp only [go_sem, seval, Lt.cells]
 (first | ((first | (apply J2 <;> intro h_1) | (refine CallK.pure (q9f _) (J1 ?_); have h_1 := trivial) | (refine CallK.pure (Z0 _ _) (J1 ?_); have h_1 := trivial) | (refine CallK.pure (hx) (J1 ?_); have h_1 := trivial) | (refine CallK.pure (q2q _ _) (J1 ?_); have h_1 := trivial) | (refine CallK.pure (hl) (J1 ?_); have h_1 := trivial)) <;> simp -implicitDefEqProofs -dsimp only [go_sem, seval, ↓J0 _ _ q0s, ↓J0 _ _ N7, ↓J0 _ _ Z6, ↓J0 _ _ G7, ↓J0 _ _ V6, h_1]) | (have h_1 := trivial)) <;>
  (first | ((first | (apply J2 <;> intro h_2) | (refine CallK.pure (q9f _) (J1 ?_); have h_2 := trivial) | (refine CallK.pure (Z0 _ _) (J1 ?_); have h_2 := trivial) | (refine CallK.pure (hx) (J1 ?_); have h_2 := trivial) | (refine CallK.pure (q2q _ _) (J1 ?_); have h_2 := trivial) | (refine CallK.pure (hl) (J1 ?_); have h_2 := trivial)) <;> simp -implicitDefEqProofs -dsimp only [go_sem, seval, ↓J0 _ _ q0s, ↓J0 _ _ N7, ↓J0 _ _ Z6, ↓J0 _ _ G7, ↓J0 _ _ V6, h_1, h_2]) | (have h_2 := trivial)) <;>
  (first | ((first | (apply J2 <;> intro h_3) | (refine CallK.pure (q9f _) (J1 ?_); have h_3 := trivial) | (refine CallK.pure (Z0 _ _) (J1 ?_); have h_3 := trivial) | (refine CallK.pure (hx) (J1 ?_); have h_3 := trivial) | (refine CallK.pure (q2q _ _) (J1 ?_); have h_3 := trivial) | (refine CallK.pure (hl) (J1 ?_); have h_3 := trivial)) <;> simp -implicitDefEqProofs -dsimp only [go_sem, seval, ↓J0 _ _ q0s, ↓J0 _ _ N7, ↓J0 _ _ Z6, ↓J0 _ _ G7, ↓J0 _ _ V6, h_1, h_2, h_3]) | (have h_3 := trivial)) <;>
  (first | ((first | (apply J2 <;> intro h_4) | (refine CallK.pure (q9f _) (J1 ?_); have h_4 := trivial) | (refine CallK.pure (Z0 _ _) (J1 ?_); have h_4 := trivial) | (refine CallK.pure (hx) (J1 ?_); have h_4 := trivial) | (refine CallK.pure (q2q _ _) (J1 ?_); have h_4 := trivial) | (refine CallK.pure (hl) (J1 ?_); have h_4 := trivial)) <;> simp -implicitDefEqProofs -dsimp only [go_sem, seval, ↓J0 _ _ q0s, ↓J0 _ _ N7, ↓J0 _ _ Z6, ↓J0 _ _ G7, ↓J0 _ _ V6, h_1, h_2, h_3, h_4]) | (have h_4 := trivial)) <;>
  (first | ((first | (apply J2 <;> intro h_5) | (refine CallK.pure (q9f _) (J1 ?_); have h_5 := trivial) | (refine CallK.pure (Z0 _ _) (J1 ?_); have h_5 := trivial) | (refine CallK.pure (hx) (J1 ?_); have h_5 := trivial) | (refine CallK.pure (q2q _ _) (J1 ?_); have h_5 := trivial) | (refine CallK.pure (hl) (J1 ?_); have h_5 := trivial)) <;> simp -implicitDefEqProofs -dsimp only [go_sem, seval, ↓J0 _ _ q0s, ↓J0 _ _ N7, ↓J0 _ _ Z6, ↓J0 _ _ G7, ↓J0 _ _ V6, h_1, h_2, h_3, h_4, h_5]) | (have h_5 := trivial)) <;>
  (first | ((first | (apply J2 <;> intro h_6) | (refine CallK.pure (q9f _) (J1 ?_); have h_6 := trivial) | (refine CallK.pure (Z0 _ _) (J1 ?_); have h_6 := trivial) | (refine CallK.pure (hx) (J1 ?_); have h_6 := trivial) | (refine CallK.pure (q2q _ _) (J1 ?_); have h_6 := trivial) | (refine CallK.pure (hl) (J1 ?_); have h_6 := trivial)) <;> simp -implicitDefEqProofs -dsimp only [go_sem, seval, ↓J0 _ _ q0s, ↓J0 _ _ N7, ↓J0 _ _ Z6, ↓J0 _ _ G7, ↓J0 _ _ V6, h_1, h_2, h_3, h_4, h_5, h_6]) | (have h_6 := trivial)) <;>
  (first | ((first | (apply J2 <;> intro h_7) | (refine CallK.pure (q9f _) (J1 ?_); have h_7 := trivial) | (refine CallK.pure (Z0 _ _) (J1 ?_); have h_7 := trivial) | (refine CallK.pure (hx) (J1 ?_); have h_7 := trivial) | (refine CallK.pure (q2q _ _) (J1 ?_); have h_7 := trivial) | (refine CallK.pure (hl) (J1 ?_); have h_7 := trivial)) <;> simp -implicitDefEqProofs -dsimp only [go_sem, seval, ↓J0 _ _ q0s, ↓J0 _ _ N7, ↓J0 _ _ Z6, ↓J0 _ _ G7, ↓J0 _ _ V6, h_1, h_2, h_3, h_4, h_5, h_6, h_7]) | (have h_7 := trivial)) <;>
  (first | ((first | (apply J2 <;> intro h_8) | (refine CallK.pure (q9f _) (J1 ?_); have h_8 := trivial) | (refine CallK.pure (Z0 _ _) (J1 ?_); have h_8 := trivial) | (refine CallK.pure (hx) (J1 ?_); have h_8 := trivial) | (refine CallK.pure (q2q _ _) (J1 ?_); have h_8 := trivial) | (refine CallK.pure (hl) (J1 ?_); have h_8 := trivial)) <;> simp -implicitDefEqProofs -dsimp only [go_sem, seval, ↓J0 _ _ q0s, ↓J0 _ _ N7, ↓J0 _ _ Z6, ↓J0 _ _ G7, ↓J0 _ _ V6, h_1, h_2, h_3, h_4, h_5, h_6, h_7, h_8]) | (have h_8 := trivial)) <;>
  (first | ((first | (apply J2 <;> intro h_9) | (refine CallK.pure (q9f _) (J1 ?_); have h_9 := trivial) | (refine CallK.pure (Z0 _ _) (J1 ?_); have h_9 := trivial) | (refine CallK.pure (hx) (J1 ?_); have h_9 := trivial) | (refine CallK.pure (q2q _ _) (J1 ?_); have h_9 := trivial) | (refine CallK.pure (hl) (J1 ?_); have h_9 := trivial)) <;> simp -implicitDefEqProofs -dsimp only [go_sem, seval, ↓J0 _ _ q0s, ↓J0 _ _ N7, ↓J0 _ _ Z6, ↓J0 _ _ G7, ↓J0 _ _ V6, h_1, h_2, h_3, h_4, h_5, h_6, h_7, h_8, h_9]) | (have h_9 := trivial)) <;>
  (first | ((first | (apply J2 <;> intro h_10) | (refine CallK.pure (q9f _) (J1 ?_); have h_10 := trivial) | (refine CallK.pure (Z0 _ _) (J1 ?_); have h_10 := trivial) | (refine CallK.pure (hx) (J1 ?_); have h_10 := trivial) | (refine CallK.pure (q2q _ _) (J1 ?_); have h_10 := trivial) | (refine CallK.pure (hl) (J1 ?_); have h_10 := trivial)) <;> simp -implicitDefEqProofs -dsimp only [go_sem, seval, ↓J0 _ _ q0s, ↓J0 _ _ N7, ↓J0 _ _ Z6, ↓J0 _ _ G7, ↓J0 _ _ V6, h_1, h_2, h_3, h_4, h_5, h_6, h_7, h_8, h_9, h_10]) | (have h_10 := trivial)) <;>
  (first | ((first | (apply J2 <;> intro h_11) | (refine CallK.pure (q9f _) (J1 ?_); have h_11 := trivial) | (refine CallK.pure (Z0 _ _) (J1 ?_); have h_11 := trivial) | (refine CallK.pure (hx) (J1 ?_); have h_11 := trivial) | (refine CallK.pure (q2q _ _) (J1 ?_); have h_11 := trivial) | (refine CallK.pure (hl) (J1 ?_); have h_11 := trivial)) <;> simp -implicitDefEqProofs -dsimp only [go_sem, seval, ↓J0 _ _ q0s, ↓J0 _ _ N7, ↓J0 _ _ Z6, ↓J0 _ _ G7, ↓J0 _ _ V6, h_1, h_2, h_3, h_4, h_5, h_6, h_7, h_8, h_9, h_10, h_11]) | (have h_11 := trivial)) <;>
  (first | ((first | (apply J2 <;> intro h_12) | (refine CallK.pure (q9f _) (J1 ?_); have h_12 := trivial) | (refine CallK.pure (Z0 _ _) (J1 ?_); have h_12 := trivial) | (refine CallK.pure (hx) (J1 ?_); have h_12 := trivial) | (refine CallK.pure (q2q _ _) (J1 ?_); have h_12 := trivial) | (refine CallK.pure (hl) (J1 ?_); have h_12 := trivial)) <;> simp -implicitDefEqProofs -dsimp only [go_sem, seval, ↓J0 _ _ q0s, ↓J0 _ _ N7, ↓J0 _ _ Z6, ↓J0 _ _ G7, ↓J0 _ _ V6, h_1, h_2, h_3, h_4, h_5, h_6, h_7, h_8, h_9, h_10, h_11, h_12]) | (have h_12 := trivial))
 all_goals (refine J9 ?_; simp only [maF, *, if_true, Bool.false_eq_true, if_false, Bool.true_and, Bool.and_true, Bool.false_and, Bool.and_false])
end Go.Aw
