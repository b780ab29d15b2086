import Derived.Test.YtmicojcojlgefaaGreatZ29M17J
namespace Go.Aw
open Go
open Go.Proofs.Tryz (prog)
set_option linter.all false
set_option maxHeartbeats 8000000
set_option maxRecDepth 8000
def RfL (c : Rf) : Prop := Len c.l.length
def EnP (e : En) : Prop := e.t.Fine /\ 0 <= e.t.sq /\ 0 <= e.sq
theorem zae {R : Y5} (hR : ExtR R) {T : Tab} {lc : List AV} {xs : List Vt} (hl : Len xs.length) (hx : ∀ x ∈ xs, VtT x) : ∀ (us : List Vt) (k : Nat), xs.drop k = us -> k <= xs.length ->
  (us.all qyt = false -> R .ret [(2, .b false)] [] T) ->
  (us.all qyt = true -> R (.exit 0) [(1, .lp 1 0), (60, .fz xs.length (xs.flatMap vtC) none), (61, .i .i64 xs.length), (62, .i .i64 xs.length), (63, .b false)] [(1, lc)] T) ->
  AW prog q7d R [(1, .lp 1 0), (60, .fz xs.length (xs.flatMap vtC) none), (61, .i .i64 xs.length), (62, .i .i64 k)] [(1, lc)] T := by
 intro us
 induction us with
 | nil =>
  intro k hk hle h1 h2
  have hk' := O9 hk hle
  refine Q2 hR ?_
  unfold q68
  simp -implicitDefEqProofs -dsimp only [go_sem, seval, hk', Int.lt_irrefl]
  rw [hk'] at h2
  exact h2 rfl
 | cons y us ih =>
  intro k hk hle h1 h2
  obtain ⟨hlt, hy, hk'⟩ := Q5 hk
  have cl : ∀ c : Vt, (vtC c).length = 4 := fun _ => rfl
  have ea := V0 cl hy
  have e5 : k * 4 + 4 <= (xs.flatMap vtC).length := by rw [K8 cl]; omega
  unfold Len at hl
  have hs : IntKind.i64.wrap ((k : Int) + 1) = ((k + 1 : Nat) : Int) := K9 (by omega)
  have hok := hx y (List.mem_of_getElem? hy)
  simp only [List.all_cons] at h1 h2
  refine O2 (l := q7d) rfl hR ?_
  unfold q68
  simp -implicitDefEqProofs -dsimp only [go_sem, seval, Int.ofNat_lt, hlt, Int.natCast_nonneg, Int.toNat_natCast, ea, e5, vtC, List.cons_append, List.nil_append]
  (first | ((first | (apply J2 <;> intro h_1) | (refine CallK.pure (q16 _ _) (J1 ?_); have h_1 := trivial)) <;> simp -implicitDefEqProofs -dsimp only [go_sem, seval, ↓J0 _ _ O3, h_1]) | (have h_1 := trivial)) <;>
  (first | ((first | (apply J2 <;> intro h_2) | (refine CallK.pure (q16 _ _) (J1 ?_); have h_2 := trivial)) <;> simp -implicitDefEqProofs -dsimp only [go_sem, seval, ↓J0 _ _ O3, h_1, h_2]) | (have h_2 := trivial)) <;>
  (first | ((first | (apply J2 <;> intro h_3) | (refine CallK.pure (q16 _ _) (J1 ?_); have h_3 := trivial)) <;> simp -implicitDefEqProofs -dsimp only [go_sem, seval, ↓J0 _ _ O3, h_1, h_2, h_3]) | (have h_3 := trivial)) <;>
  (first | ((first | (apply J2 <;> intro h_4) | (refine CallK.pure (q16 _ _) (J1 ?_); have h_4 := trivial)) <;> simp -implicitDefEqProofs -dsimp only [go_sem, seval, ↓J0 _ _ O3, h_1, h_2, h_3, h_4]) | (have h_4 := trivial)) <;>
  (first | ((first | (apply J2 <;> intro h_5) | (refine CallK.pure (q16 _ _) (J1 ?_); have h_5 := trivial)) <;> simp -implicitDefEqProofs -dsimp only [go_sem, seval, ↓J0 _ _ O3, h_1, h_2, h_3, h_4, h_5]) | (have h_5 := trivial))
  any_goals (refine h1 ?_; (try simp only [Bool.not_eq_true', Bool.not_eq_false'] at *); have e : qyt y = false := (by simp_all [qyt, qe0, qv1] <;> omega); rw [e]; rfl)
  (try simp only [Bool.not_eq_true', Bool.not_eq_false'] at *)
  have e : qyt y = true := by simp_all [qyt, qe0, qv1]
  rw [e, Bool.true_and] at h1 h2
  rw [hs]
  exact ih (k + 1) hk' hlt h1 h2
theorem zaf {R : Y5} (hR : ExtR R) {T : Tab} {lc : List AV} {xs : List Rf} (hl : Len xs.length) (hx : ∀ x ∈ xs, RfL x) : ∀ (us : List Rf) (k : Nat), xs.drop k = us -> k <= xs.length ->
  (us.all Rf.right = false -> R .ret [(2, .b false)] [] T) ->
  (us.all Rf.right = true -> R (.exit 2) [(1, .lp 1 0), (88, .fz xs.length (xs.flatMap rfL) none), (89, .i .i64 xs.length), (90, .i .i64 xs.length), (91, .b false)] [(1, lc)] T) ->
  AW prog q7e R [(1, .lp 1 0), (88, .fz xs.length (xs.flatMap rfL) none), (89, .i .i64 xs.length), (90, .i .i64 k)] [(1, lc)] T := by
 intro us
 induction us with
 | nil =>
  intro k hk hle h1 h2
  have hk' := O9 hk hle
  refine Q2 hR ?_
  unfold q69
  simp -implicitDefEqProofs -dsimp only [go_sem, seval, hk', Int.lt_irrefl]
  rw [hk'] at h2
  exact h2 rfl
 | cons y us ih =>
  intro k hk hle h1 h2
  obtain ⟨hlt, hy, hk'⟩ := Q5 hk
  have cl : ∀ c : Rf, (rfL c).length = 4 := fun _ => rfl
  have ea := V0 cl hy
  have e5 : k * 4 + 4 <= (xs.flatMap rfL).length := by rw [K8 cl]; omega
  unfold Len at hl
  have hs : IntKind.i64.wrap ((k : Int) + 1) = ((k + 1 : Nat) : Int) := K9 (by omega)
  have hok := hx y (List.mem_of_getElem? hy)
  simp only [List.all_cons] at h1 h2
  refine O2 (l := q7e) rfl hR ?_
  unfold q69
  have pc := qu6 y none hok
  simp only [rfL, Rf.cells] at pc
  simp -implicitDefEqProofs -dsimp only [go_sem, seval, Int.ofNat_lt, hlt, Int.natCast_nonneg, Int.toNat_natCast, ea, e5, rfL, Rf.cells, List.cons_append, List.nil_append, ↓J0 _ _ qbv]
  refine cpn pc ?_
  rcases he : Rf.right y with _ | _
  ·simp -implicitDefEqProofs -dsimp only [go_sem, seval]
   exact h1 (by rw [he]; rfl)
  ·rw [he, Bool.true_and] at h1 h2
   simp -implicitDefEqProofs -dsimp only [go_sem, seval, hs]
   exact ih (k + 1) hk' hlt h1 h2
theorem zag {R : Y5} (hR : ExtR R) {T : Tab} {lc : List AV} {xs : List En} (hl : Len xs.length) (hx : ∀ x ∈ xs, EnP x) : ∀ (us : List En) (k : Nat), xs.drop k = us -> k <= xs.length ->
  (us.all qoz = false -> R .ret [(2, .b false)] [] T) ->
  (us.all qoz = true -> R (.exit 4) [(99, .fz xs.length (xs.flatMap enC) none), (100, .i .i64 xs.length), (101, .i .i64 xs.length), (102, .b false)] [] T) ->
  AW prog q7f R [(99, .fz xs.length (xs.flatMap enC) none), (100, .i .i64 xs.length), (101, .i .i64 k)] [] T := by
 intro us
 induction us with
 | nil =>
  intro k hk hle h1 h2
  have hk' := O9 hk hle
  refine Q2 hR ?_
  unfold q6a
  simp -implicitDefEqProofs -dsimp only [go_sem, seval, hk', Int.lt_irrefl]
  rw [hk'] at h2
  exact h2 rfl
 | cons y us ih =>
  intro k hk hle h1 h2
  obtain ⟨hlt, hy, hk'⟩ := Q5 hk
  have cl : ∀ c : En, (enC c).length = 10 := fun _ => rfl
  have ea := V0 cl hy
  have e5 : k * 10 + 10 <= (xs.flatMap enC).length := by rw [K8 cl]; omega
  unfold Len at hl
  have hs : IntKind.i64.wrap ((k : Int) + 1) = ((k + 1 : Nat) : Int) := K9 (by omega)
  have hok := hx y (List.mem_of_getElem? hy)
  simp only [List.all_cons] at h1 h2
  refine O2 (l := q7f) rfl hR ?_
  unfold q6a
  have pc := qw8 y none none hok.1 hok.2.1 hok.2.2
  simp only [enC, En.cells] at pc
  simp -implicitDefEqProofs -dsimp only [go_sem, seval, Int.ofNat_lt, hlt, Int.natCast_nonneg, Int.toNat_natCast, ea, e5, enC, En.cells, List.cons_append, List.nil_append, ↓J0 _ _ qk0]
  refine cpn pc ?_
  rcases he : qoz y with _ | _
  ·simp -implicitDefEqProofs -dsimp only [go_sem, seval]
   exact h1 (by rw [he]; rfl)
  ·rw [he, Bool.true_and] at h1 h2
   simp -implicitDefEqProofs -dsimp only [go_sem, seval, hs]
   exact ih (k + 1) hk' hlt h1 h2
structure Lt.Ref (l : Lt Rf) : Prop where
 vs : Len l.vs.length
 cs : Len l.cs.length
 es : Len l.es.length
 c : ∀ c ∈ l.cs, RfL c
 e : ∀ e ∈ l.es, EnP e
 t : l.t.Fine
 tq : 0 <= l.t.sq
 sq : 0 <= l.sq
def qp7 (l : Lt Rf) : Bool :=
 !(decide (0 < (l.vs.length : Int)) && !qai l.k [118, 111, 116, 101, 115] || decide (0 < (l.cs.length : Int)) && !qai l.k [99, 111, 110, 102, 115] || decide (0 < (l.es.length : Int)) && !qai l.k [101, 110, 116, 114, 105, 101, 115]) &&
 !(decide (400 < (l.vs.length : Int)) || decide (4 < (l.cs.length : Int)) || decide (8 < (l.es.length : Int))) && l.vs.all qyt && l.cs.all Rf.right && l.es.all qoz
def rl1 (l : Lt Rf) : Bool := decide (0 < (l.vs.length : Int)) && !qai l.k [118, 111, 116, 101, 115] || decide (0 < (l.cs.length : Int)) && !qai l.k [99, 111, 110, 102, 115] || decide (0 < (l.es.length : Int)) && !qai l.k [101, 110, 116, 114, 105, 101, 115]
def rl2 (l : Lt Rf) : Bool := decide (400 < (l.vs.length : Int)) || decide (4 < (l.cs.length : Int)) || decide (8 < (l.es.length : Int))
theorem zah (l : Lt Rf) : qp7 l = (!rl1 l && !rl2 l && l.vs.all qyt && l.cs.all Rf.right && l.es.all qoz) := rfl
theorem z1b (l : Lt Rf) (h : l.Ref) : PCalls prog q49 [.agg (l.cells rfL)] (.b (qp7 l)) := by
 refine K5 Q7 qjh (by simp) fun T => ?_
 rw [zah]
 unfold qbt
 refine q88 True [(1, .lp 1 0)] [(1, l.cells rfL)] T (fun K hK => by simp -implicitDefEqProofs -dsimp only [go_sem, seval]; exact hK trivial) fun _ => ?_
 refine q88 True [(1, .lp 1 0), (3, .i .i64 l.k)] [(1, l.cells rfL)] T (fun K hK => by simp -implicitDefEqProofs -dsimp only [go_sem, seval]; exact hK trivial) fun _ => ?_
 refine q88 (rl1 l = false) [(1, .lp 1 0), (42, .b false)] [(1, l.cells rfL)] T (fun K hK => ?_) fun c1 => ?_
 ·simp -implicitDefEqProofs -dsimp only [go_sem, seval]
  (first | ((first | (apply J2 <;> intro h_1) | (refine CallK.pure (V9 _ _) (J1 ?_); have h_1 := trivial)) <;> simp -implicitDefEqProofs -dsimp only [go_sem, seval, ↓J0 _ _ J8, h_1]) | (have h_1 := trivial)) <;>
  (first | ((first | (apply J2 <;> intro h_2) | (refine CallK.pure (V9 _ _) (J1 ?_); have h_2 := trivial)) <;> simp -implicitDefEqProofs -dsimp only [go_sem, seval, ↓J0 _ _ J8, h_1, h_2]) | (have h_2 := trivial)) <;>
  (first | ((first | (apply J2 <;> intro h_3) | (refine CallK.pure (V9 _ _) (J1 ?_); have h_3 := trivial)) <;> simp -implicitDefEqProofs -dsimp only [go_sem, seval, ↓J0 _ _ J8, h_1, h_2, h_3]) | (have h_3 := trivial)) <;>
  (first | ((first | (apply J2 <;> intro h_4) | (refine CallK.pure (V9 _ _) (J1 ?_); have h_4 := trivial)) <;> simp -implicitDefEqProofs -dsimp only [go_sem, seval, ↓J0 _ _ J8, h_1, h_2, h_3, h_4]) | (have h_4 := trivial)) <;>
  (first | ((first | (apply J2 <;> intro h_5) | (refine CallK.pure (V9 _ _) (J1 ?_); have h_5 := trivial)) <;> simp -implicitDefEqProofs -dsimp only [go_sem, seval, ↓J0 _ _ J8, h_1, h_2, h_3, h_4, h_5]) | (have h_5 := trivial)) <;>
  (first | ((first | (apply J2 <;> intro h_6) | (refine CallK.pure (V9 _ _) (J1 ?_); have h_6 := trivial)) <;> simp -implicitDefEqProofs -dsimp only [go_sem, seval, ↓J0 _ _ J8, h_1, h_2, h_3, h_4, h_5, h_6]) | (have h_6 := trivial)) <;>
  (first | ((first | (apply J2 <;> intro h_7) | (refine CallK.pure (V9 _ _) (J1 ?_); have h_7 := trivial)) <;> simp -implicitDefEqProofs -dsimp only [go_sem, seval, ↓J0 _ _ J8, h_1, h_2, h_3, h_4, h_5, h_6, h_7]) | (have h_7 := trivial)) <;>
  (first | ((first | (apply J2 <;> intro h_8) | (refine CallK.pure (V9 _ _) (J1 ?_); have h_8 := trivial)) <;> simp -implicitDefEqProofs -dsimp only [go_sem, seval, ↓J0 _ _ J8, h_1, h_2, h_3, h_4, h_5, h_6, h_7, h_8]) | (have h_8 := trivial)) <;>
  (first | ((first | (apply J2 <;> intro h_9) | (refine CallK.pure (V9 _ _) (J1 ?_); have h_9 := trivial)) <;> simp -implicitDefEqProofs -dsimp only [go_sem, seval, ↓J0 _ _ J8, h_1, h_2, h_3, h_4, h_5, h_6, h_7, h_8, h_9]) | (have h_9 := trivial))
  all_goals first
   | (refine hK ?_; (try simp only [Bool.not_eq_true', Bool.not_eq_false'] at *); simp only [rl1, *, Bool.true_and, Bool.and_true, Bool.false_and, Bool.and_false, Bool.true_or, Bool.or_true, Bool.false_or, Bool.or_false, Bool.not_true, Bool.not_false]; done)
   | (refine K1 ?_; (try simp only [Bool.not_eq_true', Bool.not_eq_false'] at *); simp only [rl1, *, Bool.true_and, Bool.and_true, Bool.false_and, Bool.and_false, Bool.true_or, Bool.or_true, Bool.false_or, Bool.or_false, Bool.not_true, Bool.not_false]; done)
 refine q88 (rl2 l = false) [(1, .lp 1 0), (58, .b false)] [(1, l.cells rfL)] T (fun K hK => ?_) fun c2 => ?_
 ·simp -implicitDefEqProofs -dsimp only [go_sem, seval]
  (first | ((first | (apply J2 <;> intro h_1)) <;> simp -implicitDefEqProofs -dsimp only [go_sem, seval, h_1]) | (have h_1 := trivial)) <;>
  (first | ((first | (apply J2 <;> intro h_2)) <;> simp -implicitDefEqProofs -dsimp only [go_sem, seval, h_1, h_2]) | (have h_2 := trivial)) <;>
  (first | ((first | (apply J2 <;> intro h_3)) <;> simp -implicitDefEqProofs -dsimp only [go_sem, seval, h_1, h_2, h_3]) | (have h_3 := trivial)) <;>
  (first | ((first | (apply J2 <;> intro h_4)) <;> simp -implicitDefEqProofs -dsimp only [go_sem, seval, h_1, h_2, h_3, h_4]) | (have h_4 := trivial))
  all_goals first
   | (refine hK ?_; (try simp only [Bool.not_eq_true', Bool.not_eq_false'] at *); simp only [rl2, *, Bool.true_and, Bool.and_true, Bool.false_and, Bool.and_false, Bool.true_or, Bool.or_true, Bool.false_or, Bool.or_false, Bool.not_true, Bool.not_false]; done)
   | (refine K1 ?_; (try simp only [Bool.not_eq_true', Bool.not_eq_false'] at *); simp only [rl2, *, Bool.true_and, Bool.and_true, Bool.false_and, Bool.and_false, Bool.true_or, Bool.or_true, Bool.false_or, Bool.or_false, Bool.not_true, Bool.not_false]; done)
 simp -implicitDefEqProofs -dsimp only [go_sem, seval]
 refine zae (by repeat' (first | exact N5 _ _ | assumption | apply N4 | apply K7 | apply U1)) h.vs (fun _ _ => trivial) l.vs 0 rfl (Nat.zero_le _) (fun h1 => ?_) (fun h1 => ?_)
 ·simp -implicitDefEqProofs -dsimp only [go_sem, seval]
  refine K1 ?_
  simp only [c1, c2, h1, Bool.true_and, Bool.and_true, Bool.false_and, Bool.and_false, Bool.true_or, Bool.or_true, Bool.false_or, Bool.or_false, Bool.not_true, Bool.not_false]
 simp -implicitDefEqProofs -dsimp only [go_sem, seval]
 refine zaf (by repeat' (first | exact N5 _ _ | assumption | apply N4 | apply K7 | apply U1)) h.cs h.c l.cs 0 rfl (Nat.zero_le _) (fun h2 => ?_) (fun h2 => ?_)
 ·simp -implicitDefEqProofs -dsimp only [go_sem, seval]
  refine K1 ?_
  simp only [c1, c2, h1, h2, Bool.true_and, Bool.and_true, Bool.false_and, Bool.and_false, Bool.true_or, Bool.or_true, Bool.false_or, Bool.or_false, Bool.not_true, Bool.not_false]
 simp -implicitDefEqProofs -dsimp only [go_sem, seval]
 refine zag (lc := []) (by repeat' (first | exact N5 _ _ | assumption | apply N4 | apply K7 | apply U1)) h.es h.e l.es 0 rfl (Nat.zero_le _) (fun h3 => ?_) (fun h3 => ?_) <;> simp -implicitDefEqProofs -dsimp only [go_sem, seval] <;> (refine K1 ?_; simp only [c1, c2, h1, h2, h3, Bool.true_and, Bool.and_true, Bool.false_and, Bool.and_false, Bool.true_or, Bool.or_true, Bool.false_or, Bool.or_false, Bool.not_true, Bool.not_false])
end Go.Aw
