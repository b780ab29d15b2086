import Derived.Test.YtmicojcojlgefaaGreatZ29S12N
namespace Go.Aw
open Go
open Go.Proofs.Tryz (prog)
set_option linter.all false
set_option maxHeartbeats 4000000
abbrev Bs := List UInt8
structure Rd where
 k : Bs
 n : Int
structure Wt where
 k : Bs
 v : Bs
 g : Bool
structure Tx where
 cl : Int
 sq : Int
 pl : Bool
 rs : List Rd
 ws : List Wt
def rdC (r : Rd) : List AV := [.s r.k, .i .u64 r.n]
def wtC (w : Wt) : List AV := [.s w.k, .s w.v, .b w.g]
theorem q7n (r : Rd) : (rdC r).length = 2 := rfl
theorem q5n (r : Wt) : (wtC r).length = 3 := rfl
def Tx.cells (t : Tx) (k1 k2 : Option Nat) : List AV := [.i .i64 t.cl, .i .u64 t.sq, .b t.pl, .fz t.rs.length (t.rs.flatMap rdC) k1, .fz t.ws.length (t.ws.flatMap wtC) k2]
def qez (l : List Bs) : List AV := l.map .s
theorem qw0 (l : List Bs) : (qez l).length = l.length := by simp [qez]
theorem qw1 (l : List Bs) (k : Nat) : ((qez l).drop k)[0]? = (l[k]?).map .s := by simp [qez]
theorem qlm (l m : List Bs) : qez l ++ qez m = qez (l ++ m) := by simp [qez]
def qp6 (c s : Int) : Bool := decide (0 <= c) && decide (c < 6) && decide (0 < s)
theorem q2f (c s : Int) : PCalls prog q4k [.agg [.i .i64 c, .i .u64 s]] (.b (qp6 c s)) := by
 refine K5 Q7 qq6 (by simp) fun T => ?_
 unfold qht
 simp -implicitDefEqProofs -dsimp only [go_sem, seval, decide_true, decide_false]
 (first | (apply J2 <;> intro h_1 <;> simp -implicitDefEqProofs -dsimp only [go_sem, seval, decide_true, decide_false, h_1]) | (have h_1 := trivial)) <;>
  (first | (apply J2 <;> intro h_2 <;> simp -implicitDefEqProofs -dsimp only [go_sem, seval, decide_true, decide_false, h_1, h_2]) | (have h_2 := trivial)) <;>
  (first | (apply J2 <;> intro h_3 <;> simp -implicitDefEqProofs -dsimp only [go_sem, seval, decide_true, decide_false, h_1, h_2, h_3]) | (have h_3 := trivial)) <;>
  (first | (apply J2 <;> intro h_4 <;> simp -implicitDefEqProofs -dsimp only [go_sem, seval, decide_true, decide_false, h_1, h_2, h_3, h_4]) | (have h_4 := trivial))
 all_goals
  refine K1 ?_
  simp only [qp6, *, Bool.not_true, Bool.not_false, Bool.true_and, Bool.false_and, Bool.and_false, Bool.and_true]
theorem qw2 {R : Y5} (hR : ExtR R) {T : Tab} {xs : List Rd} {cap : Option Nat} (hl : xs.length < 1000000000) : ∀ (ys : List Rd) (k : Nat), xs.drop k = ys -> k <= xs.length -> ∀ (v : AV) (T1 : Tab),
  Own T 1 v k (qez ((xs.take k).map (·.k))) T1 ->
  (∀ v T1, Own T 1 v xs.length (qez (xs.map (·.k))) T1 -> R (.exit 0) [(3, v), (7, .fz xs.length (xs.flatMap rdC) cap), (8, .i .i64 xs.length), (9, .i .i64 xs.length), (10, .b false)] [] T1) ->
  AW prog q7g R [(3, v), (7, .fz xs.length (xs.flatMap rdC) cap), (8, .i .i64 xs.length), (9, .i .i64 k)] [] T1 := by
 intro ys
 induction ys with
 | nil =>
  intro k hk hle v T1 ho h2
  have hk' := O9 hk hle
  refine Q2 hR ?_
  unfold q6c
  obtain ⟨p1, p2, p3, p4, p5, p6⟩ := ho.form
  simp -implicitDefEqProofs -dsimp only [go_sem, seval, hk', Int.lt_irrefl, p1, p2, p3, p4, p5, p6]
  rw [hk'] at h2
  rw [List.take_of_length_le (by omega)] at ho
  exact h2 _ _ ho
 | cons y ys ih =>
  intro k hk hle v T1 ho h2
  obtain ⟨hlt, hy, hk'⟩ := Q5 hk
  obtain ⟨p1, p2, p3, p4, p5, p6⟩ := ho.form
  have hc := V0 q7n hy
  have hc5 : k * 2 + 2 <= (xs.flatMap rdC).length := by rw [K8 q7n]; omega
  refine O2 (l := q7g) rfl hR ?_
  unfold q6c
  simp -implicitDefEqProofs -dsimp only [go_sem, seval, Int.ofNat_lt, hlt, Int.natCast_nonneg, Int.toNat_natCast, hc, hc5, rdC, List.cons_append, List.nil_append, p1, p2, p3, p4, p5, p6]
  refine ho.app (m := 1) (news := [.s y.k]) rfl rfl (by omega) (by omega) fun v2 T2 ho => J1 ?_
  obtain ⟨p1, p2, p3, p4, p5, p6⟩ := ho.form
  simp -implicitDefEqProofs -dsimp only [go_sem, seval, p1, p2, p3, p4, p5, p6]
  rw [K9 (by omega)]
  refine ih (k + 1) hk' hlt _ _ ?_ h2
  rw [Z9 hy, List.map_append, <- qlm]
  exact ho
theorem qqe (t : Tx) (k1 k2 : Option Nat) (hl : t.rs.length < 1000000000) : PCalls prog q2o [.agg (t.cells k1 k2)] (.fz t.rs.length (qez (t.rs.map (·.k))) none) := by
 refine K5 Q7 qjl (by simp) fun T => ?_
 unfold qbw
 simp -implicitDefEqProofs -dsimp only [go_sem, seval, Tx.cells]
 refine qw2 (T := T) (by repeat' (first | exact N5 _ _ | assumption | apply N4 | apply K7 | apply U1)) hl t.rs 0 rfl (by omega) _ _ (.nil ..) (fun v T1 ho => ?_)
 obtain ⟨p1, p2, p3, p4, p5, p6⟩ := ho.form
 simp -implicitDefEqProofs -dsimp only [go_sem, seval, p1, p2, p3, p4, p5, p6]
 exact ho.fzn
theorem que {R : Y5} (hR : ExtR R) {T : Tab} {xs : List Wt} {cap : Option Nat} (hl : xs.length < 1000000000) : ∀ (ys : List Wt) (k : Nat), xs.drop k = ys -> k <= xs.length -> ∀ (v : AV) (T1 : Tab),
  Own T 1 v k (qez ((xs.take k).map (·.k))) T1 ->
  (∀ v T1, Own T 1 v xs.length (qez (xs.map (·.k))) T1 -> R (.exit 0) [(3, v), (7, .fz xs.length (xs.flatMap wtC) cap), (8, .i .i64 xs.length), (9, .i .i64 xs.length), (10, .b false)] [] T1) ->
  AW prog q6d R [(3, v), (7, .fz xs.length (xs.flatMap wtC) cap), (8, .i .i64 xs.length), (9, .i .i64 k)] [] T1 := by
 intro ys
 induction ys with
 | nil =>
  intro k hk hle v T1 ho h2
  have hk' := O9 hk hle
  refine Q2 hR ?_
  unfold q5h
  obtain ⟨p1, p2, p3, p4, p5, p6⟩ := ho.form
  simp -implicitDefEqProofs -dsimp only [go_sem, seval, hk', Int.lt_irrefl, p1, p2, p3, p4, p5, p6]
  rw [hk'] at h2
  rw [List.take_of_length_le (by omega)] at ho
  exact h2 _ _ ho
 | cons y ys ih =>
  intro k hk hle v T1 ho h2
  obtain ⟨hlt, hy, hk'⟩ := Q5 hk
  obtain ⟨p1, p2, p3, p4, p5, p6⟩ := ho.form
  have hc := V0 q5n hy
  have hc5 : k * 3 + 3 <= (xs.flatMap wtC).length := by rw [K8 q5n]; omega
  refine O2 (l := q6d) rfl hR ?_
  unfold q5h
  simp -implicitDefEqProofs -dsimp only [go_sem, seval, Int.ofNat_lt, hlt, Int.natCast_nonneg, Int.toNat_natCast, hc, hc5, wtC, List.cons_append, List.nil_append, p1, p2, p3, p4, p5, p6]
  refine ho.app (m := 1) (news := [.s y.k]) rfl rfl (by omega) (by omega) fun v2 T2 ho => J1 ?_
  obtain ⟨p1, p2, p3, p4, p5, p6⟩ := ho.form
  simp -implicitDefEqProofs -dsimp only [go_sem, seval, p1, p2, p3, p4, p5, p6]
  rw [K9 (by omega)]
  refine ih (k + 1) hk' hlt _ _ ?_ h2
  rw [Z9 hy, List.map_append, <- qlm]
  exact ho
theorem qoe (t : Tx) (k1 k2 : Option Nat) (hl : t.ws.length < 1000000000) : PCalls prog q22 [.agg (t.cells k1 k2)] (.fz t.ws.length (qez (t.ws.map (·.k))) none) := by
 refine K5 Q7 qhv (by simp) fun T => ?_
 unfold qaz
 simp -implicitDefEqProofs -dsimp only [go_sem, seval, Tx.cells]
 refine que (T := T) (by repeat' (first | exact N5 _ _ | assumption | apply N4 | apply K7 | apply U1)) hl t.ws 0 rfl (by omega) _ _ (.nil ..) (fun v T1 ho => ?_)
 obtain ⟨p1, p2, p3, p4, p5, p6⟩ := ho.form
 simp -implicitDefEqProofs -dsimp only [go_sem, seval, p1, p2, p3, p4, p5, p6]
 exact ho.fzn
def wOk (w : Wt) : Bool := qvz w.v && !(w.g && !decide (w.v = []))
theorem z0l {R : Y5} (hR : ExtR R) {T : Tab} {xs : List Wt} {cap : Option Nat} (hl : xs.length < 1000000000) (hs : ∀ w ∈ xs, Len w.v.length) : ∀ (ys : List Wt) (k : Nat), xs.drop k = ys -> k <= xs.length ->
  (ys.all wOk = false -> R .ret [(2, .b false)] [] T) ->
  (ys.all wOk = true -> R (.exit 0) [(6, .fz xs.length (xs.flatMap wtC) cap), (7, .i .i64 xs.length), (8, .i .i64 xs.length), (9, .b false)] [] T) ->
  AW prog q5i R [(6, .fz xs.length (xs.flatMap wtC) cap), (7, .i .i64 xs.length), (8, .i .i64 k)] [] T := by
 intro ys
 induction ys with
 | nil =>
  intro k hk hle h1 h2
  have hk' := O9 hk hle
  refine Q2 hR ?_
  unfold q8m
  simp -implicitDefEqProofs -dsimp only [go_sem, seval, hk', Int.lt_irrefl]
  rw [hk'] at h2
  exact h2 rfl
 | cons y ys ih =>
  intro k hk hle h1 h2
  obtain ⟨hlt, hy, hk'⟩ := Q5 hk
  have hc := V0 q5n hy
  have hc5 : k * 3 + 3 <= (xs.flatMap wtC).length := by rw [K8 q5n]; omega
  have hyl : Len y.v.length := hs y (List.mem_of_getElem? hy)
  have hgo : wOk y = true -> AW prog q5i R [(6, .fz xs.length (xs.flatMap wtC) cap), (7, .i .i64 xs.length), (8, .i .i64 ((k + 1 : Nat) : Int))] [] T := fun h =>
   ih (k + 1) hk' hlt (fun h' => h1 (by simp [h, h'])) (fun h' => h2 (by simp [h, h']))
  have hno : wOk y = false -> R .ret [(2, .b false)] [] T := fun h => h1 (by simp [h])
  have hws : IntKind.i64.wrap ((k : Int) + 1) = ((k + 1 : Nat) : Int) := K9 (by omega)
  refine O2 (l := q5i) rfl hR ?_
  unfold q8m
  simp -implicitDefEqProofs -dsimp only [go_sem, seval, Int.ofNat_lt, hlt, Int.natCast_nonneg, Int.toNat_natCast, hc, hc5, wtC, List.cons_append, List.nil_append, ↓J0 _ _ qqb]
  refine cpn (qud y.v hyl) ?_
  simp -implicitDefEqProofs -dsimp only [go_sem, seval]
  refine J2 (fun h => ?_) (fun h => ?_)
  ·have hv : qvz y.v = false := by simpa using h
   simp -implicitDefEqProofs -dsimp only [go_sem, seval, h]
   exact hno (by rw [wOk, hv, Bool.false_and])
  have hv : qvz y.v = true := by simpa using h
  simp -implicitDefEqProofs -dsimp only [go_sem, seval, h]
  refine J2 (fun hg => ?_) (fun hg => ?_)
  ·simp -implicitDefEqProofs -dsimp only [go_sem, seval, h, hg]
   refine J2 (fun he => ?_) (fun he => ?_)
   ·simp -implicitDefEqProofs -dsimp only [go_sem, seval, h, he]
    have he : decide (y.v = []) = false := by simpa using he
    exact hno (by rw [wOk, hv, hg, he]; rfl)
   ·simp -implicitDefEqProofs -dsimp only [go_sem, seval, h, he, hws]
    have he : decide (y.v = []) = true := by simpa using he
    exact hgo (by rw [wOk, hv, hg, he]; rfl)
  ·simp -implicitDefEqProofs -dsimp only [go_sem, seval, h, hg, hws]
   exact hgo (by rw [wOk, hv, hg]; rfl)
theorem z0m (t : Tx) (k1 k2 : Option Nat) (hl : t.ws.length < 1000000000) (hs : ∀ w ∈ t.ws, Len w.v.length) : PCalls prog q6n [.agg (t.cells k1 k2)] (.b (t.ws.all wOk)) := by
 refine K5 Q7 qmp (by simp) fun T => ?_
 unfold qef
 simp -implicitDefEqProofs -dsimp only [go_sem, seval, Tx.cells]
 refine z0l (by repeat' (first | exact N5 _ _ | assumption | apply N4 | apply K7 | apply U1)) hl hs t.ws 0 rfl (by omega) (fun h => ?_) (fun h => ?_) <;> simp -implicitDefEqProofs -dsimp only [go_sem, seval] <;> exact K1 (by rw [h])
def qrb (l : List Bs) : List (AV × AV) := l.map fun k => (.s k, .i .i64 1)
theorem quf (k : Bs) : ∀ l : List Bs, qqq .s (.s k) (qrb l) = some (if k ∈ l then some (.i .i64 1) else none)
 | [] => rfl
 | a :: l => by
  have ih := quf k l
  simp only [qrb, List.map_cons, qqq, q2g, if_true, qph] at ih ⊢
  by_cases h : k = a
  ·simp [h]
  ·simp only [decide_eq_true_eq, h, if_false, ih, List.mem_cons, false_or]
theorem qug (k : Bs) : ∀ l : List Bs, k ∉ l -> qs4 (.s k) (.i .i64 1) (qrb l) = qrb (l ++ [k])
 | [], _ => rfl
 | a :: l, h => by
  simp only [List.mem_cons, not_or] at h
  have ih := qug k l h.2
  simp only [qrb, List.map_cons, qs4, qph, List.cons_append] at ih ⊢
  simp only [decide_eq_true_eq, h.1, if_false, ih]
theorem qqf {v : AV} (k : Bs) : ∀ l : List Bs, qqq .s (.s k) (qs4 (.s k) v (qrb l)) = some (some v)
 | [] => by simp [qrb, qs4, qqq, q2g, qph]
 | a :: l => by
  have ih := qqf (v := v) k l
  simp only [qrb, List.map_cons, qs4, qph] at ih ⊢
  by_cases h : k = a
  ·simp [h, qqq, q2g, qph]
  ·simp only [decide_eq_true_eq, h, if_false, qqq, q2g, if_true, qph, ih]
def qf0 : List Bs -> List Bs -> Bool
 | _, [] => true
 | pre, k :: ks => qdh k && !decide (k ∈ pre) && qf0 (pre ++ [k]) ks
theorem z61 {R : Y5} (hR : ExtR R) {id : Nat} {xs : List Bs} {cap : Option Nat} (hl : xs.length < 1000000000) (hs : ∀ w ∈ xs, Len w.length) : ∀ (ys : List Bs) (k : Nat), xs.drop k = ys -> k <= xs.length -> ∀ (T : Tab),
  T id = .mapo (qrb (xs.take k)) ->
  (qf0 (xs.take k) ys = false -> ∀ es, R .ret [(2, .b false)] [] (T.put id (.mapo es))) ->
  (qf0 (xs.take k) ys = true -> ∀ es, R (.exit 0) [(3, .mp id), (7, .fz xs.length (qez xs) cap), (8, .i .i64 xs.length), (9, .i .i64 xs.length), (10, .b false)] [] (T.put id (.mapo es))) ->
  AW prog qg0 R [(3, .mp id), (7, .fz xs.length (qez xs) cap), (8, .i .i64 xs.length), (9, .i .i64 k)] [] T := by
 intro ys
 induction ys with
 | nil =>
  intro k hk hle T hT h1 h2
  have hk' := O9 hk hle
  refine Q2 hR ?_
  unfold qet
  simp -implicitDefEqProofs -dsimp only [go_sem, seval, hk', Int.lt_irrefl]
  have := h2 rfl (qrb (xs.take k))
  rw [Tab.put_self hT, hk'] at this
  exact this
 | cons y ys ih =>
  intro k hk hle T hT h1 h2
  obtain ⟨hlt, hy, hk'⟩ := Q5 hk
  have hyl : Len y.length := hs y (List.mem_of_getElem? hy)
  have hws : IntKind.i64.wrap ((k : Int) + 1) = ((k + 1 : Nat) : Int) := K9 (by omega)
  have hg := quf y (xs.take k)
  have v1 : IntKind.i64.wrap 1 = 1 := rfl
  have v2 : IntKind.i64.wrap 2 = 2 := rfl
  simp only [qf0] at h1 h2
  refine O2 (l := qg0) rfl hR ?_
  unfold qet
  simp -implicitDefEqProofs -dsimp only [go_sem, seval, Int.ofNat_lt, hlt, Int.natCast_nonneg, Int.toNat_natCast, qw1, hy]
  by_cases hm : y ∈ xs.take k
  ·rw [if_pos hm] at hg
   refine qsj hT rfl hg (J1 ?_)
   simp -implicitDefEqProofs -dsimp only [go_sem, seval, v2]
   refine z02 hT rfl (by rw [hg]; rfl) (J1 ?_)
   simp -implicitDefEqProofs -dsimp only [go_sem, seval, ↓J0 _ _ qea]
   refine cpn (qn1 y hyl) ?_
   rw [decide_eq_true hm, Bool.not_true, Bool.and_false, Bool.false_and] at h1
   simp -implicitDefEqProofs -dsimp only [go_sem, seval]
   refine J2 (fun h => ?_) (fun h => ?_)
   ·simp -implicitDefEqProofs -dsimp only [go_sem, seval, h]
    exact h1 rfl _
   ·simp -implicitDefEqProofs -dsimp only [go_sem, seval, h]
    refine qsj (Tab.put_same ..) rfl (qqf y _) (J1 ?_)
    simp -implicitDefEqProofs -dsimp only [go_sem, seval, h, decide_true, decide_false]
    exact h1 rfl _
  ·rw [if_neg hm] at hg
   refine z2s hT rfl hg (J1 ?_)
   simp -implicitDefEqProofs -dsimp only [go_sem, seval, v1]
   refine z02 hT rfl (by rw [hg]; rfl) (J1 ?_)
   simp -implicitDefEqProofs -dsimp only [go_sem, seval, ↓J0 _ _ qea]
   refine cpn (qn1 y hyl) ?_
   rw [decide_eq_false hm, Bool.not_false, Bool.and_true] at h1 h2
   simp -implicitDefEqProofs -dsimp only [go_sem, seval]
   refine J2 (fun h => ?_) (fun h => ?_)
   ·have hv : qdh y = false := by simpa using h
    rw [hv, Bool.false_and] at h1
    simp -implicitDefEqProofs -dsimp only [go_sem, seval, h]
    exact h1 rfl _
   ·have hv : qdh y = true := by simpa using h
    rw [hv, Bool.true_and] at h1 h2
    simp -implicitDefEqProofs -dsimp only [go_sem, seval, h]
    refine qsj (Tab.put_same ..) rfl (qqf y _) (J1 ?_)
    simp -implicitDefEqProofs -dsimp only [go_sem, seval, h, decide_true, decide_false, hws]
    rw [<- Z9 hy] at h1 h2
    refine ih (k + 1) hk' hlt _ (by rw [Tab.put_same, qug y _ hm, Z9 hy]) (fun h' es => ?_) (fun h' es => ?_)
    ·rw [Tab.put_put]; exact h1 h' es
    ·rw [Tab.put_put]; exact h2 h' es
theorem z0n (xs : List Bs) (cap : Option Nat) (hl : xs.length < 1000000000) (hs : ∀ w ∈ xs, Len w.length) : PCalls prog qaq [.fz xs.length (qez xs) cap] (.b (qf0 [] xs)) := by
 refine K5 Q7 qu1 (by simp) fun T => ?_
 unfold qo8
 simp -implicitDefEqProofs -dsimp only [go_sem, seval]
 refine fun id hid => J1 ?_
 simp -implicitDefEqProofs -dsimp only [go_sem, seval]
 have hfin : ∀ (b : Bool) (es : List (AV × AV)), qf0 [] xs = b -> qnz (.b b) (fun v T' => v = .b (qf0 [] xs) /\ T' = T) ((T.put id (.mapo [])).put id (.mapo es)) := fun b es hb => by
  refine V1 T (fun j => ?_) ⟨by rw [hb], rfl⟩
  rw [Tab.put_put]
  by_cases e : j = id
  ·subst e; exact .inl hid
  ·rw [Tab.put_ne _ _ e]; exact .refl _
 refine z61 (id := id) (by repeat' (first | exact N5 _ _ | assumption | apply N4 | apply K7 | apply U1)) hl hs xs 0 rfl (by omega) _ (by rw [Tab.put_same]; rfl) (fun h es => ?_) (fun h es => ?_)
 ·simp -implicitDefEqProofs -dsimp only [go_sem, seval]
  exact hfin _ es h
 ·simp -implicitDefEqProofs -dsimp only [go_sem, seval]
  exact hfin _ es h
def qgd (t : Tx) : Bool :=
 qp6 t.cl t.sq && !decide (8 < (t.rs.length : Int)) && !decide (8 < (t.ws.length : Int)) && !decide ((t.rs.length : Int) + t.ws.length = 0) && !(t.pl && (!decide ((t.rs.length : Int) = 0) || !decide ((t.ws.length : Int) = 1))) &&
  (qf0 [] (t.rs.map (·.k)) && qf0 [] (t.ws.map (·.k)) && t.ws.all wOk)
structure Tx.Fine (t : Tx) : Prop where
 r : t.rs.length < 1000000000
 w : t.ws.length < 1000000000
 rk : ∀ r ∈ t.rs, Len r.k.length
 wk : ∀ r ∈ t.ws, Len r.k.length
 wv : ∀ r ∈ t.ws, Len r.v.length
theorem qge (t : Tx) (k1 k2 : Option Nat) (hf : t.Fine) : PCalls prog q2h [.agg (t.cells k1 k2)] (.b (qgd t)) := by
 obtain ⟨cl, sq, pl, rs, ws⟩ := t
 refine K5 Q7 qom (by simp) fun T => ?_
 have w1 : IntKind.i64.wrap ((rs.length : Int) + ws.length) = (rs.length : Int) + ws.length := q02 (by have h1 : rs.length < 1000000000 := hf.r; have h2 : ws.length < 1000000000 := hf.w; unfold I64; omega)
 have c1 := qqe ⟨cl, sq, pl, rs, ws⟩ k1 k2 hf.r
 have c2 := qoe ⟨cl, sq, pl, rs, ws⟩ k1 k2 hf.w
 have c3 := z0m ⟨cl, sq, pl, rs, ws⟩ k1 k2 hf.w hf.wv
 have c4 := z0n (rs.map (·.k)) none (by rw [List.length_map]; exact hf.r) (by intro w hw; obtain ⟨r, hr, rfl⟩ := List.mem_map.1 hw; exact hf.rk r hr)
 have c5 := z0n (ws.map (·.k)) none (by rw [List.length_map]; exact hf.w) (by intro w hw; obtain ⟨r, hr, rfl⟩ := List.mem_map.1 hw; exact hf.wk r hr)
 rw [List.length_map] at c4 c5
 simp only [Tx.cells] at c1 c2 c3
 unfold qgh
 cases pl
 all_goals
  simp -implicitDefEqProofs -dsimp only [go_sem, seval, Tx.cells, ↓J0 _ _ Z2]
  refine cpn (q2f cl sq) ?_
  rcases hid : qp6 cl sq with _ | _
 all_goals
  simp -implicitDefEqProofs -dsimp only [go_sem, seval, decide_true, decide_false, Bool.not_true, Bool.not_false]
  (first | (apply J2 <;> intro h_1 <;> simp -implicitDefEqProofs -dsimp only [go_sem, seval, w1, ↓N1, U6, true_and, ↓J0 _ _ J4, ↓J0 _ _ J3, ↓J0 _ _ J6, ↓J0 _ _ K3, h_1]) | (refine CallK.pure (c1) (J1 ?_); simp -implicitDefEqProofs -dsimp only [go_sem, seval, w1, ↓N1, U6, true_and, ↓J0 _ _ J4, ↓J0 _ _ J3, ↓J0 _ _ J6, ↓J0 _ _ K3]; have h_1 := trivial) | (refine CallK.pure (c2) (J1 ?_); simp -implicitDefEqProofs -dsimp only [go_sem, seval, w1, ↓N1, U6, true_and, ↓J0 _ _ J4, ↓J0 _ _ J3, ↓J0 _ _ J6, ↓J0 _ _ K3]; have h_1 := trivial) | (refine CallK.pure (c3) (J1 ?_); simp -implicitDefEqProofs -dsimp only [go_sem, seval, w1, ↓N1, U6, true_and, ↓J0 _ _ J4, ↓J0 _ _ J3, ↓J0 _ _ J6, ↓J0 _ _ K3]; have h_1 := trivial) | (refine CallK.pure (c4) (J1 ?_); simp -implicitDefEqProofs -dsimp only [go_sem, seval, w1, ↓N1, U6, true_and, ↓J0 _ _ J4, ↓J0 _ _ J3, ↓J0 _ _ J6, ↓J0 _ _ K3]; have h_1 := trivial) | (refine CallK.pure (c5) (J1 ?_); simp -implicitDefEqProofs -dsimp only [go_sem, seval, w1, ↓N1, U6, true_and, ↓J0 _ _ J4, ↓J0 _ _ J3, ↓J0 _ _ J6, ↓J0 _ _ K3]; have h_1 := trivial) | (have h_1 := trivial)) <;>
  (first | (apply J2 <;> intro h_2 <;> simp -implicitDefEqProofs -dsimp only [go_sem, seval, w1, ↓N1, U6, true_and, ↓J0 _ _ J4, ↓J0 _ _ J3, ↓J0 _ _ J6, ↓J0 _ _ K3, h_1, h_2]) | (refine CallK.pure (c1) (J1 ?_); simp -implicitDefEqProofs -dsimp only [go_sem, seval, w1, ↓N1, U6, true_and, ↓J0 _ _ J4, ↓J0 _ _ J3, ↓J0 _ _ J6, ↓J0 _ _ K3, h_1]; have h_2 := trivial) | (refine CallK.pure (c2) (J1 ?_); simp -implicitDefEqProofs -dsimp only [go_sem, seval, w1, ↓N1, U6, true_and, ↓J0 _ _ J4, ↓J0 _ _ J3, ↓J0 _ _ J6, ↓J0 _ _ K3, h_1]; have h_2 := trivial) | (refine CallK.pure (c3) (J1 ?_); simp -implicitDefEqProofs -dsimp only [go_sem, seval, w1, ↓N1, U6, true_and, ↓J0 _ _ J4, ↓J0 _ _ J3, ↓J0 _ _ J6, ↓J0 _ _ K3, h_1]; have h_2 := trivial) | (refine CallK.pure (c4) (J1 ?_); simp -implicitDefEqProofs -dsimp only [go_sem, seval, w1, ↓N1, U6, true_and, ↓J0 _ _ J4, ↓J0 _ _ J3, ↓J0 _ _ J6, ↓J0 _ _ K3, h_1]; have h_2 := trivial) | (refine CallK.pure (c5) (J1 ?_); simp -implicitDefEqProofs -dsimp only [go_sem, seval, w1, ↓N1, U6, true_and, ↓J0 _ _ J4, ↓J0 _ _ J3, ↓J0 _ _ J6, ↓J0 _ _ K3, h_1]; have h_2 := trivial) | (have h_2 := trivial)) <;>
  (first | (apply J2 <;> intro h_3 <;> simp -implicitDefEqProofs -dsimp only [go_sem, seval, w1, ↓N1, U6, true_and, ↓J0 _ _ J4, ↓J0 _ _ J3, ↓J0 _ _ J6, ↓J0 _ _ K3, h_1, h_2, h_3]) | (refine CallK.pure (c1) (J1 ?_); simp -implicitDefEqProofs -dsimp only [go_sem, seval, w1, ↓N1, U6, true_and, ↓J0 _ _ J4, ↓J0 _ _ J3, ↓J0 _ _ J6, ↓J0 _ _ K3, h_1, h_2]; have h_3 := trivial) | (refine CallK.pure (c2) (J1 ?_); simp -implicitDefEqProofs -dsimp only [go_sem, seval, w1, ↓N1, U6, true_and, ↓J0 _ _ J4, ↓J0 _ _ J3, ↓J0 _ _ J6, ↓J0 _ _ K3, h_1, h_2]; have h_3 := trivial) | (refine CallK.pure (c3) (J1 ?_); simp -implicitDefEqProofs -dsimp only [go_sem, seval, w1, ↓N1, U6, true_and, ↓J0 _ _ J4, ↓J0 _ _ J3, ↓J0 _ _ J6, ↓J0 _ _ K3, h_1, h_2]; have h_3 := trivial) | (refine CallK.pure (c4) (J1 ?_); simp -implicitDefEqProofs -dsimp only [go_sem, seval, w1, ↓N1, U6, true_and, ↓J0 _ _ J4, ↓J0 _ _ J3, ↓J0 _ _ J6, ↓J0 _ _ K3, h_1, h_2]; have h_3 := trivial) | (refine CallK.pure (c5) (J1 ?_); simp -implicitDefEqProofs -dsimp only [go_sem, seval, w1, ↓N1, U6, true_and, ↓J0 _ _ J4, ↓J0 _ _ J3, ↓J0 _ _ J6, ↓J0 _ _ K3, h_1, h_2]; have h_3 := trivial) | (have h_3 := trivial)) <;>
  (first | (apply J2 <;> intro h_4 <;> simp -implicitDefEqProofs -dsimp only [go_sem, seval, w1, ↓N1, U6, true_and, ↓J0 _ _ J4, ↓J0 _ _ J3, ↓J0 _ _ J6, ↓J0 _ _ K3, h_1, h_2, h_3, h_4]) | (refine CallK.pure (c1) (J1 ?_); simp -implicitDefEqProofs -dsimp only [go_sem, seval, w1, ↓N1, U6, true_and, ↓J0 _ _ J4, ↓J0 _ _ J3, ↓J0 _ _ J6, ↓J0 _ _ K3, h_1, h_2, h_3]; have h_4 := trivial) | (refine CallK.pure (c2) (J1 ?_); simp -implicitDefEqProofs -dsimp only [go_sem, seval, w1, ↓N1, U6, true_and, ↓J0 _ _ J4, ↓J0 _ _ J3, ↓J0 _ _ J6, ↓J0 _ _ K3, h_1, h_2, h_3]; have h_4 := trivial) | (refine CallK.pure (c3) (J1 ?_); simp -implicitDefEqProofs -dsimp only [go_sem, seval, w1, ↓N1, U6, true_and, ↓J0 _ _ J4, ↓J0 _ _ J3, ↓J0 _ _ J6, ↓J0 _ _ K3, h_1, h_2, h_3]; have h_4 := trivial) | (refine CallK.pure (c4) (J1 ?_); simp -implicitDefEqProofs -dsimp only [go_sem, seval, w1, ↓N1, U6, true_and, ↓J0 _ _ J4, ↓J0 _ _ J3, ↓J0 _ _ J6, ↓J0 _ _ K3, h_1, h_2, h_3]; have h_4 := trivial) | (refine CallK.pure (c5) (J1 ?_); simp -implicitDefEqProofs -dsimp only [go_sem, seval, w1, ↓N1, U6, true_and, ↓J0 _ _ J4, ↓J0 _ _ J3, ↓J0 _ _ J6, ↓J0 _ _ K3, h_1, h_2, h_3]; have h_4 := trivial) | (have h_4 := trivial)) <;>
  (first | (apply J2 <;> intro h_5 <;> simp -implicitDefEqProofs -dsimp only [go_sem, seval, w1, ↓N1, U6, true_and, ↓J0 _ _ J4, ↓J0 _ _ J3, ↓J0 _ _ J6, ↓J0 _ _ K3, h_1, h_2, h_3, h_4, h_5]) | (refine CallK.pure (c1) (J1 ?_); simp -implicitDefEqProofs -dsimp only [go_sem, seval, w1, ↓N1, U6, true_and, ↓J0 _ _ J4, ↓J0 _ _ J3, ↓J0 _ _ J6, ↓J0 _ _ K3, h_1, h_2, h_3, h_4]; have h_5 := trivial) | (refine CallK.pure (c2) (J1 ?_); simp -implicitDefEqProofs -dsimp only [go_sem, seval, w1, ↓N1, U6, true_and, ↓J0 _ _ J4, ↓J0 _ _ J3, ↓J0 _ _ J6, ↓J0 _ _ K3, h_1, h_2, h_3, h_4]; have h_5 := trivial) | (refine CallK.pure (c3) (J1 ?_); simp -implicitDefEqProofs -dsimp only [go_sem, seval, w1, ↓N1, U6, true_and, ↓J0 _ _ J4, ↓J0 _ _ J3, ↓J0 _ _ J6, ↓J0 _ _ K3, h_1, h_2, h_3, h_4]; have h_5 := trivial) | (refine CallK.pure (c4) (J1 ?_); simp -implicitDefEqProofs -dsimp only [go_sem, seval, w1, ↓N1, U6, true_and, ↓J0 _ _ J4, ↓J0 _ _ J3, ↓J0 _ _ J6, ↓J0 _ _ K3, h_1, h_2, h_3, h_4]; have h_5 := trivial) | (refine CallK.pure (c5) (J1 ?_); simp -implicitDefEqProofs -dsimp only [go_sem, seval, w1, ↓N1, U6, true_and, ↓J0 _ _ J4, ↓J0 _ _ J3, ↓J0 _ _ J6, ↓J0 _ _ K3, h_1, h_2, h_3, h_4]; have h_5 := trivial) | (have h_5 := trivial)) <;>
  (first | (apply J2 <;> intro h_6 <;> simp -implicitDefEqProofs -dsimp only [go_sem, seval, w1, ↓N1, U6, true_and, ↓J0 _ _ J4, ↓J0 _ _ J3, ↓J0 _ _ J6, ↓J0 _ _ K3, h_1, h_2, h_3, h_4, h_5, h_6]) | (refine CallK.pure (c1) (J1 ?_); simp -implicitDefEqProofs -dsimp only [go_sem, seval, w1, ↓N1, U6, true_and, ↓J0 _ _ J4, ↓J0 _ _ J3, ↓J0 _ _ J6, ↓J0 _ _ K3, h_1, h_2, h_3, h_4, h_5]; have h_6 := trivial) | (refine CallK.pure (c2) (J1 ?_); simp -implicitDefEqProofs -dsimp only [go_sem, seval, w1, ↓N1, U6, true_and, ↓J0 _ _ J4, ↓J0 _ _ J3, ↓J0 _ _ J6, ↓J0 _ _ K3, h_1, h_2, h_3, h_4, h_5]; have h_6 := trivial) | (refine CallK.pure (c3) (J1 ?_); simp -implicitDefEqProofs -dsimp only [go_sem, seval, w1, ↓N1, U6, true_and, ↓J0 _ _ J4, ↓J0 _ _ J3, ↓J0 _ _ J6, ↓J0 _ _ K3, h_1, h_2, h_3, h_4, h_5]; have h_6 := trivial) | (refine CallK.pure (c4) (J1 ?_); simp -implicitDefEqProofs -dsimp only [go_sem, seval, w1, ↓N1, U6, true_and, ↓J0 _ _ J4, ↓J0 _ _ J3, ↓J0 _ _ J6, ↓J0 _ _ K3, h_1, h_2, h_3, h_4, h_5]; have h_6 := trivial) | (refine CallK.pure (c5) (J1 ?_); simp -implicitDefEqProofs -dsimp only [go_sem, seval, w1, ↓N1, U6, true_and, ↓J0 _ _ J4, ↓J0 _ _ J3, ↓J0 _ _ J6, ↓J0 _ _ K3, h_1, h_2, h_3, h_4, h_5]; have h_6 := trivial) | (have h_6 := trivial)) <;>
  (first | (apply J2 <;> intro h_7 <;> simp -implicitDefEqProofs -dsimp only [go_sem, seval, w1, ↓N1, U6, true_and, ↓J0 _ _ J4, ↓J0 _ _ J3, ↓J0 _ _ J6, ↓J0 _ _ K3, h_1, h_2, h_3, h_4, h_5, h_6, h_7]) | (refine CallK.pure (c1) (J1 ?_); simp -implicitDefEqProofs -dsimp only [go_sem, seval, w1, ↓N1, U6, true_and, ↓J0 _ _ J4, ↓J0 _ _ J3, ↓J0 _ _ J6, ↓J0 _ _ K3, h_1, h_2, h_3, h_4, h_5, h_6]; have h_7 := trivial) | (refine CallK.pure (c2) (J1 ?_); simp -implicitDefEqProofs -dsimp only [go_sem, seval, w1, ↓N1, U6, true_and, ↓J0 _ _ J4, ↓J0 _ _ J3, ↓J0 _ _ J6, ↓J0 _ _ K3, h_1, h_2, h_3, h_4, h_5, h_6]; have h_7 := trivial) | (refine CallK.pure (c3) (J1 ?_); simp -implicitDefEqProofs -dsimp only [go_sem, seval, w1, ↓N1, U6, true_and, ↓J0 _ _ J4, ↓J0 _ _ J3, ↓J0 _ _ J6, ↓J0 _ _ K3, h_1, h_2, h_3, h_4, h_5, h_6]; have h_7 := trivial) | (refine CallK.pure (c4) (J1 ?_); simp -implicitDefEqProofs -dsimp only [go_sem, seval, w1, ↓N1, U6, true_and, ↓J0 _ _ J4, ↓J0 _ _ J3, ↓J0 _ _ J6, ↓J0 _ _ K3, h_1, h_2, h_3, h_4, h_5, h_6]; have h_7 := trivial) | (refine CallK.pure (c5) (J1 ?_); simp -implicitDefEqProofs -dsimp only [go_sem, seval, w1, ↓N1, U6, true_and, ↓J0 _ _ J4, ↓J0 _ _ J3, ↓J0 _ _ J6, ↓J0 _ _ K3, h_1, h_2, h_3, h_4, h_5, h_6]; have h_7 := trivial) | (have h_7 := trivial)) <;>
  (first | (apply J2 <;> intro h_8 <;> simp -implicitDefEqProofs -dsimp only [go_sem, seval, w1, ↓N1, U6, true_and, ↓J0 _ _ J4, ↓J0 _ _ J3, ↓J0 _ _ J6, ↓J0 _ _ K3, h_1, h_2, h_3, h_4, h_5, h_6, h_7, h_8]) | (refine CallK.pure (c1) (J1 ?_); simp -implicitDefEqProofs -dsimp only [go_sem, seval, w1, ↓N1, U6, true_and, ↓J0 _ _ J4, ↓J0 _ _ J3, ↓J0 _ _ J6, ↓J0 _ _ K3, h_1, h_2, h_3, h_4, h_5, h_6, h_7]; have h_8 := trivial) | (refine CallK.pure (c2) (J1 ?_); simp -implicitDefEqProofs -dsimp only [go_sem, seval, w1, ↓N1, U6, true_and, ↓J0 _ _ J4, ↓J0 _ _ J3, ↓J0 _ _ J6, ↓J0 _ _ K3, h_1, h_2, h_3, h_4, h_5, h_6, h_7]; have h_8 := trivial) | (refine CallK.pure (c3) (J1 ?_); simp -implicitDefEqProofs -dsimp only [go_sem, seval, w1, ↓N1, U6, true_and, ↓J0 _ _ J4, ↓J0 _ _ J3, ↓J0 _ _ J6, ↓J0 _ _ K3, h_1, h_2, h_3, h_4, h_5, h_6, h_7]; have h_8 := trivial) | (refine CallK.pure (c4) (J1 ?_); simp -implicitDefEqProofs -dsimp only [go_sem, seval, w1, ↓N1, U6, true_and, ↓J0 _ _ J4, ↓J0 _ _ J3, ↓J0 _ _ J6, ↓J0 _ _ K3, h_1, h_2, h_3, h_4, h_5, h_6, h_7]; have h_8 := trivial) | (refine CallK.pure (c5) (J1 ?_); simp -implicitDefEqProofs -dsimp only [go_sem, seval, w1, ↓N1, U6, true_and, ↓J0 _ _ J4, ↓J0 _ _ J3, ↓J0 _ _ J6, ↓J0 _ _ K3, h_1, h_2, h_3, h_4, h_5, h_6, h_7]; have h_8 := trivial) | (have h_8 := trivial)) <;>
  (first | (apply J2 <;> intro h_9 <;> simp -implicitDefEqProofs -dsimp only [go_sem, seval, w1, ↓N1, U6, true_and, ↓J0 _ _ J4, ↓J0 _ _ J3, ↓J0 _ _ J6, ↓J0 _ _ K3, h_1, h_2, h_3, h_4, h_5, h_6, h_7, h_8, h_9]) | (refine CallK.pure (c1) (J1 ?_); simp -implicitDefEqProofs -dsimp only [go_sem, seval, w1, ↓N1, U6, true_and, ↓J0 _ _ J4, ↓J0 _ _ J3, ↓J0 _ _ J6, ↓J0 _ _ K3, h_1, h_2, h_3, h_4, h_5, h_6, h_7, h_8]; have h_9 := trivial) | (refine CallK.pure (c2) (J1 ?_); simp -implicitDefEqProofs -dsimp only [go_sem, seval, w1, ↓N1, U6, true_and, ↓J0 _ _ J4, ↓J0 _ _ J3, ↓J0 _ _ J6, ↓J0 _ _ K3, h_1, h_2, h_3, h_4, h_5, h_6, h_7, h_8]; have h_9 := trivial) | (refine CallK.pure (c3) (J1 ?_); simp -implicitDefEqProofs -dsimp only [go_sem, seval, w1, ↓N1, U6, true_and, ↓J0 _ _ J4, ↓J0 _ _ J3, ↓J0 _ _ J6, ↓J0 _ _ K3, h_1, h_2, h_3, h_4, h_5, h_6, h_7, h_8]; have h_9 := trivial) | (refine CallK.pure (c4) (J1 ?_); simp -implicitDefEqProofs -dsimp only [go_sem, seval, w1, ↓N1, U6, true_and, ↓J0 _ _ J4, ↓J0 _ _ J3, ↓J0 _ _ J6, ↓J0 _ _ K3, h_1, h_2, h_3, h_4, h_5, h_6, h_7, h_8]; have h_9 := trivial) | (refine CallK.pure (c5) (J1 ?_); simp -implicitDefEqProofs -dsimp only [go_sem, seval, w1, ↓N1, U6, true_and, ↓J0 _ _ J4, ↓J0 _ _ J3, ↓J0 _ _ J6, ↓J0 _ _ K3, h_1, h_2, h_3, h_4, h_5, h_6, h_7, h_8]; have h_9 := trivial) | (have h_9 := trivial)) <;>
  (first | (apply J2 <;> intro h_10 <;> simp -implicitDefEqProofs -dsimp only [go_sem, seval, w1, ↓N1, U6, true_and, ↓J0 _ _ J4, ↓J0 _ _ J3, ↓J0 _ _ J6, ↓J0 _ _ K3, h_1, h_2, h_3, h_4, h_5, h_6, h_7, h_8, h_9, h_10]) | (refine CallK.pure (c1) (J1 ?_); simp -implicitDefEqProofs -dsimp only [go_sem, seval, w1, ↓N1, U6, true_and, ↓J0 _ _ J4, ↓J0 _ _ J3, ↓J0 _ _ J6, ↓J0 _ _ K3, h_1, h_2, h_3, h_4, h_5, h_6, h_7, h_8, h_9]; have h_10 := trivial) | (refine CallK.pure (c2) (J1 ?_); simp -implicitDefEqProofs -dsimp only [go_sem, seval, w1, ↓N1, U6, true_and, ↓J0 _ _ J4, ↓J0 _ _ J3, ↓J0 _ _ J6, ↓J0 _ _ K3, h_1, h_2, h_3, h_4, h_5, h_6, h_7, h_8, h_9]; have h_10 := trivial) | (refine CallK.pure (c3) (J1 ?_); simp -implicitDefEqProofs -dsimp only [go_sem, seval, w1, ↓N1, U6, true_and, ↓J0 _ _ J4, ↓J0 _ _ J3, ↓J0 _ _ J6, ↓J0 _ _ K3, h_1, h_2, h_3, h_4, h_5, h_6, h_7, h_8, h_9]; have h_10 := trivial) | (refine CallK.pure (c4) (J1 ?_); simp -implicitDefEqProofs -dsimp only [go_sem, seval, w1, ↓N1, U6, true_and, ↓J0 _ _ J4, ↓J0 _ _ J3, ↓J0 _ _ J6, ↓J0 _ _ K3, h_1, h_2, h_3, h_4, h_5, h_6, h_7, h_8, h_9]; have h_10 := trivial) | (refine CallK.pure (c5) (J1 ?_); simp -implicitDefEqProofs -dsimp only [go_sem, seval, w1, ↓N1, U6, true_and, ↓J0 _ _ J4, ↓J0 _ _ J3, ↓J0 _ _ J6, ↓J0 _ _ K3, h_1, h_2, h_3, h_4, h_5, h_6, h_7, h_8, h_9]; have h_10 := trivial) | (have h_10 := trivial)) <;>
  (first | (apply J2 <;> intro h_11 <;> simp -implicitDefEqProofs -dsimp only [go_sem, seval, w1, ↓N1, U6, true_and, ↓J0 _ _ J4, ↓J0 _ _ J3, ↓J0 _ _ J6, ↓J0 _ _ K3, h_1, h_2, h_3, h_4, h_5, h_6, h_7, h_8, h_9, h_10, h_11]) | (refine CallK.pure (c1) (J1 ?_); simp -implicitDefEqProofs -dsimp only [go_sem, seval, w1, ↓N1, U6, true_and, ↓J0 _ _ J4, ↓J0 _ _ J3, ↓J0 _ _ J6, ↓J0 _ _ K3, h_1, h_2, h_3, h_4, h_5, h_6, h_7, h_8, h_9, h_10]; have h_11 := trivial) | (refine CallK.pure (c2) (J1 ?_); simp -implicitDefEqProofs -dsimp only [go_sem, seval, w1, ↓N1, U6, true_and, ↓J0 _ _ J4, ↓J0 _ _ J3, ↓J0 _ _ J6, ↓J0 _ _ K3, h_1, h_2, h_3, h_4, h_5, h_6, h_7, h_8, h_9, h_10]; have h_11 := trivial) | (refine CallK.pure (c3) (J1 ?_); simp -implicitDefEqProofs -dsimp only [go_sem, seval, w1, ↓N1, U6, true_and, ↓J0 _ _ J4, ↓J0 _ _ J3, ↓J0 _ _ J6, ↓J0 _ _ K3, h_1, h_2, h_3, h_4, h_5, h_6, h_7, h_8, h_9, h_10]; have h_11 := trivial) | (refine CallK.pure (c4) (J1 ?_); simp -implicitDefEqProofs -dsimp only [go_sem, seval, w1, ↓N1, U6, true_and, ↓J0 _ _ J4, ↓J0 _ _ J3, ↓J0 _ _ J6, ↓J0 _ _ K3, h_1, h_2, h_3, h_4, h_5, h_6, h_7, h_8, h_9, h_10]; have h_11 := trivial) | (refine CallK.pure (c5) (J1 ?_); simp -implicitDefEqProofs -dsimp only [go_sem, seval, w1, ↓N1, U6, true_and, ↓J0 _ _ J4, ↓J0 _ _ J3, ↓J0 _ _ J6, ↓J0 _ _ K3, h_1, h_2, h_3, h_4, h_5, h_6, h_7, h_8, h_9, h_10]; have h_11 := trivial) | (have h_11 := trivial)) <;>
  (first | (apply J2 <;> intro h_12 <;> simp -implicitDefEqProofs -dsimp only [go_sem, seval, w1, ↓N1, U6, true_and, ↓J0 _ _ J4, ↓J0 _ _ J3, ↓J0 _ _ J6, ↓J0 _ _ K3, h_1, h_2, h_3, h_4, h_5, h_6, h_7, h_8, h_9, h_10, h_11, h_12]) | (refine CallK.pure (c1) (J1 ?_); simp -implicitDefEqProofs -dsimp only [go_sem, seval, w1, ↓N1, U6, true_and, ↓J0 _ _ J4, ↓J0 _ _ J3, ↓J0 _ _ J6, ↓J0 _ _ K3, h_1, h_2, h_3, h_4, h_5, h_6, h_7, h_8, h_9, h_10, h_11]; have h_12 := trivial) | (refine CallK.pure (c2) (J1 ?_); simp -implicitDefEqProofs -dsimp only [go_sem, seval, w1, ↓N1, U6, true_and, ↓J0 _ _ J4, ↓J0 _ _ J3, ↓J0 _ _ J6, ↓J0 _ _ K3, h_1, h_2, h_3, h_4, h_5, h_6, h_7, h_8, h_9, h_10, h_11]; have h_12 := trivial) | (refine CallK.pure (c3) (J1 ?_); simp -implicitDefEqProofs -dsimp only [go_sem, seval, w1, ↓N1, U6, true_and, ↓J0 _ _ J4, ↓J0 _ _ J3, ↓J0 _ _ J6, ↓J0 _ _ K3, h_1, h_2, h_3, h_4, h_5, h_6, h_7, h_8, h_9, h_10, h_11]; have h_12 := trivial) | (refine CallK.pure (c4) (J1 ?_); simp -implicitDefEqProofs -dsimp only [go_sem, seval, w1, ↓N1, U6, true_and, ↓J0 _ _ J4, ↓J0 _ _ J3, ↓J0 _ _ J6, ↓J0 _ _ K3, h_1, h_2, h_3, h_4, h_5, h_6, h_7, h_8, h_9, h_10, h_11]; have h_12 := trivial) | (refine CallK.pure (c5) (J1 ?_); simp -implicitDefEqProofs -dsimp only [go_sem, seval, w1, ↓N1, U6, true_and, ↓J0 _ _ J4, ↓J0 _ _ J3, ↓J0 _ _ J6, ↓J0 _ _ K3, h_1, h_2, h_3, h_4, h_5, h_6, h_7, h_8, h_9, h_10, h_11]; have h_12 := trivial) | (have h_12 := trivial)) <;>
  (first | (apply J2 <;> intro h_13 <;> simp -implicitDefEqProofs -dsimp only [go_sem, seval, w1, ↓N1, U6, true_and, ↓J0 _ _ J4, ↓J0 _ _ J3, ↓J0 _ _ J6, ↓J0 _ _ K3, h_1, h_2, h_3, h_4, h_5, h_6, h_7, h_8, h_9, h_10, h_11, h_12, h_13]) | (refine CallK.pure (c1) (J1 ?_); simp -implicitDefEqProofs -dsimp only [go_sem, seval, w1, ↓N1, U6, true_and, ↓J0 _ _ J4, ↓J0 _ _ J3, ↓J0 _ _ J6, ↓J0 _ _ K3, h_1, h_2, h_3, h_4, h_5, h_6, h_7, h_8, h_9, h_10, h_11, h_12]; have h_13 := trivial) | (refine CallK.pure (c2) (J1 ?_); simp -implicitDefEqProofs -dsimp only [go_sem, seval, w1, ↓N1, U6, true_and, ↓J0 _ _ J4, ↓J0 _ _ J3, ↓J0 _ _ J6, ↓J0 _ _ K3, h_1, h_2, h_3, h_4, h_5, h_6, h_7, h_8, h_9, h_10, h_11, h_12]; have h_13 := trivial) | (refine CallK.pure (c3) (J1 ?_); simp -implicitDefEqProofs -dsimp only [go_sem, seval, w1, ↓N1, U6, true_and, ↓J0 _ _ J4, ↓J0 _ _ J3, ↓J0 _ _ J6, ↓J0 _ _ K3, h_1, h_2, h_3, h_4, h_5, h_6, h_7, h_8, h_9, h_10, h_11, h_12]; have h_13 := trivial) | (refine CallK.pure (c4) (J1 ?_); simp -implicitDefEqProofs -dsimp only [go_sem, seval, w1, ↓N1, U6, true_and, ↓J0 _ _ J4, ↓J0 _ _ J3, ↓J0 _ _ J6, ↓J0 _ _ K3, h_1, h_2, h_3, h_4, h_5, h_6, h_7, h_8, h_9, h_10, h_11, h_12]; have h_13 := trivial) | (refine CallK.pure (c5) (J1 ?_); simp -implicitDefEqProofs -dsimp only [go_sem, seval, w1, ↓N1, U6, true_and, ↓J0 _ _ J4, ↓J0 _ _ J3, ↓J0 _ _ J6, ↓J0 _ _ K3, h_1, h_2, h_3, h_4, h_5, h_6, h_7, h_8, h_9, h_10, h_11, h_12]; have h_13 := trivial) | (have h_13 := trivial)) <;>
  (first | (apply J2 <;> intro h_14 <;> simp -implicitDefEqProofs -dsimp only [go_sem, seval, w1, ↓N1, U6, true_and, ↓J0 _ _ J4, ↓J0 _ _ J3, ↓J0 _ _ J6, ↓J0 _ _ K3, h_1, h_2, h_3, h_4, h_5, h_6, h_7, h_8, h_9, h_10, h_11, h_12, h_13, h_14]) | (refine CallK.pure (c1) (J1 ?_); simp -implicitDefEqProofs -dsimp only [go_sem, seval, w1, ↓N1, U6, true_and, ↓J0 _ _ J4, ↓J0 _ _ J3, ↓J0 _ _ J6, ↓J0 _ _ K3, h_1, h_2, h_3, h_4, h_5, h_6, h_7, h_8, h_9, h_10, h_11, h_12, h_13]; have h_14 := trivial) | (refine CallK.pure (c2) (J1 ?_); simp -implicitDefEqProofs -dsimp only [go_sem, seval, w1, ↓N1, U6, true_and, ↓J0 _ _ J4, ↓J0 _ _ J3, ↓J0 _ _ J6, ↓J0 _ _ K3, h_1, h_2, h_3, h_4, h_5, h_6, h_7, h_8, h_9, h_10, h_11, h_12, h_13]; have h_14 := trivial) | (refine CallK.pure (c3) (J1 ?_); simp -implicitDefEqProofs -dsimp only [go_sem, seval, w1, ↓N1, U6, true_and, ↓J0 _ _ J4, ↓J0 _ _ J3, ↓J0 _ _ J6, ↓J0 _ _ K3, h_1, h_2, h_3, h_4, h_5, h_6, h_7, h_8, h_9, h_10, h_11, h_12, h_13]; have h_14 := trivial) | (refine CallK.pure (c4) (J1 ?_); simp -implicitDefEqProofs -dsimp only [go_sem, seval, w1, ↓N1, U6, true_and, ↓J0 _ _ J4, ↓J0 _ _ J3, ↓J0 _ _ J6, ↓J0 _ _ K3, h_1, h_2, h_3, h_4, h_5, h_6, h_7, h_8, h_9, h_10, h_11, h_12, h_13]; have h_14 := trivial) | (refine CallK.pure (c5) (J1 ?_); simp -implicitDefEqProofs -dsimp only [go_sem, seval, w1, ↓N1, U6, true_and, ↓J0 _ _ J4, ↓J0 _ _ J3, ↓J0 _ _ J6, ↓J0 _ _ K3, h_1, h_2, h_3, h_4, h_5, h_6, h_7, h_8, h_9, h_10, h_11, h_12, h_13]; have h_14 := trivial) | (have h_14 := trivial))
  all_goals (
   refine K1 ?_
   simp only [qgd, *, Bool.not_true, Bool.not_false, Bool.true_and, Bool.false_and, Bool.and_false, Bool.and_true, Bool.or_true, Bool.true_or, Bool.false_or, Bool.or_false])
end Go.Aw
