import Derived.Test.YtchdmofoaokpjaaGreatDoorM30N17E12N
namespace Go.Aw
open Go
open Go.Proofs.Tryz (prog)
set_option linter.all false
set_option maxHeartbeats 4000000
abbrev Bs := List UInt8
structure Rd where
 k : Bs
 n : Int
structure Wt where
 k : Bs
 v : Bs
 g : Bool
structure Tx where
 cl : Int
 sq : Int
 pl : Bool
 rs : List Rd
 ws : List Wt
def rdC (r : Rd) : List AV := [.s r.k, .i .u64 r.n]
def wtC (w : Wt) : List AV := [.s w.k, .s w.v, .b w.g]
theorem qhg (r : Rd) : (rdC r).length = 2 := rfl
theorem qcv (r : Wt) : (wtC r).length = 3 := rfl
def Tx.cells (t : Tx) (k1 k2 : Option Nat) : List AV := [.i .i64 t.cl, .i .u64 t.sq, .b t.pl, .fz t.rs.length (t.rs.flatMap rdC) k1, .fz t.ws.length (t.ws.flatMap wtC) k2]
def qsk (l : List Bs) : List AV := l.map .s
theorem z4m (l : List Bs) (k : Nat) : ((qsk l).drop k)[0]? = (l[k]?).map .s := by simp [qsk]
theorem ql2 (l m : List Bs) : qsk l ++ qsk m = qsk (l ++ m) := by simp [qsk]
def qlx (c s : Int) : Bool := decide (0 <= c) && decide (c < 6) && decide (0 < s)
theorem q1g (c s : Int) : PCalls prog q33 [.agg [.i .i64 c, .i .u64 s]] (.b (qlx c s)) := by
 refine K5 Q9 qkn (by simp) fun T => ?_
 unfold qch
 simp -implicitDefEqProofs -dsimp only [go_sem, seval, decide_true, decide_false]
 (first | (apply K0 <;> intro h_1 <;> simp -implicitDefEqProofs -dsimp only [go_sem, seval, decide_true, decide_false, h_1]) | (have h_1 := trivial)) <;>
  (first | (apply K0 <;> intro h_2 <;> simp -implicitDefEqProofs -dsimp only [go_sem, seval, decide_true, decide_false, h_1, h_2]) | (have h_2 := trivial)) <;>
  (first | (apply K0 <;> intro h_3 <;> simp -implicitDefEqProofs -dsimp only [go_sem, seval, decide_true, decide_false, h_1, h_2, h_3]) | (have h_3 := trivial)) <;>
  (first | (apply K0 <;> intro h_4 <;> simp -implicitDefEqProofs -dsimp only [go_sem, seval, decide_true, decide_false, h_1, h_2, h_3, h_4]) | (have h_4 := trivial))
 all_goals
  refine J9 ?_
  simp only [qlx, *, Bool.not_true, Bool.not_false, Bool.true_and, Bool.false_and, Bool.and_false, Bool.and_true]
theorem qsl {R : I2} (hR : ExtR R) {T : Tab} {xs : List Rd} {cap : Option Nat} (hl : xs.length < 1000000000) : ∀ (ys : List Rd) (k : Nat), xs.drop k = ys -> k <= xs.length -> ∀ (v : AV) (T1 : Tab),
  Own T 1 v k (qsk ((xs.take k).map (·.k))) T1 ->
  (∀ v T1, Own T 1 v xs.length (qsk (xs.map (·.k))) T1 -> R (.exit 0) [(3, v), (7, .fz xs.length (xs.flatMap rdC) cap), (8, .i .i64 xs.length), (9, .i .i64 xs.length), (10, .b false)] [] T1) ->
  AW prog q4o R [(3, v), (7, .fz xs.length (xs.flatMap rdC) cap), (8, .i .i64 xs.length), (9, .i .i64 k)] [] T1 := by
 intro ys
 induction ys with
 | nil =>
  intro k hk hle v T1 ho h2
  have hk' := Y0 hk hle
  refine V1 hR ?_
  unfold q45
  obtain ⟨p1, p2, p3, p4, p5, p6⟩ := ho.form
  simp -implicitDefEqProofs -dsimp only [go_sem, seval, hk', Int.lt_irrefl, p1, p2, p3, p4, p5, p6]
  rw [hk'] at h2
  rw [List.take_of_length_le (by omega)] at ho
  exact h2 _ _ ho
 | cons y ys ih =>
  intro k hk hle v T1 ho h2
  obtain ⟨hlt, hy, hk'⟩ := Y9 hk
  obtain ⟨p1, p2, p3, p4, p5, p6⟩ := ho.form
  have hc := q0b qhg hy
  have hc5 : k * 2 + 2 <= (xs.flatMap rdC).length := by rw [Q6 qhg]; omega
  refine Q3 (l := q4o) rfl hR ?_
  unfold q45
  simp -implicitDefEqProofs -dsimp only [go_sem, seval, Int.ofNat_lt, hlt, Int.natCast_nonneg, Int.toNat_natCast, hc, hc5, rdC, List.cons_append, List.nil_append, p1, p2, p3, p4, p5, p6]
  refine ho.app (m := 1) (news := [.s y.k]) rfl rfl (by omega) (by omega) fun v2 T2 ho => J1 ?_
  obtain ⟨p1, p2, p3, p4, p5, p6⟩ := ho.form
  simp -implicitDefEqProofs -dsimp only [go_sem, seval, p1, p2, p3, p4, p5, p6]
  rw [Q0 (by omega)]
  refine ih (k + 1) hk' hlt _ _ ?_ h2
  rw [q1t hy, List.map_append, <- ql2]
  exact ho
theorem qsm (t : Tx) (k1 k2 : Option Nat) (hl : t.rs.length < 1000000000) : PCalls prog q2x [.agg (t.cells k1 k2)] (.fz t.rs.length (qsk (t.rs.map (·.k))) none) := by
 refine K5 Q9 qe3 (by simp) fun T => ?_
 unfold q82
 simp -implicitDefEqProofs -dsimp only [go_sem, seval, Tx.cells]
 refine qsl (T := T) (by repeat' (first | exact O7 _ _ | assumption | apply O6 | apply N6 | apply Y1)) hl t.rs 0 rfl (by omega) _ _ (.nil ..) (fun v T1 ho => ?_)
 obtain ⟨p1, p2, p3, p4, p5, p6⟩ := ho.form
 simp -implicitDefEqProofs -dsimp only [go_sem, seval, p1, p2, p3, p4, p5, p6]
 exact ho.fzn
theorem qqg {R : I2} (hR : ExtR R) {T : Tab} {xs : List Wt} {cap : Option Nat} (hl : xs.length < 1000000000) : ∀ (ys : List Wt) (k : Nat), xs.drop k = ys -> k <= xs.length -> ∀ (v : AV) (T1 : Tab),
  Own T 1 v k (qsk ((xs.take k).map (·.k))) T1 ->
  (∀ v T1, Own T 1 v xs.length (qsk (xs.map (·.k))) T1 -> R (.exit 0) [(3, v), (7, .fz xs.length (xs.flatMap wtC) cap), (8, .i .i64 xs.length), (9, .i .i64 xs.length), (10, .b false)] [] T1) ->
  AW prog q46 R [(3, v), (7, .fz xs.length (xs.flatMap wtC) cap), (8, .i .i64 xs.length), (9, .i .i64 k)] [] T1 := by
 intro ys
 induction ys with
 | nil =>
  intro k hk hle v T1 ho h2
  have hk' := Y0 hk hle
  refine V1 hR ?_
  unfold q3r
  obtain ⟨p1, p2, p3, p4, p5, p6⟩ := ho.form
  simp -implicitDefEqProofs -dsimp only [go_sem, seval, hk', Int.lt_irrefl, p1, p2, p3, p4, p5, p6]
  rw [hk'] at h2
  rw [List.take_of_length_le (by omega)] at ho
  exact h2 _ _ ho
 | cons y ys ih =>
  intro k hk hle v T1 ho h2
  obtain ⟨hlt, hy, hk'⟩ := Y9 hk
  obtain ⟨p1, p2, p3, p4, p5, p6⟩ := ho.form
  have hc := q0b qcv hy
  have hc5 : k * 3 + 3 <= (xs.flatMap wtC).length := by rw [Q6 qcv]; omega
  refine Q3 (l := q46) rfl hR ?_
  unfold q3r
  simp -implicitDefEqProofs -dsimp only [go_sem, seval, Int.ofNat_lt, hlt, Int.natCast_nonneg, Int.toNat_natCast, hc, hc5, wtC, List.cons_append, List.nil_append, p1, p2, p3, p4, p5, p6]
  refine ho.app (m := 1) (news := [.s y.k]) rfl rfl (by omega) (by omega) fun v2 T2 ho => J1 ?_
  obtain ⟨p1, p2, p3, p4, p5, p6⟩ := ho.form
  simp -implicitDefEqProofs -dsimp only [go_sem, seval, p1, p2, p3, p4, p5, p6]
  rw [Q0 (by omega)]
  refine ih (k + 1) hk' hlt _ _ ?_ h2
  rw [q1t hy, List.map_append, <- ql2]
  exact ho
theorem qqh (t : Tx) (k1 k2 : Option Nat) (hl : t.ws.length < 1000000000) : PCalls prog q2h [.agg (t.cells k1 k2)] (.fz t.ws.length (qsk (t.ws.map (·.k))) none) := by
 refine K5 Q9 qcq (by simp) fun T => ?_
 unfold q7k
 simp -implicitDefEqProofs -dsimp only [go_sem, seval, Tx.cells]
 refine qqg (T := T) (by repeat' (first | exact O7 _ _ | assumption | apply O6 | apply N6 | apply Y1)) hl t.ws 0 rfl (by omega) _ _ (.nil ..) (fun v T1 ho => ?_)
 obtain ⟨p1, p2, p3, p4, p5, p6⟩ := ho.form
 simp -implicitDefEqProofs -dsimp only [go_sem, seval, p1, p2, p3, p4, p5, p6]
 exact ho.fzn
def wOk (w : Wt) : Bool := qyb w.v && !(w.g && !decide (w.v = []))
theorem qyc {R : I2} (hR : ExtR R) {T : Tab} {xs : List Wt} {cap : Option Nat} (hl : xs.length < 1000000000) (hs : ∀ w ∈ xs, Len w.v.length) : ∀ (ys : List Wt) (k : Nat), xs.drop k = ys -> k <= xs.length ->
  (ys.all wOk = false -> R .ret [(2, .b false)] [] T) ->
  (ys.all wOk = true -> R (.exit 0) [(6, .fz xs.length (xs.flatMap wtC) cap), (7, .i .i64 xs.length), (8, .i .i64 xs.length), (9, .b false)] [] T) ->
  AW prog q3s R [(6, .fz xs.length (xs.flatMap wtC) cap), (7, .i .i64 xs.length), (8, .i .i64 k)] [] T := by
 intro ys
 induction ys with
 | nil =>
  intro k hk hle h1 h2
  have hk' := Y0 hk hle
  refine V1 hR ?_
  unfold q54
  simp -implicitDefEqProofs -dsimp only [go_sem, seval, hk', Int.lt_irrefl]
  rw [hk'] at h2
  exact h2 rfl
 | cons y ys ih =>
  intro k hk hle h1 h2
  obtain ⟨hlt, hy, hk'⟩ := Y9 hk
  have hc := q0b qcv hy
  have hc5 : k * 3 + 3 <= (xs.flatMap wtC).length := by rw [Q6 qcv]; omega
  have hyl : Len y.v.length := hs y (List.mem_of_getElem? hy)
  have hgo : wOk y = true -> AW prog q3s R [(6, .fz xs.length (xs.flatMap wtC) cap), (7, .i .i64 xs.length), (8, .i .i64 ((k + 1 : Nat) : Int))] [] T := fun h =>
   ih (k + 1) hk' hlt (fun h' => h1 (by simp [h, h'])) (fun h' => h2 (by simp [h, h']))
  have hno : wOk y = false -> R .ret [(2, .b false)] [] T := fun h => h1 (by simp [h])
  have hws : IntKind.i64.wrap ((k : Int) + 1) = ((k + 1 : Nat) : Int) := Q0 (by omega)
  refine Q3 (l := q3s) rfl hR ?_
  unfold q54
  simp -implicitDefEqProofs -dsimp only [go_sem, seval, Int.ofNat_lt, hlt, Int.natCast_nonneg, Int.toNat_natCast, hc, hc5, wtC, List.cons_append, List.nil_append, ↓J0 _ _ ql0]
  refine cpn (qqf y.v hyl) ?_
  simp -implicitDefEqProofs -dsimp only [go_sem, seval]
  refine K0 (fun h => ?_) (fun h => ?_)
  ·have hv : qyb y.v = false := by simpa using h
   simp -implicitDefEqProofs -dsimp only [go_sem, seval, h]
   exact hno (by rw [wOk, hv, Bool.false_and])
  have hv : qyb y.v = true := by simpa using h
  simp -implicitDefEqProofs -dsimp only [go_sem, seval, h]
  refine K0 (fun hg => ?_) (fun hg => ?_)
  ·simp -implicitDefEqProofs -dsimp only [go_sem, seval, h, hg]
   refine K0 (fun he => ?_) (fun he => ?_)
   ·simp -implicitDefEqProofs -dsimp only [go_sem, seval, h, he]
    have he : decide (y.v = []) = false := by simpa using he
    exact hno (by rw [wOk, hv, hg, he]; rfl)
   ·simp -implicitDefEqProofs -dsimp only [go_sem, seval, h, he, hws]
    have he : decide (y.v = []) = true := by simpa using he
    exact hgo (by rw [wOk, hv, hg, he]; rfl)
  ·simp -implicitDefEqProofs -dsimp only [go_sem, seval, h, hg, hws]
   exact hgo (by rw [wOk, hv, hg]; rfl)
theorem qyd (t : Tx) (k1 k2 : Option Nat) (hl : t.ws.length < 1000000000) (hs : ∀ w ∈ t.ws, Len w.v.length) : PCalls prog q4a [.agg (t.cells k1 k2)] (.b (t.ws.all wOk)) := by
 refine K5 Q9 qgk (by simp) fun T => ?_
 unfold q9c
 simp -implicitDefEqProofs -dsimp only [go_sem, seval, Tx.cells]
 refine qyc (by repeat' (first | exact O7 _ _ | assumption | apply O6 | apply N6 | apply Y1)) hl hs t.ws 0 rfl (by omega) (fun h => ?_) (fun h => ?_) <;> simp -implicitDefEqProofs -dsimp only [go_sem, seval] <;> exact J9 (by rw [h])
def qmh (l : List Bs) : List (AV × AV) := l.map fun k => (.s k, .i .i64 1)
theorem qqi (k : Bs) : ∀ l : List Bs, qlu .s (.s k) (qmh l) = some (if k ∈ l then some (.i .i64 1) else none)
 | [] => rfl
 | a :: l => by
  have ih := qqi k l
  simp only [qmh, List.map_cons, qlu, q1j, if_true, qjt] at ih ⊢
  by_cases h : k = a
  ·simp [h]
  ·simp only [decide_eq_true_eq, h, if_false, ih, List.mem_cons, false_or]
theorem qqj (k : Bs) : ∀ l : List Bs, k ∉ l -> qnj (.s k) (.i .i64 1) (qmh l) = qmh (l ++ [k])
 | [], _ => rfl
 | a :: l, h => by
  simp only [List.mem_cons, not_or] at h
  have ih := qqj k l h.2
  simp only [qmh, List.map_cons, qnj, qjt, List.cons_append] at ih ⊢
  simp only [decide_eq_true_eq, h.1, if_false, ih]
theorem ql3 {v : AV} (k : Bs) : ∀ l : List Bs, qlu .s (.s k) (qnj (.s k) v (qmh l)) = some (some v)
 | [] => by simp [qmh, qnj, qlu, q1j, qjt]
 | a :: l => by
  have ih := ql3 (v := v) k l
  simp only [qmh, List.map_cons, qnj, qjt] at ih ⊢
  by_cases h : k = a
  ·simp [h, qlu, q1j, qjt]
  ·simp only [decide_eq_true_eq, h, if_false, qlu, q1j, if_true, qjt, ih]
def ql4 : List Bs -> List Bs -> Bool
 | _, [] => true
 | pre, k :: ks => qok k && !decide (k ∈ pre) && ql4 (pre ++ [k]) ks
theorem z4n {R : I2} (hR : ExtR R) {id : Nat} {xs : List Bs} {cap : Option Nat} (hl : xs.length < 1000000000) (hs : ∀ w ∈ xs, Len w.length) : ∀ (ys : List Bs) (k : Nat), xs.drop k = ys -> k <= xs.length -> ∀ (T : Tab),
  T id = .mapo (qmh (xs.take k)) ->
  (ql4 (xs.take k) ys = false -> ∀ es, R .ret [(2, .b false)] [] (T.put id (.mapo es))) ->
  (ql4 (xs.take k) ys = true -> ∀ es, R (.exit 0) [(3, .mp id), (7, .fz xs.length (qsk xs) cap), (8, .i .i64 xs.length), (9, .i .i64 xs.length), (10, .b false)] [] (T.put id (.mapo es))) ->
  AW prog qb0 R [(3, .mp id), (7, .fz xs.length (qsk xs) cap), (8, .i .i64 xs.length), (9, .i .i64 k)] [] T := by
 intro ys
 induction ys with
 | nil =>
  intro k hk hle T hT h1 h2
  have hk' := Y0 hk hle
  refine V1 hR ?_
  unfold q9l
  simp -implicitDefEqProofs -dsimp only [go_sem, seval, hk', Int.lt_irrefl]
  have := h2 rfl (qmh (xs.take k))
  rw [Tab.put_self hT, hk'] at this
  exact this
 | cons y ys ih =>
  intro k hk hle T hT h1 h2
  obtain ⟨hlt, hy, hk'⟩ := Y9 hk
  have hyl : Len y.length := hs y (List.mem_of_getElem? hy)
  have hws : IntKind.i64.wrap ((k : Int) + 1) = ((k + 1 : Nat) : Int) := Q0 (by omega)
  have hg := qqi y (xs.take k)
  have v1 : IntKind.i64.wrap 1 = 1 := rfl
  have v2 : IntKind.i64.wrap 2 = 2 := rfl
  simp only [ql4] at h1 h2
  refine Q3 (l := qb0) rfl hR ?_
  unfold q9l
  simp -implicitDefEqProofs -dsimp only [go_sem, seval, Int.ofNat_lt, hlt, Int.natCast_nonneg, Int.toNat_natCast, z4m, hy]
  by_cases hm : y ∈ xs.take k
  ·rw [if_pos hm] at hg
   refine qny hT rfl hg (J1 ?_)
   simp -implicitDefEqProofs -dsimp only [go_sem, seval, v2]
   refine qxv hT rfl (by rw [hg]; rfl) (J1 ?_)
   simp -implicitDefEqProofs -dsimp only [go_sem, seval, ↓J0 _ _ qik]
   refine cpn (qqe y hyl) ?_
   rw [decide_eq_true hm, Bool.not_true, Bool.and_false, Bool.false_and] at h1
   simp -implicitDefEqProofs -dsimp only [go_sem, seval]
   refine K0 (fun h => ?_) (fun h => ?_)
   ·simp -implicitDefEqProofs -dsimp only [go_sem, seval, h]
    exact h1 rfl _
   ·simp -implicitDefEqProofs -dsimp only [go_sem, seval, h]
    refine qny (Tab.put_same ..) rfl (ql3 y _) (J1 ?_)
    simp -implicitDefEqProofs -dsimp only [go_sem, seval, h, decide_true, decide_false]
    exact h1 rfl _
  ·rw [if_neg hm] at hg
   refine z14 hT rfl hg (J1 ?_)
   simp -implicitDefEqProofs -dsimp only [go_sem, seval, v1]
   refine qxv hT rfl (by rw [hg]; rfl) (J1 ?_)
   simp -implicitDefEqProofs -dsimp only [go_sem, seval, ↓J0 _ _ qik]
   refine cpn (qqe y hyl) ?_
   rw [decide_eq_false hm, Bool.not_false, Bool.and_true] at h1 h2
   simp -implicitDefEqProofs -dsimp only [go_sem, seval]
   refine K0 (fun h => ?_) (fun h => ?_)
   ·have hv : qok y = false := by simpa using h
    rw [hv, Bool.false_and] at h1
    simp -implicitDefEqProofs -dsimp only [go_sem, seval, h]
    exact h1 rfl _
   ·have hv : qok y = true := by simpa using h
    rw [hv, Bool.true_and] at h1 h2
    simp -implicitDefEqProofs -dsimp only [go_sem, seval, h]
    refine qny (Tab.put_same ..) rfl (ql3 y _) (J1 ?_)
    simp -implicitDefEqProofs -dsimp only [go_sem, seval, h, decide_true, decide_false, hws]
    rw [<- q1t hy] at h1 h2
    refine ih (k + 1) hk' hlt _ (by rw [Tab.put_same, qqj y _ hm, q1t hy]) (fun h' es => ?_) (fun h' es => ?_)
    ·rw [Tab.put_put]; exact h1 h' es
    ·rw [Tab.put_put]; exact h2 h' es
theorem qye (xs : List Bs) (cap : Option Nat) (hl : xs.length < 1000000000) (hs : ∀ w ∈ xs, Len w.length) : PCalls prog q7d [.fz xs.length (qsk xs) cap] (.b (ql4 [] xs)) := by
 refine K5 Q9 qq7 (by simp) fun T => ?_
 unfold qih
 simp -implicitDefEqProofs -dsimp only [go_sem, seval]
 refine fun id hid => J1 ?_
 simp -implicitDefEqProofs -dsimp only [go_sem, seval]
 have hfin : ∀ (b : Bool) (es : List (AV × AV)), ql4 [] xs = b -> qn0 (.b b) (fun v T' => v = .b (ql4 [] xs) /\ T' = T) ((T.put id (.mapo [])).put id (.mapo es)) := fun b es hb => by
  refine Y8 T (fun j => ?_) ⟨by rw [hb], rfl⟩
  rw [Tab.put_put]
  by_cases e : j = id
  ·subst e; exact .inl hid
  ·rw [Tab.put_ne _ _ e]; exact .refl _
 refine z4n (id := id) (by repeat' (first | exact O7 _ _ | assumption | apply O6 | apply N6 | apply Y1)) hl hs xs 0 rfl (by omega) _ (by rw [Tab.put_same]; rfl) (fun h es => ?_) (fun h es => ?_)
 ·simp -implicitDefEqProofs -dsimp only [go_sem, seval]
  exact hfin _ es h
 ·simp -implicitDefEqProofs -dsimp only [go_sem, seval]
  exact hfin _ es h
def qsn (t : Tx) : Bool :=
 qlx t.cl t.sq && !decide (8 < (t.rs.length : Int)) && !decide (8 < (t.ws.length : Int)) && !decide ((t.rs.length : Int) + t.ws.length = 0) && !(t.pl && (!decide ((t.rs.length : Int) = 0) || !decide ((t.ws.length : Int) = 1))) &&
  (ql4 [] (t.rs.map (·.k)) && ql4 [] (t.ws.map (·.k)) && t.ws.all wOk)
structure Tx.Fine (t : Tx) : Prop where
 r : t.rs.length < 1000000000
 w : t.ws.length < 1000000000
 rk : ∀ r ∈ t.rs, Len r.k.length
 wk : ∀ r ∈ t.ws, Len r.k.length
 wv : ∀ r ∈ t.ws, Len r.v.length
theorem qfj (t : Tx) (k1 k2 : Option Nat) (hf : t.Fine) : PCalls prog q2b [.agg (t.cells k1 k2)] (.b (qsn t)) := by
 obtain ⟨cl, sq, pl, rs, ws⟩ := t
 refine K5 Q9 qj6 (by simp) fun T => ?_
 have w1 : IntKind.i64.wrap ((rs.length : Int) + ws.length) = (rs.length : Int) + ws.length := q2d (by have h1 : rs.length < 1000000000 := hf.r; have h2 : ws.length < 1000000000 := hf.w; unfold I64; omega)
 have c1 := qsm ⟨cl, sq, pl, rs, ws⟩ k1 k2 hf.r
 have c2 := qqh ⟨cl, sq, pl, rs, ws⟩ k1 k2 hf.w
 have c3 := qyd ⟨cl, sq, pl, rs, ws⟩ k1 k2 hf.w hf.wv
 have c4 := qye (rs.map (·.k)) none (by rw [List.length_map]; exact hf.r) (by intro w hw; obtain ⟨r, hr, rfl⟩ := List.mem_map.1 hw; exact hf.rk r hr)
 have c5 := qye (ws.map (·.k)) none (by rw [List.length_map]; exact hf.w) (by intro w hw; obtain ⟨r, hr, rfl⟩ := List.mem_map.1 hw; exact hf.wk r hr)
 rw [List.length_map] at c4 c5
 simp only [Tx.cells] at c1 c2 c3
 unfold qbn
 cases pl
 all_goals
  simp -implicitDefEqProofs -dsimp only [go_sem, seval, Tx.cells, ↓J0 _ _ Y2]
  refine cpn (q1g cl sq) ?_
  rcases hid : qlx cl sq with _ | _
 all_goals
  simp -implicitDefEqProofs -dsimp only [go_sem, seval, decide_true, decide_false, Bool.not_true, Bool.not_false]
  (first | (apply K0 <;> intro h_1 <;> simp -implicitDefEqProofs -dsimp only [go_sem, seval, w1, ↓Q4, I4, true_and, ↓J0 _ _ J3, ↓J0 _ _ J2, ↓J0 _ _ J5, ↓J0 _ _ K2, h_1]) | (refine CallK.pure (c1) (J1 ?_); simp -implicitDefEqProofs -dsimp only [go_sem, seval, w1, ↓Q4, I4, true_and, ↓J0 _ _ J3, ↓J0 _ _ J2, ↓J0 _ _ J5, ↓J0 _ _ K2]; have h_1 := trivial) | (refine CallK.pure (c2) (J1 ?_); simp -implicitDefEqProofs -dsimp only [go_sem, seval, w1, ↓Q4, I4, true_and, ↓J0 _ _ J3, ↓J0 _ _ J2, ↓J0 _ _ J5, ↓J0 _ _ K2]; have h_1 := trivial) | (refine CallK.pure (c3) (J1 ?_); simp -implicitDefEqProofs -dsimp only [go_sem, seval, w1, ↓Q4, I4, true_and, ↓J0 _ _ J3, ↓J0 _ _ J2, ↓J0 _ _ J5, ↓J0 _ _ K2]; have h_1 := trivial) | (refine CallK.pure (c4) (J1 ?_); simp -implicitDefEqProofs -dsimp only [go_sem, seval, w1, ↓Q4, I4, true_and, ↓J0 _ _ J3, ↓J0 _ _ J2, ↓J0 _ _ J5, ↓J0 _ _ K2]; have h_1 := trivial) | (refine CallK.pure (c5) (J1 ?_); simp -implicitDefEqProofs -dsimp only [go_sem, seval, w1, ↓Q4, I4, true_and, ↓J0 _ _ J3, ↓J0 _ _ J2, ↓J0 _ _ J5, ↓J0 _ _ K2]; have h_1 := trivial) | (have h_1 := trivial)) <;>
  (first | (apply K0 <;> intro h_2 <;> simp -implicitDefEqProofs -dsimp only [go_sem, seval, w1, ↓Q4, I4, true_and, ↓J0 _ _ J3, ↓J0 _ _ J2, ↓J0 _ _ J5, ↓J0 _ _ K2, h_1, h_2]) | (refine CallK.pure (c1) (J1 ?_); simp -implicitDefEqProofs -dsimp only [go_sem, seval, w1, ↓Q4, I4, true_and, ↓J0 _ _ J3, ↓J0 _ _ J2, ↓J0 _ _ J5, ↓J0 _ _ K2, h_1]; have h_2 := trivial) | (refine CallK.pure (c2) (J1 ?_); simp -implicitDefEqProofs -dsimp only [go_sem, seval, w1, ↓Q4, I4, true_and, ↓J0 _ _ J3, ↓J0 _ _ J2, ↓J0 _ _ J5, ↓J0 _ _ K2, h_1]; have h_2 := trivial) | (refine CallK.pure (c3) (J1 ?_); simp -implicitDefEqProofs -dsimp only [go_sem, seval, w1, ↓Q4, I4, true_and, ↓J0 _ _ J3, ↓J0 _ _ J2, ↓J0 _ _ J5, ↓J0 _ _ K2, h_1]; have h_2 := trivial) | (refine CallK.pure (c4) (J1 ?_); simp -implicitDefEqProofs -dsimp only [go_sem, seval, w1, ↓Q4, I4, true_and, ↓J0 _ _ J3, ↓J0 _ _ J2, ↓J0 _ _ J5, ↓J0 _ _ K2, h_1]; have h_2 := trivial) | (refine CallK.pure (c5) (J1 ?_); simp -implicitDefEqProofs -dsimp only [go_sem, seval, w1, ↓Q4, I4, true_and, ↓J0 _ _ J3, ↓J0 _ _ J2, ↓J0 _ _ J5, ↓J0 _ _ K2, h_1]; have h_2 := trivial) | (have h_2 := trivial)) <;>
  (first | (apply K0 <;> intro h_3 <;> simp -implicitDefEqProofs -dsimp only [go_sem, seval, w1, ↓Q4, I4, true_and, ↓J0 _ _ J3, ↓J0 _ _ J2, ↓J0 _ _ J5, ↓J0 _ _ K2, h_1, h_2, h_3]) | (refine CallK.pure (c1) (J1 ?_); simp -implicitDefEqProofs -dsimp only [go_sem, seval, w1, ↓Q4, I4, true_and, ↓J0 _ _ J3, ↓J0 _ _ J2, ↓J0 _ _ J5, ↓J0 _ _ K2, h_1, h_2]; have h_3 := trivial) | (refine CallK.pure (c2) (J1 ?_); simp -implicitDefEqProofs -dsimp only [go_sem, seval, w1, ↓Q4, I4, true_and, ↓J0 _ _ J3, ↓J0 _ _ J2, ↓J0 _ _ J5, ↓J0 _ _ K2, h_1, h_2]; have h_3 := trivial) | (refine CallK.pure (c3) (J1 ?_); simp -implicitDefEqProofs -dsimp only [go_sem, seval, w1, ↓Q4, I4, true_and, ↓J0 _ _ J3, ↓J0 _ _ J2, ↓J0 _ _ J5, ↓J0 _ _ K2, h_1, h_2]; have h_3 := trivial) | (refine CallK.pure (c4) (J1 ?_); simp -implicitDefEqProofs -dsimp only [go_sem, seval, w1, ↓Q4, I4, true_and, ↓J0 _ _ J3, ↓J0 _ _ J2, ↓J0 _ _ J5, ↓J0 _ _ K2, h_1, h_2]; have h_3 := trivial) | (refine CallK.pure (c5) (J1 ?_); simp -implicitDefEqProofs -dsimp only [go_sem, seval, w1, ↓Q4, I4, true_and, ↓J0 _ _ J3, ↓J0 _ _ J2, ↓J0 _ _ J5, ↓J0 _ _ K2, h_1, h_2]; have h_3 := trivial) | (have h_3 := trivial)) <;>
  (first | (apply K0 <;> intro h_4 <;> simp -implicitDefEqProofs -dsimp only [go_sem, seval, w1, ↓Q4, I4, true_and, ↓J0 _ _ J3, ↓J0 _ _ J2, ↓J0 _ _ J5, ↓J0 _ _ K2, h_1, h_2, h_3, h_4]) | (refine CallK.pure (c1) (J1 ?_); simp -implicitDefEqProofs -dsimp only [go_sem, seval, w1, ↓Q4, I4, true_and, ↓J0 _ _ J3, ↓J0 _ _ J2, ↓J0 _ _ J5, ↓J0 _ _ K2, h_1, h_2, h_3]; have h_4 := trivial) | (refine CallK.pure (c2) (J1 ?_); simp -implicitDefEqProofs -dsimp only [go_sem, seval, w1, ↓Q4, I4, true_and, ↓J0 _ _ J3, ↓J0 _ _ J2, ↓J0 _ _ J5, ↓J0 _ _ K2, h_1, h_2, h_3]; have h_4 := trivial) | (refine CallK.pure (c3) (J1 ?_); simp -implicitDefEqProofs -dsimp only [go_sem, seval, w1, ↓Q4, I4, true_and, ↓J0 _ _ J3, ↓J0 _ _ J2, ↓J0 _ _ J5, ↓J0 _ _ K2, h_1, h_2, h_3]; have h_4 := trivial) | (refine CallK.pure (c4) (J1 ?_); simp -implicitDefEqProofs -dsimp only [go_sem, seval, w1, ↓Q4, I4, true_and, ↓J0 _ _ J3, ↓J0 _ _ J2, ↓J0 _ _ J5, ↓J0 _ _ K2, h_1, h_2, h_3]; have h_4 := trivial) | (refine CallK.pure (c5) (J1 ?_); simp -implicitDefEqProofs -dsimp only [go_sem, seval, w1, ↓Q4, I4, true_and, ↓J0 _ _ J3, ↓J0 _ _ J2, ↓J0 _ _ J5, ↓J0 _ _ K2, h_1, h_2, h_3]; have h_4 := trivial) | (have h_4 := trivial)) <;>
  (first | (apply K0 <;> intro h_5 <;> simp -implicitDefEqProofs -dsimp only [go_sem, seval, w1, ↓Q4, I4, true_and, ↓J0 _ _ J3, ↓J0 _ _ J2, ↓J0 _ _ J5, ↓J0 _ _ K2, h_1, h_2, h_3, h_4, h_5]) | (refine CallK.pure (c1) (J1 ?_); simp -implicitDefEqProofs -dsimp only [go_sem, seval, w1, ↓Q4, I4, true_and, ↓J0 _ _ J3, ↓J0 _ _ J2, ↓J0 _ _ J5, ↓J0 _ _ K2, h_1, h_2, h_3, h_4]; have h_5 := trivial) | (refine CallK.pure (c2) (J1 ?_); simp -implicitDefEqProofs -dsimp only [go_sem, seval, w1, ↓Q4, I4, true_and, ↓J0 _ _ J3, ↓J0 _ _ J2, ↓J0 _ _ J5, ↓J0 _ _ K2, h_1, h_2, h_3, h_4]; have h_5 := trivial) | (refine CallK.pure (c3) (J1 ?_); simp -implicitDefEqProofs -dsimp only [go_sem, seval, w1, ↓Q4, I4, true_and, ↓J0 _ _ J3, ↓J0 _ _ J2, ↓J0 _ _ J5, ↓J0 _ _ K2, h_1, h_2, h_3, h_4]; have h_5 := trivial) | (refine CallK.pure (c4) (J1 ?_); simp -implicitDefEqProofs -dsimp only [go_sem, seval, w1, ↓Q4, I4, true_and, ↓J0 _ _ J3, ↓J0 _ _ J2, ↓J0 _ _ J5, ↓J0 _ _ K2, h_1, h_2, h_3, h_4]; have h_5 := trivial) | (refine CallK.pure (c5) (J1 ?_); simp -implicitDefEqProofs -dsimp only [go_sem, seval, w1, ↓Q4, I4, true_and, ↓J0 _ _ J3, ↓J0 _ _ J2, ↓J0 _ _ J5, ↓J0 _ _ K2, h_1, h_2, h_3, h_4]; have h_5 := trivial) | (have h_5 := trivial)) <;>
  (first | (apply K0 <;> intro h_6 <;> simp -implicitDefEqProofs -dsimp only [go_sem, seval, w1, ↓Q4, I4, true_and, ↓J0 _ _ J3, ↓J0 _ _ J2, ↓J0 _ _ J5, ↓J0 _ _ K2, h_1, h_2, h_3, h_4, h_5, h_6]) | (refine CallK.pure (c1) (J1 ?_); simp -implicitDefEqProofs -dsimp only [go_sem, seval, w1, ↓Q4, I4, true_and, ↓J0 _ _ J3, ↓J0 _ _ J2, ↓J0 _ _ J5, ↓J0 _ _ K2, h_1, h_2, h_3, h_4, h_5]; have h_6 := trivial) | (refine CallK.pure (c2) (J1 ?_); simp -implicitDefEqProofs -dsimp only [go_sem, seval, w1, ↓Q4, I4, true_and, ↓J0 _ _ J3, ↓J0 _ _ J2, ↓J0 _ _ J5, ↓J0 _ _ K2, h_1, h_2, h_3, h_4, h_5]; have h_6 := trivial) | (refine CallK.pure (c3) (J1 ?_); simp -implicitDefEqProofs -dsimp only [go_sem, seval, w1, ↓Q4, I4, true_and, ↓J0 _ _ J3, ↓J0 _ _ J2, ↓J0 _ _ J5, ↓J0 _ _ K2, h_1, h_2, h_3, h_4, h_5]; have h_6 := trivial) | (refine CallK.pure (c4) (J1 ?_); simp -implicitDefEqProofs -dsimp only [go_sem, seval, w1, ↓Q4, I4, true_and, ↓J0 _ _ J3, ↓J0 _ _ J2, ↓J0 _ _ J5, ↓J0 _ _ K2, h_1, h_2, h_3, h_4, h_5]; have h_6 := trivial) | (refine CallK.pure (c5) (J1 ?_); simp -implicitDefEqProofs -dsimp only [go_sem, seval, w1, ↓Q4, I4, true_and, ↓J0 _ _ J3, ↓J0 _ _ J2, ↓J0 _ _ J5, ↓J0 _ _ K2, h_1, h_2, h_3, h_4, h_5]; have h_6 := trivial) | (have h_6 := trivial)) <;>
  (first | (apply K0 <;> intro h_7 <;> simp -implicitDefEqProofs -dsimp only [go_sem, seval, w1, ↓Q4, I4, true_and, ↓J0 _ _ J3, ↓J0 _ _ J2, ↓J0 _ _ J5, ↓J0 _ _ K2, h_1, h_2, h_3, h_4, h_5, h_6, h_7]) | (refine CallK.pure (c1) (J1 ?_); simp -implicitDefEqProofs -dsimp only [go_sem, seval, w1, ↓Q4, I4, true_and, ↓J0 _ _ J3, ↓J0 _ _ J2, ↓J0 _ _ J5, ↓J0 _ _ K2, h_1, h_2, h_3, h_4, h_5, h_6]; have h_7 := trivial) | (refine CallK.pure (c2) (J1 ?_); simp -implicitDefEqProofs -dsimp only [go_sem, seval, w1, ↓Q4, I4, true_and, ↓J0 _ _ J3, ↓J0 _ _ J2, ↓J0 _ _ J5, ↓J0 _ _ K2, h_1, h_2, h_3, h_4, h_5, h_6]; have h_7 := trivial) | (refine CallK.pure (c3) (J1 ?_); simp -implicitDefEqProofs -dsimp only [go_sem, seval, w1, ↓Q4, I4, true_and, ↓J0 _ _ J3, ↓J0 _ _ J2, ↓J0 _ _ J5, ↓J0 _ _ K2, h_1, h_2, h_3, h_4, h_5, h_6]; have h_7 := trivial) | (refine CallK.pure (c4) (J1 ?_); simp -implicitDefEqProofs -dsimp only [go_sem, seval, w1, ↓Q4, I4, true_and, ↓J0 _ _ J3, ↓J0 _ _ J2, ↓J0 _ _ J5, ↓J0 _ _ K2, h_1, h_2, h_3, h_4, h_5, h_6]; have h_7 := trivial) | (refine CallK.pure (c5) (J1 ?_); simp -implicitDefEqProofs -dsimp only [go_sem, seval, w1, ↓Q4, I4, true_and, ↓J0 _ _ J3, ↓J0 _ _ J2, ↓J0 _ _ J5, ↓J0 _ _ K2, h_1, h_2, h_3, h_4, h_5, h_6]; have h_7 := trivial) | (have h_7 := trivial)) <;>
  (first | (apply K0 <;> intro h_8 <;> simp -implicitDefEqProofs -dsimp only [go_sem, seval, w1, ↓Q4, I4, true_and, ↓J0 _ _ J3, ↓J0 _ _ J2, ↓J0 _ _ J5, ↓J0 _ _ K2, h_1, h_2, h_3, h_4, h_5, h_6, h_7, h_8]) | (refine CallK.pure (c1) (J1 ?_); simp -implicitDefEqProofs -dsimp only [go_sem, seval, w1, ↓Q4, I4, true_and, ↓J0 _ _ J3, ↓J0 _ _ J2, ↓J0 _ _ J5, ↓J0 _ _ K2, h_1, h_2, h_3, h_4, h_5, h_6, h_7]; have h_8 := trivial) | (refine CallK.pure (c2) (J1 ?_); simp -implicitDefEqProofs -dsimp only [go_sem, seval, w1, ↓Q4, I4, true_and, ↓J0 _ _ J3, ↓J0 _ _ J2, ↓J0 _ _ J5, ↓J0 _ _ K2, h_1, h_2, h_3, h_4, h_5, h_6, h_7]; have h_8 := trivial) | (refine CallK.pure (c3) (J1 ?_); simp -implicitDefEqProofs -dsimp only [go_sem, seval, w1, ↓Q4, I4, true_and, ↓J0 _ _ J3, ↓J0 _ _ J2, ↓J0 _ _ J5, ↓J0 _ _ K2, h_1, h_2, h_3, h_4, h_5, h_6, h_7]; have h_8 := trivial) | (refine CallK.pure (c4) (J1 ?_); simp -implicitDefEqProofs -dsimp only [go_sem, seval, w1, ↓Q4, I4, true_and, ↓J0 _ _ J3, ↓J0 _ _ J2, ↓J0 _ _ J5, ↓J0 _ _ K2, h_1, h_2, h_3, h_4, h_5, h_6, h_7]; have h_8 := trivial) | (refine CallK.pure (c5) (J1 ?_); simp -implicitDefEqProofs -dsimp only [go_sem, seval, w1, ↓Q4, I4, true_and, ↓J0 _ _ J3, ↓J0 _ _ J2, ↓J0 _ _ J5, ↓J0 _ _ K2, h_1, h_2, h_3, h_4, h_5, h_6, h_7]; have h_8 := trivial) | (have h_8 := trivial)) <;>
  (first | (apply K0 <;> intro h_9 <;> simp -implicitDefEqProofs -dsimp only [go_sem, seval, w1, ↓Q4, I4, true_and, ↓J0 _ _ J3, ↓J0 _ _ J2, ↓J0 _ _ J5, ↓J0 _ _ K2, h_1, h_2, h_3, h_4, h_5, h_6, h_7, h_8, h_9]) | (refine CallK.pure (c1) (J1 ?_); simp -implicitDefEqProofs -dsimp only [go_sem, seval, w1, ↓Q4, I4, true_and, ↓J0 _ _ J3, ↓J0 _ _ J2, ↓J0 _ _ J5, ↓J0 _ _ K2, h_1, h_2, h_3, h_4, h_5, h_6, h_7, h_8]; have h_9 := trivial) | (refine CallK.pure (c2) (J1 ?_); simp -implicitDefEqProofs -dsimp only [go_sem, seval, w1, ↓Q4, I4, true_and, ↓J0 _ _ J3, ↓J0 _ _ J2, ↓J0 _ _ J5, ↓J0 _ _ K2, h_1, h_2, h_3, h_4, h_5, h_6, h_7, h_8]; have h_9 := trivial) | (refine CallK.pure (c3) (J1 ?_); simp -implicitDefEqProofs -dsimp only [go_sem, seval, w1, ↓Q4, I4, true_and, ↓J0 _ _ J3, ↓J0 _ _ J2, ↓J0 _ _ J5, ↓J0 _ _ K2, h_1, h_2, h_3, h_4, h_5, h_6, h_7, h_8]; have h_9 := trivial) | (refine CallK.pure (c4) (J1 ?_); simp -implicitDefEqProofs -dsimp only [go_sem, seval, w1, ↓Q4, I4, true_and, ↓J0 _ _ J3, ↓J0 _ _ J2, ↓J0 _ _ J5, ↓J0 _ _ K2, h_1, h_2, h_3, h_4, h_5, h_6, h_7, h_8]; have h_9 := trivial) | (refine CallK.pure (c5) (J1 ?_); simp -implicitDefEqProofs -dsimp only [go_sem, seval, w1, ↓Q4, I4, true_and, ↓J0 _ _ J3, ↓J0 _ _ J2, ↓J0 _ _ J5, ↓J0 _ _ K2, h_1, h_2, h_3, h_4, h_5, h_6, h_7, h_8]; have h_9 := trivial) | (have h_9 := trivial)) <;>
  (first | (apply K0 <;> intro h_10 <;> simp -implicitDefEqProofs -dsimp only [go_sem, seval, w1, ↓Q4, I4, true_and, ↓J0 _ _ J3, ↓J0 _ _ J2, ↓J0 _ _ J5, ↓J0 _ _ K2, h_1, h_2, h_3, h_4, h_5, h_6, h_7, h_8, h_9, h_10]) | (refine CallK.pure (c1) (J1 ?_); simp -implicitDefEqProofs -dsimp only [go_sem, seval, w1, ↓Q4, I4, true_and, ↓J0 _ _ J3, ↓J0 _ _ J2, ↓J0 _ _ J5, ↓J0 _ _ K2, h_1, h_2, h_3, h_4, h_5, h_6, h_7, h_8, h_9]; have h_10 := trivial) | (refine CallK.pure (c2) (J1 ?_); simp -implicitDefEqProofs -dsimp only [go_sem, seval, w1, ↓Q4, I4, true_and, ↓J0 _ _ J3, ↓J0 _ _ J2, ↓J0 _ _ J5, ↓J0 _ _ K2, h_1, h_2, h_3, h_4, h_5, h_6, h_7, h_8, h_9]; have h_10 := trivial) | (refine CallK.pure (c3) (J1 ?_); simp -implicitDefEqProofs -dsimp only [go_sem, seval, w1, ↓Q4, I4, true_and, ↓J0 _ _ J3, ↓J0 _ _ J2, ↓J0 _ _ J5, ↓J0 _ _ K2, h_1, h_2, h_3, h_4, h_5, h_6, h_7, h_8, h_9]; have h_10 := trivial) | (refine CallK.pure (c4) (J1 ?_); simp -implicitDefEqProofs -dsimp only [go_sem, seval, w1, ↓Q4, I4, true_and, ↓J0 _ _ J3, ↓J0 _ _ J2, ↓J0 _ _ J5, ↓J0 _ _ K2, h_1, h_2, h_3, h_4, h_5, h_6, h_7, h_8, h_9]; have h_10 := trivial) | (refine CallK.pure (c5) (J1 ?_); simp -implicitDefEqProofs -dsimp only [go_sem, seval, w1, ↓Q4, I4, true_and, ↓J0 _ _ J3, ↓J0 _ _ J2, ↓J0 _ _ J5, ↓J0 _ _ K2, h_1, h_2, h_3, h_4, h_5, h_6, h_7, h_8, h_9]; have h_10 := trivial) | (have h_10 := trivial)) <;>
  (first | (apply K0 <;> intro h_11 <;> simp -implicitDefEqProofs -dsimp only [go_sem, seval, w1, ↓Q4, I4, true_and, ↓J0 _ _ J3, ↓J0 _ _ J2, ↓J0 _ _ J5, ↓J0 _ _ K2, h_1, h_2, h_3, h_4, h_5, h_6, h_7, h_8, h_9, h_10, h_11]) | (refine CallK.pure (c1) (J1 ?_); simp -implicitDefEqProofs -dsimp only [go_sem, seval, w1, ↓Q4, I4, true_and, ↓J0 _ _ J3, ↓J0 _ _ J2, ↓J0 _ _ J5, ↓J0 _ _ K2, h_1, h_2, h_3, h_4, h_5, h_6, h_7, h_8, h_9, h_10]; have h_11 := trivial) | (refine CallK.pure (c2) (J1 ?_); simp -implicitDefEqProofs -dsimp only [go_sem, seval, w1, ↓Q4, I4, true_and, ↓J0 _ _ J3, ↓J0 _ _ J2, ↓J0 _ _ J5, ↓J0 _ _ K2, h_1, h_2, h_3, h_4, h_5, h_6, h_7, h_8, h_9, h_10]; have h_11 := trivial) | (refine CallK.pure (c3) (J1 ?_); simp -implicitDefEqProofs -dsimp only [go_sem, seval, w1, ↓Q4, I4, true_and, ↓J0 _ _ J3, ↓J0 _ _ J2, ↓J0 _ _ J5, ↓J0 _ _ K2, h_1, h_2, h_3, h_4, h_5, h_6, h_7, h_8, h_9, h_10]; have h_11 := trivial) | (refine CallK.pure (c4) (J1 ?_); simp -implicitDefEqProofs -dsimp only [go_sem, seval, w1, ↓Q4, I4, true_and, ↓J0 _ _ J3, ↓J0 _ _ J2, ↓J0 _ _ J5, ↓J0 _ _ K2, h_1, h_2, h_3, h_4, h_5, h_6, h_7, h_8, h_9, h_10]; have h_11 := trivial) | (refine CallK.pure (c5) (J1 ?_); simp -implicitDefEqProofs -dsimp only [go_sem, seval, w1, ↓Q4, I4, true_and, ↓J0 _ _ J3, ↓J0 _ _ J2, ↓J0 _ _ J5, ↓J0 _ _ K2, h_1, h_2, h_3, h_4, h_5, h_6, h_7, h_8, h_9, h_10]; have h_11 := trivial) | (have h_11 := trivial)) <;>
  (first | (apply K0 <;> intro h_12 <;> simp -implicitDefEqProofs -dsimp only [go_sem, seval, w1, ↓Q4, I4, true_and, ↓J0 _ _ J3, ↓J0 _ _ J2, ↓J0 _ _ J5, ↓J0 _ _ K2, h_1, h_2, h_3, h_4, h_5, h_6, h_7, h_8, h_9, h_10, h_11, h_12]) | (refine CallK.pure (c1) (J1 ?_); simp -implicitDefEqProofs -dsimp only [go_sem, seval, w1, ↓Q4, I4, true_and, ↓J0 _ _ J3, ↓J0 _ _ J2, ↓J0 _ _ J5, ↓J0 _ _ K2, h_1, h_2, h_3, h_4, h_5, h_6, h_7, h_8, h_9, h_10, h_11]; have h_12 := trivial) | (refine CallK.pure (c2) (J1 ?_); simp -implicitDefEqProofs -dsimp only [go_sem, seval, w1, ↓Q4, I4, true_and, ↓J0 _ _ J3, ↓J0 _ _ J2, ↓J0 _ _ J5, ↓J0 _ _ K2, h_1, h_2, h_3, h_4, h_5, h_6, h_7, h_8, h_9, h_10, h_11]; have h_12 := trivial) | (refine CallK.pure (c3) (J1 ?_); simp -implicitDefEqProofs -dsimp only [go_sem, seval, w1, ↓Q4, I4, true_and, ↓J0 _ _ J3, ↓J0 _ _ J2, ↓J0 _ _ J5, ↓J0 _ _ K2, h_1, h_2, h_3, h_4, h_5, h_6, h_7, h_8, h_9, h_10, h_11]; have h_12 := trivial) | (refine CallK.pure (c4) (J1 ?_); simp -implicitDefEqProofs -dsimp only [go_sem, seval, w1, ↓Q4, I4, true_and, ↓J0 _ _ J3, ↓J0 _ _ J2, ↓J0 _ _ J5, ↓J0 _ _ K2, h_1, h_2, h_3, h_4, h_5, h_6, h_7, h_8, h_9, h_10, h_11]; have h_12 := trivial) | (refine CallK.pure (c5) (J1 ?_); simp -implicitDefEqProofs -dsimp only [go_sem, seval, w1, ↓Q4, I4, true_and, ↓J0 _ _ J3, ↓J0 _ _ J2, ↓J0 _ _ J5, ↓J0 _ _ K2, h_1, h_2, h_3, h_4, h_5, h_6, h_7, h_8, h_9, h_10, h_11]; have h_12 := trivial) | (have h_12 := trivial)) <;>
  (first | (apply K0 <;> intro h_13 <;> simp -implicitDefEqProofs -dsimp only [go_sem, seval, w1, ↓Q4, I4, true_and, ↓J0 _ _ J3, ↓J0 _ _ J2, ↓J0 _ _ J5, ↓J0 _ _ K2, h_1, h_2, h_3, h_4, h_5, h_6, h_7, h_8, h_9, h_10, h_11, h_12, h_13]) | (refine CallK.pure (c1) (J1 ?_); simp -implicitDefEqProofs -dsimp only [go_sem, seval, w1, ↓Q4, I4, true_and, ↓J0 _ _ J3, ↓J0 _ _ J2, ↓J0 _ _ J5, ↓J0 _ _ K2, h_1, h_2, h_3, h_4, h_5, h_6, h_7, h_8, h_9, h_10, h_11, h_12]; have h_13 := trivial) | (refine CallK.pure (c2) (J1 ?_); simp -implicitDefEqProofs -dsimp only [go_sem, seval, w1, ↓Q4, I4, true_and, ↓J0 _ _ J3, ↓J0 _ _ J2, ↓J0 _ _ J5, ↓J0 _ _ K2, h_1, h_2, h_3, h_4, h_5, h_6, h_7, h_8, h_9, h_10, h_11, h_12]; have h_13 := trivial) | (refine CallK.pure (c3) (J1 ?_); simp -implicitDefEqProofs -dsimp only [go_sem, seval, w1, ↓Q4, I4, true_and, ↓J0 _ _ J3, ↓J0 _ _ J2, ↓J0 _ _ J5, ↓J0 _ _ K2, h_1, h_2, h_3, h_4, h_5, h_6, h_7, h_8, h_9, h_10, h_11, h_12]; have h_13 := trivial) | (refine CallK.pure (c4) (J1 ?_); simp -implicitDefEqProofs -dsimp only [go_sem, seval, w1, ↓Q4, I4, true_and, ↓J0 _ _ J3, ↓J0 _ _ J2, ↓J0 _ _ J5, ↓J0 _ _ K2, h_1, h_2, h_3, h_4, h_5, h_6, h_7, h_8, h_9, h_10, h_11, h_12]; have h_13 := trivial) | (refine CallK.pure (c5) (J1 ?_); simp -implicitDefEqProofs -dsimp only [go_sem, seval, w1, ↓Q4, I4, true_and, ↓J0 _ _ J3, ↓J0 _ _ J2, ↓J0 _ _ J5, ↓J0 _ _ K2, h_1, h_2, h_3, h_4, h_5, h_6, h_7, h_8, h_9, h_10, h_11, h_12]; have h_13 := trivial) | (have h_13 := trivial)) <;>
  (first | (apply K0 <;> intro h_14 <;> simp -implicitDefEqProofs -dsimp only [go_sem, seval, w1, ↓Q4, I4, true_and, ↓J0 _ _ J3, ↓J0 _ _ J2, ↓J0 _ _ J5, ↓J0 _ _ K2, h_1, h_2, h_3, h_4, h_5, h_6, h_7, h_8, h_9, h_10, h_11, h_12, h_13, h_14]) | (refine CallK.pure (c1) (J1 ?_); simp -implicitDefEqProofs -dsimp only [go_sem, seval, w1, ↓Q4, I4, true_and, ↓J0 _ _ J3, ↓J0 _ _ J2, ↓J0 _ _ J5, ↓J0 _ _ K2, h_1, h_2, h_3, h_4, h_5, h_6, h_7, h_8, h_9, h_10, h_11, h_12, h_13]; have h_14 := trivial) | (refine CallK.pure (c2) (J1 ?_); simp -implicitDefEqProofs -dsimp only [go_sem, seval, w1, ↓Q4, I4, true_and, ↓J0 _ _ J3, ↓J0 _ _ J2, ↓J0 _ _ J5, ↓J0 _ _ K2, h_1, h_2, h_3, h_4, h_5, h_6, h_7, h_8, h_9, h_10, h_11, h_12, h_13]; have h_14 := trivial) | (refine CallK.pure (c3) (J1 ?_); simp -implicitDefEqProofs -dsimp only [go_sem, seval, w1, ↓Q4, I4, true_and, ↓J0 _ _ J3, ↓J0 _ _ J2, ↓J0 _ _ J5, ↓J0 _ _ K2, h_1, h_2, h_3, h_4, h_5, h_6, h_7, h_8, h_9, h_10, h_11, h_12, h_13]; have h_14 := trivial) | (refine CallK.pure (c4) (J1 ?_); simp -implicitDefEqProofs -dsimp only [go_sem, seval, w1, ↓Q4, I4, true_and, ↓J0 _ _ J3, ↓J0 _ _ J2, ↓J0 _ _ J5, ↓J0 _ _ K2, h_1, h_2, h_3, h_4, h_5, h_6, h_7, h_8, h_9, h_10, h_11, h_12, h_13]; have h_14 := trivial) | (refine CallK.pure (c5) (J1 ?_); simp -implicitDefEqProofs -dsimp only [go_sem, seval, w1, ↓Q4, I4, true_and, ↓J0 _ _ J3, ↓J0 _ _ J2, ↓J0 _ _ J5, ↓J0 _ _ K2, h_1, h_2, h_3, h_4, h_5, h_6, h_7, h_8, h_9, h_10, h_11, h_12, h_13]; have h_14 := trivial) | (have h_14 := trivial))
  all_goals (
   refine J9 ?_
   simp only [qsn, *, Bool.not_true, Bool.not_false, Bool.true_and, Bool.false_and, Bool.and_false, Bool.and_true, Bool.or_true, Bool.true_or, Bool.false_or, Bool.or_false])
end Go.Aw
