import Derived.Test.YteiamcnjlpbihaaGreatDoorN17E12N
namespace Go.Aw
open Go
open Go.Proofs.Tryz (prog)
set_option linter.all false
set_option maxHeartbeats 4000000
abbrev Bs := List UInt8
structure Rd where
 k : Bs
 n : Int
structure Wt where
 k : Bs
 v : Bs
 g : Bool
structure Tx where
 cl : Int
 sq : Int
 pl : Bool
 rs : List Rd
 ws : List Wt
def rdC (r : Rd) : List AV := [.s r.k, .i .u64 r.n]
def wtC (w : Wt) : List AV := [.s w.k, .s w.v, .b w.g]
theorem q99 (r : Rd) : (rdC r).length = 2 := rfl
theorem q7s (r : Wt) : (wtC r).length = 3 := rfl
def Tx.cells (t : Tx) (k1 k2 : Option Nat) : List AV := [.i .i64 t.cl, .i .u64 t.sq, .b t.pl, .fz t.rs.length (t.rs.flatMap rdC) k1, .fz t.ws.length (t.ws.flatMap wtC) k2]
def z0i (l : List Bs) : List AV := l.map .s
theorem zc0 (l : List Bs) (k : Nat) : ((z0i l).drop k)[0]? = (l[k]?).map .s := by simp [z0i]
theorem qrz (l m : List Bs) : z0i l ++ z0i m = z0i (l ++ m) := by simp [z0i]
def qj0 (c s : Int) : Bool := decide (0 <= c) && decide (c < 6) && decide (0 < s)
theorem q2t (c s : Int) : PCalls prog q51 [.agg [.i .i64 c, .i .u64 s]] (.b (qj0 c s)) := by
 refine K7 U3 qrh (by simp) fun T => ?_
 unfold qi0
 simp -implicitDefEqProofs -dsimp only [go_sem, seval, decide_true, decide_false]
 (first | (apply J2 <;> intro h_1 <;> simp -implicitDefEqProofs -dsimp only [go_sem, seval, decide_true, decide_false, h_1]) | (have h_1 := trivial)) <;>
  (first | (apply J2 <;> intro h_2 <;> simp -implicitDefEqProofs -dsimp only [go_sem, seval, decide_true, decide_false, h_1, h_2]) | (have h_2 := trivial)) <;>
  (first | (apply J2 <;> intro h_3 <;> simp -implicitDefEqProofs -dsimp only [go_sem, seval, decide_true, decide_false, h_1, h_2, h_3]) | (have h_3 := trivial)) <;>
  (first | (apply J2 <;> intro h_4 <;> simp -implicitDefEqProofs -dsimp only [go_sem, seval, decide_true, decide_false, h_1, h_2, h_3, h_4]) | (have h_4 := trivial))
 all_goals
  refine J9 ?_
  simp only [qj0, *, Bool.not_true, Bool.not_false, Bool.true_and, Bool.false_and, Bool.and_false, Bool.and_true]
theorem z0j {R : Z1} (hR : ExtR R) {T : Tab} {xs : List Rd} {cap : Option Nat} (hl : xs.length < 1000000000) : ∀ (ys : List Rd) (k : Nat), xs.drop k = ys -> k <= xs.length -> ∀ (v : AV) (T1 : Tab),
  Own T 1 v k (z0i ((xs.take k).map (·.k))) T1 ->
  (∀ v T1, Own T 1 v xs.length (z0i (xs.map (·.k))) T1 -> R (.exit 0) [(3, v), (7, .fz xs.length (xs.flatMap rdC) cap), (8, .i .i64 xs.length), (9, .i .i64 xs.length), (10, .b false)] [] T1) ->
  AW prog q7q R [(3, v), (7, .fz xs.length (xs.flatMap rdC) cap), (8, .i .i64 xs.length), (9, .i .i64 k)] [] T1 := by
 intro ys
 induction ys with
 | nil =>
  intro k hk hle v T1 ho h2
  have hk' := Q7 hk hle
  refine Q5 hR ?_
  unfold q6v
  obtain ⟨p1, p2, p3, p4, p5, p6⟩ := ho.form
  simp -implicitDefEqProofs -dsimp only [go_sem, seval, hk', Int.lt_irrefl, p1, p2, p3, p4, p5, p6]
  rw [hk'] at h2
  rw [List.take_of_length_le (by omega)] at ho
  exact h2 _ _ ho
 | cons y ys ih =>
  intro k hk hle v T1 ho h2
  obtain ⟨hlt, hy, hk'⟩ := U6 hk
  obtain ⟨p1, p2, p3, p4, p5, p6⟩ := ho.form
  have hc := Z5 q99 hy
  have hc5 : k * 2 + 2 <= (xs.flatMap rdC).length := by rw [O1 q99]; omega
  refine O0 (l := q7q) rfl hR ?_
  unfold q6v
  simp -implicitDefEqProofs -dsimp only [go_sem, seval, Int.ofNat_lt, hlt, Int.natCast_nonneg, Int.toNat_natCast, hc, hc5, rdC, List.cons_append, List.nil_append, p1, p2, p3, p4, p5, p6]
  refine ho.app (m := 1) (news := [.s y.k]) rfl rfl (by omega) (by omega) fun v2 T2 ho => J1 ?_
  obtain ⟨p1, p2, p3, p4, p5, p6⟩ := ho.form
  simp -implicitDefEqProofs -dsimp only [go_sem, seval, p1, p2, p3, p4, p5, p6]
  rw [N4 (by omega)]
  refine ih (k + 1) hk' hlt _ _ ?_ h2
  rw [q05 hy, List.map_append, <- qrz]
  exact ho
theorem z0k (t : Tx) (k1 k2 : Option Nat) (hl : t.rs.length < 1000000000) : PCalls prog q4v [.agg (t.cells k1 k2)] (.fz t.rs.length (z0i (t.rs.map (·.k))) none) := by
 refine K7 U3 qkb (by simp) fun T => ?_
 unfold qc8
 simp -implicitDefEqProofs -dsimp only [go_sem, seval, Tx.cells]
 refine z0j (T := T) (by repeat' (first | exact N2 _ _ | assumption | apply N1 | apply K9 | apply Q3)) hl t.rs 0 rfl (by omega) _ _ (.nil ..) (fun v T1 ho => ?_)
 obtain ⟨p1, p2, p3, p4, p5, p6⟩ := ho.form
 simp -implicitDefEqProofs -dsimp only [go_sem, seval, p1, p2, p3, p4, p5, p6]
 exact ho.fzn
theorem qy1 {R : Z1} (hR : ExtR R) {T : Tab} {xs : List Wt} {cap : Option Nat} (hl : xs.length < 1000000000) : ∀ (ys : List Wt) (k : Nat), xs.drop k = ys -> k <= xs.length -> ∀ (v : AV) (T1 : Tab),
  Own T 1 v k (z0i ((xs.take k).map (·.k))) T1 ->
  (∀ v T1, Own T 1 v xs.length (z0i (xs.map (·.k))) T1 -> R (.exit 0) [(3, v), (7, .fz xs.length (xs.flatMap wtC) cap), (8, .i .i64 xs.length), (9, .i .i64 xs.length), (10, .b false)] [] T1) ->
  AW prog q6w R [(3, v), (7, .fz xs.length (xs.flatMap wtC) cap), (8, .i .i64 xs.length), (9, .i .i64 k)] [] T1 := by
 intro ys
 induction ys with
 | nil =>
  intro k hk hle v T1 ho h2
  have hk' := Q7 hk hle
  refine Q5 hR ?_
  unfold q61
  obtain ⟨p1, p2, p3, p4, p5, p6⟩ := ho.form
  simp -implicitDefEqProofs -dsimp only [go_sem, seval, hk', Int.lt_irrefl, p1, p2, p3, p4, p5, p6]
  rw [hk'] at h2
  rw [List.take_of_length_le (by omega)] at ho
  exact h2 _ _ ho
 | cons y ys ih =>
  intro k hk hle v T1 ho h2
  obtain ⟨hlt, hy, hk'⟩ := U6 hk
  obtain ⟨p1, p2, p3, p4, p5, p6⟩ := ho.form
  have hc := Z5 q7s hy
  have hc5 : k * 3 + 3 <= (xs.flatMap wtC).length := by rw [O1 q7s]; omega
  refine O0 (l := q6w) rfl hR ?_
  unfold q61
  simp -implicitDefEqProofs -dsimp only [go_sem, seval, Int.ofNat_lt, hlt, Int.natCast_nonneg, Int.toNat_natCast, hc, hc5, wtC, List.cons_append, List.nil_append, p1, p2, p3, p4, p5, p6]
  refine ho.app (m := 1) (news := [.s y.k]) rfl rfl (by omega) (by omega) fun v2 T2 ho => J1 ?_
  obtain ⟨p1, p2, p3, p4, p5, p6⟩ := ho.form
  simp -implicitDefEqProofs -dsimp only [go_sem, seval, p1, p2, p3, p4, p5, p6]
  rw [N4 (by omega)]
  refine ih (k + 1) hk' hlt _ _ ?_ h2
  rw [q05 hy, List.map_append, <- qrz]
  exact ho
theorem qy2 (t : Tx) (k1 k2 : Option Nat) (hl : t.ws.length < 1000000000) : PCalls prog q41 [.agg (t.cells k1 k2)] (.fz t.ws.length (z0i (t.ws.map (·.k))) none) := by
 refine K7 U3 qi7 (by simp) fun T => ?_
 unfold qbh
 simp -implicitDefEqProofs -dsimp only [go_sem, seval, Tx.cells]
 refine qy1 (T := T) (by repeat' (first | exact N2 _ _ | assumption | apply N1 | apply K9 | apply Q3)) hl t.ws 0 rfl (by omega) _ _ (.nil ..) (fun v T1 ho => ?_)
 obtain ⟨p1, p2, p3, p4, p5, p6⟩ := ho.form
 simp -implicitDefEqProofs -dsimp only [go_sem, seval, p1, p2, p3, p4, p5, p6]
 exact ho.fzn
def wOk (w : Wt) : Bool := qxy w.v && !(w.g && !decide (w.v = []))
theorem z5q {R : Z1} (hR : ExtR R) {T : Tab} {xs : List Wt} {cap : Option Nat} (hl : xs.length < 1000000000) (hs : ∀ w ∈ xs, Len w.v.length) : ∀ (ys : List Wt) (k : Nat), xs.drop k = ys -> k <= xs.length ->
  (ys.all wOk = false -> R .ret [(2, .b false)] [] T) ->
  (ys.all wOk = true -> R (.exit 0) [(6, .fz xs.length (xs.flatMap wtC) cap), (7, .i .i64 xs.length), (8, .i .i64 xs.length), (9, .b false)] [] T) ->
  AW prog q62 R [(6, .fz xs.length (xs.flatMap wtC) cap), (7, .i .i64 xs.length), (8, .i .i64 k)] [] T := by
 intro ys
 induction ys with
 | nil =>
  intro k hk hle h1 h2
  have hk' := Q7 hk hle
  refine Q5 hR ?_
  unfold q8h
  simp -implicitDefEqProofs -dsimp only [go_sem, seval, hk', Int.lt_irrefl]
  rw [hk'] at h2
  exact h2 rfl
 | cons y ys ih =>
  intro k hk hle h1 h2
  obtain ⟨hlt, hy, hk'⟩ := U6 hk
  have hc := Z5 q7s hy
  have hc5 : k * 3 + 3 <= (xs.flatMap wtC).length := by rw [O1 q7s]; omega
  have hyl : Len y.v.length := hs y (List.mem_of_getElem? hy)
  have hgo : wOk y = true -> AW prog q62 R [(6, .fz xs.length (xs.flatMap wtC) cap), (7, .i .i64 xs.length), (8, .i .i64 ((k + 1 : Nat) : Int))] [] T := fun h =>
   ih (k + 1) hk' hlt (fun h' => h1 (by simp [h, h'])) (fun h' => h2 (by simp [h, h']))
  have hno : wOk y = false -> R .ret [(2, .b false)] [] T := fun h => h1 (by simp [h])
  have hws : IntKind.i64.wrap ((k : Int) + 1) = ((k + 1 : Nat) : Int) := N4 (by omega)
  refine O0 (l := q62) rfl hR ?_
  unfold q8h
  simp -implicitDefEqProofs -dsimp only [go_sem, seval, Int.ofNat_lt, hlt, Int.natCast_nonneg, Int.toNat_natCast, hc, hc5, wtC, List.cons_append, List.nil_append, ↓J0 _ _ qrv]
  refine cpn (qy0 y.v hyl) ?_
  simp -implicitDefEqProofs -dsimp only [go_sem, seval]
  refine J2 (fun h => ?_) (fun h => ?_)
  ·have hv : qxy y.v = false := by simpa using h
   simp -implicitDefEqProofs -dsimp only [go_sem, seval, h]
   exact hno (by rw [wOk, hv, Bool.false_and])
  have hv : qxy y.v = true := by simpa using h
  simp -implicitDefEqProofs -dsimp only [go_sem, seval, h]
  refine J2 (fun hg => ?_) (fun hg => ?_)
  ·simp -implicitDefEqProofs -dsimp only [go_sem, seval, h, hg]
   refine J2 (fun he => ?_) (fun he => ?_)
   ·simp -implicitDefEqProofs -dsimp only [go_sem, seval, h, he]
    have he : decide (y.v = []) = false := by simpa using he
    exact hno (by rw [wOk, hv, hg, he]; rfl)
   ·simp -implicitDefEqProofs -dsimp only [go_sem, seval, h, he, hws]
    have he : decide (y.v = []) = true := by simpa using he
    exact hgo (by rw [wOk, hv, hg, he]; rfl)
  ·simp -implicitDefEqProofs -dsimp only [go_sem, seval, h, hg, hws]
   exact hgo (by rw [wOk, hv, hg]; rfl)
theorem z5r (t : Tx) (k1 k2 : Option Nat) (hl : t.ws.length < 1000000000) (hs : ∀ w ∈ t.ws, Len w.v.length) : PCalls prog q73 [.agg (t.cells k1 k2)] (.b (t.ws.all wOk)) := by
 refine K7 U3 qnr (by simp) fun T => ?_
 unfold qe1
 simp -implicitDefEqProofs -dsimp only [go_sem, seval, Tx.cells]
 refine z5q (by repeat' (first | exact N2 _ _ | assumption | apply N1 | apply K9 | apply Q3)) hl hs t.ws 0 rfl (by omega) (fun h => ?_) (fun h => ?_) <;> simp -implicitDefEqProofs -dsimp only [go_sem, seval] <;> exact J9 (by rw [h])
def qto (l : List Bs) : List (AV × AV) := l.map fun k => (.s k, .i .i64 1)
theorem qy3 (k : Bs) : ∀ l : List Bs, qt8 .s (.s k) (qto l) = some (if k ∈ l then some (.i .i64 1) else none)
 | [] => rfl
 | a :: l => by
  have ih := qy3 k l
  simp only [qto, List.map_cons, qt8, q2v, if_true, qqv] at ih ⊢
  by_cases h : k = a
  ·simp [h]
  ·simp only [decide_eq_true_eq, h, if_false, ih, List.mem_cons, false_or]
theorem qy4 (k : Bs) : ∀ l : List Bs, k ∉ l -> qup (.s k) (.i .i64 1) (qto l) = qto (l ++ [k])
 | [], _ => rfl
 | a :: l, h => by
  simp only [List.mem_cons, not_or] at h
  have ih := qy4 k l h.2
  simp only [qto, List.map_cons, qup, qqv, List.cons_append] at ih ⊢
  simp only [decide_eq_true_eq, h.1, if_false, ih]
theorem qs0 {v : AV} (k : Bs) : ∀ l : List Bs, qt8 .s (.s k) (qup (.s k) v (qto l)) = some (some v)
 | [] => by simp [qto, qup, qt8, q2v, qqv]
 | a :: l => by
  have ih := qs0 (v := v) k l
  simp only [qto, List.map_cons, qup, qqv] at ih ⊢
  by_cases h : k = a
  ·simp [h, qt8, q2v, qqv]
  ·simp only [decide_eq_true_eq, h, if_false, qt8, q2v, if_true, qqv, ih]
def qd7 : List Bs -> List Bs -> Bool
 | _, [] => true
 | pre, k :: ks => qhd k && !decide (k ∈ pre) && qd7 (pre ++ [k]) ks
theorem zc1 {R : Z1} (hR : ExtR R) {id : Nat} {xs : List Bs} {cap : Option Nat} (hl : xs.length < 1000000000) (hs : ∀ w ∈ xs, Len w.length) : ∀ (ys : List Bs) (k : Nat), xs.drop k = ys -> k <= xs.length -> ∀ (T : Tab),
  T id = .mapo (qto (xs.take k)) ->
  (qd7 (xs.take k) ys = false -> ∀ es, R .ret [(2, .b false)] [] (T.put id (.mapo es))) ->
  (qd7 (xs.take k) ys = true -> ∀ es, R (.exit 0) [(3, .mp id), (7, .fz xs.length (z0i xs) cap), (8, .i .i64 xs.length), (9, .i .i64 xs.length), (10, .b false)] [] (T.put id (.mapo es))) ->
  AW prog qge R [(3, .mp id), (7, .fz xs.length (z0i xs) cap), (8, .i .i64 xs.length), (9, .i .i64 k)] [] T := by
 intro ys
 induction ys with
 | nil =>
  intro k hk hle T hT h1 h2
  have hk' := Q7 hk hle
  refine Q5 hR ?_
  unfold qeg
  simp -implicitDefEqProofs -dsimp only [go_sem, seval, hk', Int.lt_irrefl]
  have := h2 rfl (qto (xs.take k))
  rw [Tab.put_self hT, hk'] at this
  exact this
 | cons y ys ih =>
  intro k hk hle T hT h1 h2
  obtain ⟨hlt, hy, hk'⟩ := U6 hk
  have hyl : Len y.length := hs y (List.mem_of_getElem? hy)
  have hws : IntKind.i64.wrap ((k : Int) + 1) = ((k + 1 : Nat) : Int) := N4 (by omega)
  have hg := qy3 y (xs.take k)
  have v1 : IntKind.i64.wrap 1 = 1 := rfl
  have v2 : IntKind.i64.wrap 2 = 2 := rfl
  simp only [qd7] at h1 h2
  refine O0 (l := qge) rfl hR ?_
  unfold qeg
  simp -implicitDefEqProofs -dsimp only [go_sem, seval, Int.ofNat_lt, hlt, Int.natCast_nonneg, Int.toNat_natCast, zc0, hy]
  by_cases hm : y ∈ xs.take k
  ·rw [if_pos hm] at hg
   refine qv4 hT rfl hg (J1 ?_)
   simp -implicitDefEqProofs -dsimp only [go_sem, seval, v2]
   refine z59 hT rfl (by rw [hg]; rfl) (J1 ?_)
   simp -implicitDefEqProofs -dsimp only [go_sem, seval, ↓J0 _ _ qpo]
   refine cpn (qxz y hyl) ?_
   rw [decide_eq_true hm, Bool.not_true, Bool.and_false, Bool.false_and] at h1
   simp -implicitDefEqProofs -dsimp only [go_sem, seval]
   refine J2 (fun h => ?_) (fun h => ?_)
   ·simp -implicitDefEqProofs -dsimp only [go_sem, seval, h]
    exact h1 rfl _
   ·simp -implicitDefEqProofs -dsimp only [go_sem, seval, h]
    refine qv4 (Tab.put_same ..) rfl (qs0 y _) (J1 ?_)
    simp -implicitDefEqProofs -dsimp only [go_sem, seval, h, decide_true, decide_false]
    exact h1 rfl _
  ·rw [if_neg hm] at hg
   refine z8f hT rfl hg (J1 ?_)
   simp -implicitDefEqProofs -dsimp only [go_sem, seval, v1]
   refine z59 hT rfl (by rw [hg]; rfl) (J1 ?_)
   simp -implicitDefEqProofs -dsimp only [go_sem, seval, ↓J0 _ _ qpo]
   refine cpn (qxz y hyl) ?_
   rw [decide_eq_false hm, Bool.not_false, Bool.and_true] at h1 h2
   simp -implicitDefEqProofs -dsimp only [go_sem, seval]
   refine J2 (fun h => ?_) (fun h => ?_)
   ·have hv : qhd y = false := by simpa using h
    rw [hv, Bool.false_and] at h1
    simp -implicitDefEqProofs -dsimp only [go_sem, seval, h]
    exact h1 rfl _
   ·have hv : qhd y = true := by simpa using h
    rw [hv, Bool.true_and] at h1 h2
    simp -implicitDefEqProofs -dsimp only [go_sem, seval, h]
    refine qv4 (Tab.put_same ..) rfl (qs0 y _) (J1 ?_)
    simp -implicitDefEqProofs -dsimp only [go_sem, seval, h, decide_true, decide_false, hws]
    rw [<- q05 hy] at h1 h2
    refine ih (k + 1) hk' hlt _ (by rw [Tab.put_same, qy4 y _ hm, q05 hy]) (fun h' es => ?_) (fun h' es => ?_)
    ·rw [Tab.put_put]; exact h1 h' es
    ·rw [Tab.put_put]; exact h2 h' es
theorem z5s (xs : List Bs) (cap : Option Nat) (hl : xs.length < 1000000000) (hs : ∀ w ∈ xs, Len w.length) : PCalls prog qb5 [.fz xs.length (z0i xs) cap] (.b (qd7 [] xs)) := by
 refine K7 U3 qxp (by simp) fun T => ?_
 unfold qpj
 simp -implicitDefEqProofs -dsimp only [go_sem, seval]
 refine fun id hid => J1 ?_
 simp -implicitDefEqProofs -dsimp only [go_sem, seval]
 have hfin : ∀ (b : Bool) (es : List (AV × AV)), qd7 [] xs = b -> qta (.b b) (fun v T' => v = .b (qd7 [] xs) /\ T' = T) ((T.put id (.mapo [])).put id (.mapo es)) := fun b es hb => by
  refine q12 T (fun j => ?_) ⟨by rw [hb], rfl⟩
  rw [Tab.put_put]
  by_cases e : j = id
  ·subst e; exact .inl hid
  ·rw [Tab.put_ne _ _ e]; exact .refl _
 refine zc1 (id := id) (by repeat' (first | exact N2 _ _ | assumption | apply N1 | apply K9 | apply Q3)) hl hs xs 0 rfl (by omega) _ (by rw [Tab.put_same]; rfl) (fun h es => ?_) (fun h es => ?_)
 ·simp -implicitDefEqProofs -dsimp only [go_sem, seval]
  exact hfin _ es h
 ·simp -implicitDefEqProofs -dsimp only [go_sem, seval]
  exact hfin _ es h
def qqi (t : Tx) : Bool :=
 qj0 t.cl t.sq && !decide (8 < (t.rs.length : Int)) && !decide (8 < (t.ws.length : Int)) && !decide ((t.rs.length : Int) + t.ws.length = 0) && !(t.pl && (!decide ((t.rs.length : Int) = 0) || !decide ((t.ws.length : Int) = 1))) &&
  (qd7 [] (t.rs.map (·.k)) && qd7 [] (t.ws.map (·.k)) && t.ws.all wOk)
structure Tx.Fine (t : Tx) : Prop where
 r : t.rs.length < 1000000000
 w : t.ws.length < 1000000000
 rk : ∀ r ∈ t.rs, Len r.k.length
 wk : ∀ r ∈ t.ws, Len r.k.length
 wv : ∀ r ∈ t.ws, Len r.v.length
theorem qm1 (t : Tx) (k1 k2 : Option Nat) (hf : t.Fine) : PCalls prog q3t [.agg (t.cells k1 k2)] (.b (qqi t)) := by
 obtain ⟨cl, sq, pl, rs, ws⟩ := t
 refine K7 U3 qq2 (by simp) fun T => ?_
 have w1 : IntKind.i64.wrap ((rs.length : Int) + ws.length) = (rs.length : Int) + ws.length := q2l (by have h1 : rs.length < 1000000000 := hf.r; have h2 : ws.length < 1000000000 := hf.w; unfold I64; omega)
 have c1 := z0k ⟨cl, sq, pl, rs, ws⟩ k1 k2 hf.r
 have c2 := qy2 ⟨cl, sq, pl, rs, ws⟩ k1 k2 hf.w
 have c3 := z5r ⟨cl, sq, pl, rs, ws⟩ k1 k2 hf.w hf.wv
 have c4 := z5s (rs.map (·.k)) none (by rw [List.length_map]; exact hf.r) (by intro w hw; obtain ⟨r, hr, rfl⟩ := List.mem_map.1 hw; exact hf.rk r hr)
 have c5 := z5s (ws.map (·.k)) none (by rw [List.length_map]; exact hf.w) (by intro w hw; obtain ⟨r, hr, rfl⟩ := List.mem_map.1 hw; exact hf.wk r hr)
 rw [List.length_map] at c4 c5
 simp only [Tx.cells] at c1 c2 c3
 unfold qgy
 cases pl
 all_goals
  simp -implicitDefEqProofs -dsimp only [go_sem, seval, Tx.cells, ↓J0 _ _ G8]
  refine cpn (q2t cl sq) ?_
  rcases hid : qj0 cl sq with _ | _
 all_goals
  simp -implicitDefEqProofs -dsimp only [go_sem, seval, decide_true, decide_false, Bool.not_true, Bool.not_false]
  (first | (apply J2 <;> intro h_1 <;> simp -implicitDefEqProofs -dsimp only [go_sem, seval, w1, ↓Q1, G6, true_and, ↓J0 _ _ J4, ↓J0 _ _ J3, ↓J0 _ _ J7, ↓J0 _ _ K4, h_1]) | (refine CallK.pure (c1) (J1 ?_); simp -implicitDefEqProofs -dsimp only [go_sem, seval, w1, ↓Q1, G6, true_and, ↓J0 _ _ J4, ↓J0 _ _ J3, ↓J0 _ _ J7, ↓J0 _ _ K4]; have h_1 := trivial) | (refine CallK.pure (c2) (J1 ?_); simp -implicitDefEqProofs -dsimp only [go_sem, seval, w1, ↓Q1, G6, true_and, ↓J0 _ _ J4, ↓J0 _ _ J3, ↓J0 _ _ J7, ↓J0 _ _ K4]; have h_1 := trivial) | (refine CallK.pure (c3) (J1 ?_); simp -implicitDefEqProofs -dsimp only [go_sem, seval, w1, ↓Q1, G6, true_and, ↓J0 _ _ J4, ↓J0 _ _ J3, ↓J0 _ _ J7, ↓J0 _ _ K4]; have h_1 := trivial) | (refine CallK.pure (c4) (J1 ?_); simp -implicitDefEqProofs -dsimp only [go_sem, seval, w1, ↓Q1, G6, true_and, ↓J0 _ _ J4, ↓J0 _ _ J3, ↓J0 _ _ J7, ↓J0 _ _ K4]; have h_1 := trivial) | (refine CallK.pure (c5) (J1 ?_); simp -implicitDefEqProofs -dsimp only [go_sem, seval, w1, ↓Q1, G6, true_and, ↓J0 _ _ J4, ↓J0 _ _ J3, ↓J0 _ _ J7, ↓J0 _ _ K4]; have h_1 := trivial) | (have h_1 := trivial)) <;>
  (first | (apply J2 <;> intro h_2 <;> simp -implicitDefEqProofs -dsimp only [go_sem, seval, w1, ↓Q1, G6, true_and, ↓J0 _ _ J4, ↓J0 _ _ J3, ↓J0 _ _ J7, ↓J0 _ _ K4, h_1, h_2]) | (refine CallK.pure (c1) (J1 ?_); simp -implicitDefEqProofs -dsimp only [go_sem, seval, w1, ↓Q1, G6, true_and, ↓J0 _ _ J4, ↓J0 _ _ J3, ↓J0 _ _ J7, ↓J0 _ _ K4, h_1]; have h_2 := trivial) | (refine CallK.pure (c2) (J1 ?_); simp -implicitDefEqProofs -dsimp only [go_sem, seval, w1, ↓Q1, G6, true_and, ↓J0 _ _ J4, ↓J0 _ _ J3, ↓J0 _ _ J7, ↓J0 _ _ K4, h_1]; have h_2 := trivial) | (refine CallK.pure (c3) (J1 ?_); simp -implicitDefEqProofs -dsimp only [go_sem, seval, w1, ↓Q1, G6, true_and, ↓J0 _ _ J4, ↓J0 _ _ J3, ↓J0 _ _ J7, ↓J0 _ _ K4, h_1]; have h_2 := trivial) | (refine CallK.pure (c4) (J1 ?_); simp -implicitDefEqProofs -dsimp only [go_sem, seval, w1, ↓Q1, G6, true_and, ↓J0 _ _ J4, ↓J0 _ _ J3, ↓J0 _ _ J7, ↓J0 _ _ K4, h_1]; have h_2 := trivial) | (refine CallK.pure (c5) (J1 ?_); simp -implicitDefEqProofs -dsimp only [go_sem, seval, w1, ↓Q1, G6, true_and, ↓J0 _ _ J4, ↓J0 _ _ J3, ↓J0 _ _ J7, ↓J0 _ _ K4, h_1]; have h_2 := trivial) | (have h_2 := trivial)) <;>
  (first | (apply J2 <;> intro h_3 <;> simp -implicitDefEqProofs -dsimp only [go_sem, seval, w1, ↓Q1, G6, true_and, ↓J0 _ _ J4, ↓J0 _ _ J3, ↓J0 _ _ J7, ↓J0 _ _ K4, h_1, h_2, h_3]) | (refine CallK.pure (c1) (J1 ?_); simp -implicitDefEqProofs -dsimp only [go_sem, seval, w1, ↓Q1, G6, true_and, ↓J0 _ _ J4, ↓J0 _ _ J3, ↓J0 _ _ J7, ↓J0 _ _ K4, h_1, h_2]; have h_3 := trivial) | (refine CallK.pure (c2) (J1 ?_); simp -implicitDefEqProofs -dsimp only [go_sem, seval, w1, ↓Q1, G6, true_and, ↓J0 _ _ J4, ↓J0 _ _ J3, ↓J0 _ _ J7, ↓J0 _ _ K4, h_1, h_2]; have h_3 := trivial) | (refine CallK.pure (c3) (J1 ?_); simp -implicitDefEqProofs -dsimp only [go_sem, seval, w1, ↓Q1, G6, true_and, ↓J0 _ _ J4, ↓J0 _ _ J3, ↓J0 _ _ J7, ↓J0 _ _ K4, h_1, h_2]; have h_3 := trivial) | (refine CallK.pure (c4) (J1 ?_); simp -implicitDefEqProofs -dsimp only [go_sem, seval, w1, ↓Q1, G6, true_and, ↓J0 _ _ J4, ↓J0 _ _ J3, ↓J0 _ _ J7, ↓J0 _ _ K4, h_1, h_2]; have h_3 := trivial) | (refine CallK.pure (c5) (J1 ?_); simp -implicitDefEqProofs -dsimp only [go_sem, seval, w1, ↓Q1, G6, true_and, ↓J0 _ _ J4, ↓J0 _ _ J3, ↓J0 _ _ J7, ↓J0 _ _ K4, h_1, h_2]; have h_3 := trivial) | (have h_3 := trivial)) <;>
  (first | (apply J2 <;> intro h_4 <;> simp -implicitDefEqProofs -dsimp only [go_sem, seval, w1, ↓Q1, G6, true_and, ↓J0 _ _ J4, ↓J0 _ _ J3, ↓J0 _ _ J7, ↓J0 _ _ K4, h_1, h_2, h_3, h_4]) | (refine CallK.pure (c1) (J1 ?_); simp -implicitDefEqProofs -dsimp only [go_sem, seval, w1, ↓Q1, G6, true_and, ↓J0 _ _ J4, ↓J0 _ _ J3, ↓J0 _ _ J7, ↓J0 _ _ K4, h_1, h_2, h_3]; have h_4 := trivial) | (refine CallK.pure (c2) (J1 ?_); simp -implicitDefEqProofs -dsimp only [go_sem, seval, w1, ↓Q1, G6, true_and, ↓J0 _ _ J4, ↓J0 _ _ J3, ↓J0 _ _ J7, ↓J0 _ _ K4, h_1, h_2, h_3]; have h_4 := trivial) | (refine CallK.pure (c3) (J1 ?_); simp -implicitDefEqProofs -dsimp only [go_sem, seval, w1, ↓Q1, G6, true_and, ↓J0 _ _ J4, ↓J0 _ _ J3, ↓J0 _ _ J7, ↓J0 _ _ K4, h_1, h_2, h_3]; have h_4 := trivial) | (refine CallK.pure (c4) (J1 ?_); simp -implicitDefEqProofs -dsimp only [go_sem, seval, w1, ↓Q1, G6, true_and, ↓J0 _ _ J4, ↓J0 _ _ J3, ↓J0 _ _ J7, ↓J0 _ _ K4, h_1, h_2, h_3]; have h_4 := trivial) | (refine CallK.pure (c5) (J1 ?_); simp -implicitDefEqProofs -dsimp only [go_sem, seval, w1, ↓Q1, G6, true_and, ↓J0 _ _ J4, ↓J0 _ _ J3, ↓J0 _ _ J7, ↓J0 _ _ K4, h_1, h_2, h_3]; have h_4 := trivial) | (have h_4 := trivial)) <;>
  (first | (apply J2 <;> intro h_5 <;> simp -implicitDefEqProofs -dsimp only [go_sem, seval, w1, ↓Q1, G6, true_and, ↓J0 _ _ J4, ↓J0 _ _ J3, ↓J0 _ _ J7, ↓J0 _ _ K4, h_1, h_2, h_3, h_4, h_5]) | (refine CallK.pure (c1) (J1 ?_); simp -implicitDefEqProofs -dsimp only [go_sem, seval, w1, ↓Q1, G6, true_and, ↓J0 _ _ J4, ↓J0 _ _ J3, ↓J0 _ _ J7, ↓J0 _ _ K4, h_1, h_2, h_3, h_4]; have h_5 := trivial) | (refine CallK.pure (c2) (J1 ?_); simp -implicitDefEqProofs -dsimp only [go_sem, seval, w1, ↓Q1, G6, true_and, ↓J0 _ _ J4, ↓J0 _ _ J3, ↓J0 _ _ J7, ↓J0 _ _ K4, h_1, h_2, h_3, h_4]; have h_5 := trivial) | (refine CallK.pure (c3) (J1 ?_); simp -implicitDefEqProofs -dsimp only [go_sem, seval, w1, ↓Q1, G6, true_and, ↓J0 _ _ J4, ↓J0 _ _ J3, ↓J0 _ _ J7, ↓J0 _ _ K4, h_1, h_2, h_3, h_4]; have h_5 := trivial) | (refine CallK.pure (c4) (J1 ?_); simp -implicitDefEqProofs -dsimp only [go_sem, seval, w1, ↓Q1, G6, true_and, ↓J0 _ _ J4, ↓J0 _ _ J3, ↓J0 _ _ J7, ↓J0 _ _ K4, h_1, h_2, h_3, h_4]; have h_5 := trivial) | (refine CallK.pure (c5) (J1 ?_); simp -implicitDefEqProofs -dsimp only [go_sem, seval, w1, ↓Q1, G6, true_and, ↓J0 _ _ J4, ↓J0 _ _ J3, ↓J0 _ _ J7, ↓J0 _ _ K4, h_1, h_2, h_3, h_4]; have h_5 := trivial) | (have h_5 := trivial)) <;>
  (first | (apply J2 <;> intro h_6 <;> simp -implicitDefEqProofs -dsimp only [go_sem, seval, w1, ↓Q1, G6, true_and, ↓J0 _ _ J4, ↓J0 _ _ J3, ↓J0 _ _ J7, ↓J0 _ _ K4, h_1, h_2, h_3, h_4, h_5, h_6]) | (refine CallK.pure (c1) (J1 ?_); simp -implicitDefEqProofs -dsimp only [go_sem, seval, w1, ↓Q1, G6, true_and, ↓J0 _ _ J4, ↓J0 _ _ J3, ↓J0 _ _ J7, ↓J0 _ _ K4, h_1, h_2, h_3, h_4, h_5]; have h_6 := trivial) | (refine CallK.pure (c2) (J1 ?_); simp -implicitDefEqProofs -dsimp only [go_sem, seval, w1, ↓Q1, G6, true_and, ↓J0 _ _ J4, ↓J0 _ _ J3, ↓J0 _ _ J7, ↓J0 _ _ K4, h_1, h_2, h_3, h_4, h_5]; have h_6 := trivial) | (refine CallK.pure (c3) (J1 ?_); simp -implicitDefEqProofs -dsimp only [go_sem, seval, w1, ↓Q1, G6, true_and, ↓J0 _ _ J4, ↓J0 _ _ J3, ↓J0 _ _ J7, ↓J0 _ _ K4, h_1, h_2, h_3, h_4, h_5]; have h_6 := trivial) | (refine CallK.pure (c4) (J1 ?_); simp -implicitDefEqProofs -dsimp only [go_sem, seval, w1, ↓Q1, G6, true_and, ↓J0 _ _ J4, ↓J0 _ _ J3, ↓J0 _ _ J7, ↓J0 _ _ K4, h_1, h_2, h_3, h_4, h_5]; have h_6 := trivial) | (refine CallK.pure (c5) (J1 ?_); simp -implicitDefEqProofs -dsimp only [go_sem, seval, w1, ↓Q1, G6, true_and, ↓J0 _ _ J4, ↓J0 _ _ J3, ↓J0 _ _ J7, ↓J0 _ _ K4, h_1, h_2, h_3, h_4, h_5]; have h_6 := trivial) | (have h_6 := trivial)) <;>
  (first | (apply J2 <;> intro h_7 <;> simp -implicitDefEqProofs -dsimp only [go_sem, seval, w1, ↓Q1, G6, true_and, ↓J0 _ _ J4, ↓J0 _ _ J3, ↓J0 _ _ J7, ↓J0 _ _ K4, h_1, h_2, h_3, h_4, h_5, h_6, h_7]) | (refine CallK.pure (c1) (J1 ?_); simp -implicitDefEqProofs -dsimp only [go_sem, seval, w1, ↓Q1, G6, true_and, ↓J0 _ _ J4, ↓J0 _ _ J3, ↓J0 _ _ J7, ↓J0 _ _ K4, h_1, h_2, h_3, h_4, h_5, h_6]; have h_7 := trivial) | (refine CallK.pure (c2) (J1 ?_); simp -implicitDefEqProofs -dsimp only [go_sem, seval, w1, ↓Q1, G6, true_and, ↓J0 _ _ J4, ↓J0 _ _ J3, ↓J0 _ _ J7, ↓J0 _ _ K4, h_1, h_2, h_3, h_4, h_5, h_6]; have h_7 := trivial) | (refine CallK.pure (c3) (J1 ?_); simp -implicitDefEqProofs -dsimp only [go_sem, seval, w1, ↓Q1, G6, true_and, ↓J0 _ _ J4, ↓J0 _ _ J3, ↓J0 _ _ J7, ↓J0 _ _ K4, h_1, h_2, h_3, h_4, h_5, h_6]; have h_7 := trivial) | (refine CallK.pure (c4) (J1 ?_); simp -implicitDefEqProofs -dsimp only [go_sem, seval, w1, ↓Q1, G6, true_and, ↓J0 _ _ J4, ↓J0 _ _ J3, ↓J0 _ _ J7, ↓J0 _ _ K4, h_1, h_2, h_3, h_4, h_5, h_6]; have h_7 := trivial) | (refine CallK.pure (c5) (J1 ?_); simp -implicitDefEqProofs -dsimp only [go_sem, seval, w1, ↓Q1, G6, true_and, ↓J0 _ _ J4, ↓J0 _ _ J3, ↓J0 _ _ J7, ↓J0 _ _ K4, h_1, h_2, h_3, h_4, h_5, h_6]; have h_7 := trivial) | (have h_7 := trivial)) <;>
  (first | (apply J2 <;> intro h_8 <;> simp -implicitDefEqProofs -dsimp only [go_sem, seval, w1, ↓Q1, G6, true_and, ↓J0 _ _ J4, ↓J0 _ _ J3, ↓J0 _ _ J7, ↓J0 _ _ K4, h_1, h_2, h_3, h_4, h_5, h_6, h_7, h_8]) | (refine CallK.pure (c1) (J1 ?_); simp -implicitDefEqProofs -dsimp only [go_sem, seval, w1, ↓Q1, G6, true_and, ↓J0 _ _ J4, ↓J0 _ _ J3, ↓J0 _ _ J7, ↓J0 _ _ K4, h_1, h_2, h_3, h_4, h_5, h_6, h_7]; have h_8 := trivial) | (refine CallK.pure (c2) (J1 ?_); simp -implicitDefEqProofs -dsimp only [go_sem, seval, w1, ↓Q1, G6, true_and, ↓J0 _ _ J4, ↓J0 _ _ J3, ↓J0 _ _ J7, ↓J0 _ _ K4, h_1, h_2, h_3, h_4, h_5, h_6, h_7]; have h_8 := trivial) | (refine CallK.pure (c3) (J1 ?_); simp -implicitDefEqProofs -dsimp only [go_sem, seval, w1, ↓Q1, G6, true_and, ↓J0 _ _ J4, ↓J0 _ _ J3, ↓J0 _ _ J7, ↓J0 _ _ K4, h_1, h_2, h_3, h_4, h_5, h_6, h_7]; have h_8 := trivial) | (refine CallK.pure (c4) (J1 ?_); simp -implicitDefEqProofs -dsimp only [go_sem, seval, w1, ↓Q1, G6, true_and, ↓J0 _ _ J4, ↓J0 _ _ J3, ↓J0 _ _ J7, ↓J0 _ _ K4, h_1, h_2, h_3, h_4, h_5, h_6, h_7]; have h_8 := trivial) | (refine CallK.pure (c5) (J1 ?_); simp -implicitDefEqProofs -dsimp only [go_sem, seval, w1, ↓Q1, G6, true_and, ↓J0 _ _ J4, ↓J0 _ _ J3, ↓J0 _ _ J7, ↓J0 _ _ K4, h_1, h_2, h_3, h_4, h_5, h_6, h_7]; have h_8 := trivial) | (have h_8 := trivial)) <;>
  (first | (apply J2 <;> intro h_9 <;> simp -implicitDefEqProofs -dsimp only [go_sem, seval, w1, ↓Q1, G6, true_and, ↓J0 _ _ J4, ↓J0 _ _ J3, ↓J0 _ _ J7, ↓J0 _ _ K4, h_1, h_2, h_3, h_4, h_5, h_6, h_7, h_8, h_9]) | (refine CallK.pure (c1) (J1 ?_); simp -implicitDefEqProofs -dsimp only [go_sem, seval, w1, ↓Q1, G6, true_and, ↓J0 _ _ J4, ↓J0 _ _ J3, ↓J0 _ _ J7, ↓J0 _ _ K4, h_1, h_2, h_3, h_4, h_5, h_6, h_7, h_8]; have h_9 := trivial) | (refine CallK.pure (c2) (J1 ?_); simp -implicitDefEqProofs -dsimp only [go_sem, seval, w1, ↓Q1, G6, true_and, ↓J0 _ _ J4, ↓J0 _ _ J3, ↓J0 _ _ J7, ↓J0 _ _ K4, h_1, h_2, h_3, h_4, h_5, h_6, h_7, h_8]; have h_9 := trivial) | (refine CallK.pure (c3) (J1 ?_); simp -implicitDefEqProofs -dsimp only [go_sem, seval, w1, ↓Q1, G6, true_and, ↓J0 _ _ J4, ↓J0 _ _ J3, ↓J0 _ _ J7, ↓J0 _ _ K4, h_1, h_2, h_3, h_4, h_5, h_6, h_7, h_8]; have h_9 := trivial) | (refine CallK.pure (c4) (J1 ?_); simp -implicitDefEqProofs -dsimp only [go_sem, seval, w1, ↓Q1, G6, true_and, ↓J0 _ _ J4, ↓J0 _ _ J3, ↓J0 _ _ J7, ↓J0 _ _ K4, h_1, h_2, h_3, h_4, h_5, h_6, h_7, h_8]; have h_9 := trivial) | (refine CallK.pure (c5) (J1 ?_); simp -implicitDefEqProofs -dsimp only [go_sem, seval, w1, ↓Q1, G6, true_and, ↓J0 _ _ J4, ↓J0 _ _ J3, ↓J0 _ _ J7, ↓J0 _ _ K4, h_1, h_2, h_3, h_4, h_5, h_6, h_7, h_8]; have h_9 := trivial) | (have h_9 := trivial)) <;>
  (first | (apply J2 <;> intro h_10 <;> simp -implicitDefEqProofs -dsimp only [go_sem, seval, w1, ↓Q1, G6, true_and, ↓J0 _ _ J4, ↓J0 _ _ J3, ↓J0 _ _ J7, ↓J0 _ _ K4, h_1, h_2, h_3, h_4, h_5, h_6, h_7, h_8, h_9, h_10]) | (refine CallK.pure (c1) (J1 ?_); simp -implicitDefEqProofs -dsimp only [go_sem, seval, w1, ↓Q1, G6, true_and, ↓J0 _ _ J4, ↓J0 _ _ J3, ↓J0 _ _ J7, ↓J0 _ _ K4, h_1, h_2, h_3, h_4, h_5, h_6, h_7, h_8, h_9]; have h_10 := trivial) | (refine CallK.pure (c2) (J1 ?_); simp -implicitDefEqProofs -dsimp only [go_sem, seval, w1, ↓Q1, G6, true_and, ↓J0 _ _ J4, ↓J0 _ _ J3, ↓J0 _ _ J7, ↓J0 _ _ K4, h_1, h_2, h_3, h_4, h_5, h_6, h_7, h_8, h_9]; have h_10 := trivial) | (refine CallK.pure (c3) (J1 ?_); simp -implicitDefEqProofs -dsimp only [go_sem, seval, w1, ↓Q1, G6, true_and, ↓J0 _ _ J4, ↓J0 _ _ J3, ↓J0 _ _ J7, ↓J0 _ _ K4, h_1, h_2, h_3, h_4, h_5, h_6, h_7, h_8, h_9]; have h_10 := trivial) | (refine CallK.pure (c4) (J1 ?_); simp -implicitDefEqProofs -dsimp only [go_sem, seval, w1, ↓Q1, G6, true_and, ↓J0 _ _ J4, ↓J0 _ _ J3, ↓J0 _ _ J7, ↓J0 _ _ K4, h_1, h_2, h_3, h_4, h_5, h_6, h_7, h_8, h_9]; have h_10 := trivial) | (refine CallK.pure (c5) (J1 ?_); simp -implicitDefEqProofs -dsimp only [go_sem, seval, w1, ↓Q1, G6, true_and, ↓J0 _ _ J4, ↓J0 _ _ J3, ↓J0 _ _ J7, ↓J0 _ _ K4, h_1, h_2, h_3, h_4, h_5, h_6, h_7, h_8, h_9]; have h_10 := trivial) | (have h_10 := trivial)) <;>
  (first | (apply J2 <;> intro h_11 <;> simp -implicitDefEqProofs -dsimp only [go_sem, seval, w1, ↓Q1, G6, true_and, ↓J0 _ _ J4, ↓J0 _ _ J3, ↓J0 _ _ J7, ↓J0 _ _ K4, h_1, h_2, h_3, h_4, h_5, h_6, h_7, h_8, h_9, h_10, h_11]) | (refine CallK.pure (c1) (J1 ?_); simp -implicitDefEqProofs -dsimp only [go_sem, seval, w1, ↓Q1, G6, true_and, ↓J0 _ _ J4, ↓J0 _ _ J3, ↓J0 _ _ J7, ↓J0 _ _ K4, h_1, h_2, h_3, h_4, h_5, h_6, h_7, h_8, h_9, h_10]; have h_11 := trivial) | (refine CallK.pure (c2) (J1 ?_); simp -implicitDefEqProofs -dsimp only [go_sem, seval, w1, ↓Q1, G6, true_and, ↓J0 _ _ J4, ↓J0 _ _ J3, ↓J0 _ _ J7, ↓J0 _ _ K4, h_1, h_2, h_3, h_4, h_5, h_6, h_7, h_8, h_9, h_10]; have h_11 := trivial) | (refine CallK.pure (c3) (J1 ?_); simp -implicitDefEqProofs -dsimp only [go_sem, seval, w1, ↓Q1, G6, true_and, ↓J0 _ _ J4, ↓J0 _ _ J3, ↓J0 _ _ J7, ↓J0 _ _ K4, h_1, h_2, h_3, h_4, h_5, h_6, h_7, h_8, h_9, h_10]; have h_11 := trivial) | (refine CallK.pure (c4) (J1 ?_); simp -implicitDefEqProofs -dsimp only [go_sem, seval, w1, ↓Q1, G6, true_and, ↓J0 _ _ J4, ↓J0 _ _ J3, ↓J0 _ _ J7, ↓J0 _ _ K4, h_1, h_2, h_3, h_4, h_5, h_6, h_7, h_8, h_9, h_10]; have h_11 := trivial) | (refine CallK.pure (c5) (J1 ?_); simp -implicitDefEqProofs -dsimp only [go_sem, seval, w1, ↓Q1, G6, true_and, ↓J0 _ _ J4, ↓J0 _ _ J3, ↓J0 _ _ J7, ↓J0 _ _ K4, h_1, h_2, h_3, h_4, h_5, h_6, h_7, h_8, h_9, h_10]; have h_11 := trivial) | (have h_11 := trivial)) <;>
  (first | (apply J2 <;> intro h_12 <;> simp -implicitDefEqProofs -dsimp only [go_sem, seval, w1, ↓Q1, G6, true_and, ↓J0 _ _ J4, ↓J0 _ _ J3, ↓J0 _ _ J7, ↓J0 _ _ K4, h_1, h_2, h_3, h_4, h_5, h_6, h_7, h_8, h_9, h_10, h_11, h_12]) | (refine CallK.pure (c1) (J1 ?_); simp -implicitDefEqProofs -dsimp only [go_sem, seval, w1, ↓Q1, G6, true_and, ↓J0 _ _ J4, ↓J0 _ _ J3, ↓J0 _ _ J7, ↓J0 _ _ K4, h_1, h_2, h_3, h_4, h_5, h_6, h_7, h_8, h_9, h_10, h_11]; have h_12 := trivial) | (refine CallK.pure (c2) (J1 ?_); simp -implicitDefEqProofs -dsimp only [go_sem, seval, w1, ↓Q1, G6, true_and, ↓J0 _ _ J4, ↓J0 _ _ J3, ↓J0 _ _ J7, ↓J0 _ _ K4, h_1, h_2, h_3, h_4, h_5, h_6, h_7, h_8, h_9, h_10, h_11]; have h_12 := trivial) | (refine CallK.pure (c3) (J1 ?_); simp -implicitDefEqProofs -dsimp only [go_sem, seval, w1, ↓Q1, G6, true_and, ↓J0 _ _ J4, ↓J0 _ _ J3, ↓J0 _ _ J7, ↓J0 _ _ K4, h_1, h_2, h_3, h_4, h_5, h_6, h_7, h_8, h_9, h_10, h_11]; have h_12 := trivial) | (refine CallK.pure (c4) (J1 ?_); simp -implicitDefEqProofs -dsimp only [go_sem, seval, w1, ↓Q1, G6, true_and, ↓J0 _ _ J4, ↓J0 _ _ J3, ↓J0 _ _ J7, ↓J0 _ _ K4, h_1, h_2, h_3, h_4, h_5, h_6, h_7, h_8, h_9, h_10, h_11]; have h_12 := trivial) | (refine CallK.pure (c5) (J1 ?_); simp -implicitDefEqProofs -dsimp only [go_sem, seval, w1, ↓Q1, G6, true_and, ↓J0 _ _ J4, ↓J0 _ _ J3, ↓J0 _ _ J7, ↓J0 _ _ K4, h_1, h_2, h_3, h_4, h_5, h_6, h_7, h_8, h_9, h_10, h_11]; have h_12 := trivial) | (have h_12 := trivial)) <;>
  (first | (apply J2 <;> intro h_13 <;> simp -implicitDefEqProofs -dsimp only [go_sem, seval, w1, ↓Q1, G6, true_and, ↓J0 _ _ J4, ↓J0 _ _ J3, ↓J0 _ _ J7, ↓J0 _ _ K4, h_1, h_2, h_3, h_4, h_5, h_6, h_7, h_8, h_9, h_10, h_11, h_12, h_13]) | (refine CallK.pure (c1) (J1 ?_); simp -implicitDefEqProofs -dsimp only [go_sem, seval, w1, ↓Q1, G6, true_and, ↓J0 _ _ J4, ↓J0 _ _ J3, ↓J0 _ _ J7, ↓J0 _ _ K4, h_1, h_2, h_3, h_4, h_5, h_6, h_7, h_8, h_9, h_10, h_11, h_12]; have h_13 := trivial) | (refine CallK.pure (c2) (J1 ?_); simp -implicitDefEqProofs -dsimp only [go_sem, seval, w1, ↓Q1, G6, true_and, ↓J0 _ _ J4, ↓J0 _ _ J3, ↓J0 _ _ J7, ↓J0 _ _ K4, h_1, h_2, h_3, h_4, h_5, h_6, h_7, h_8, h_9, h_10, h_11, h_12]; have h_13 := trivial) | (refine CallK.pure (c3) (J1 ?_); simp -implicitDefEqProofs -dsimp only [go_sem, seval, w1, ↓Q1, G6, true_and, ↓J0 _ _ J4, ↓J0 _ _ J3, ↓J0 _ _ J7, ↓J0 _ _ K4, h_1, h_2, h_3, h_4, h_5, h_6, h_7, h_8, h_9, h_10, h_11, h_12]; have h_13 := trivial) | (refine CallK.pure (c4) (J1 ?_); simp -implicitDefEqProofs -dsimp only [go_sem, seval, w1, ↓Q1, G6, true_and, ↓J0 _ _ J4, ↓J0 _ _ J3, ↓J0 _ _ J7, ↓J0 _ _ K4, h_1, h_2, h_3, h_4, h_5, h_6, h_7, h_8, h_9, h_10, h_11, h_12]; have h_13 := trivial) | (refine CallK.pure (c5) (J1 ?_); simp -implicitDefEqProofs -dsimp only [go_sem, seval, w1, ↓Q1, G6, true_and, ↓J0 _ _ J4, ↓J0 _ _ J3, ↓J0 _ _ J7, ↓J0 _ _ K4, h_1, h_2, h_3, h_4, h_5, h_6, h_7, h_8, h_9, h_10, h_11, h_12]; have h_13 := trivial) | (have h_13 := trivial)) <;>
  (first | (apply J2 <;> intro h_14 <;> simp -implicitDefEqProofs -dsimp only [go_sem, seval, w1, ↓Q1, G6, true_and, ↓J0 _ _ J4, ↓J0 _ _ J3, ↓J0 _ _ J7, ↓J0 _ _ K4, h_1, h_2, h_3, h_4, h_5, h_6, h_7, h_8, h_9, h_10, h_11, h_12, h_13, h_14]) | (refine CallK.pure (c1) (J1 ?_); simp -implicitDefEqProofs -dsimp only [go_sem, seval, w1, ↓Q1, G6, true_and, ↓J0 _ _ J4, ↓J0 _ _ J3, ↓J0 _ _ J7, ↓J0 _ _ K4, h_1, h_2, h_3, h_4, h_5, h_6, h_7, h_8, h_9, h_10, h_11, h_12, h_13]; have h_14 := trivial) | (refine CallK.pure (c2) (J1 ?_); simp -implicitDefEqProofs -dsimp only [go_sem, seval, w1, ↓Q1, G6, true_and, ↓J0 _ _ J4, ↓J0 _ _ J3, ↓J0 _ _ J7, ↓J0 _ _ K4, h_1, h_2, h_3, h_4, h_5, h_6, h_7, h_8, h_9, h_10, h_11, h_12, h_13]; have h_14 := trivial) | (refine CallK.pure (c3) (J1 ?_); simp -implicitDefEqProofs -dsimp only [go_sem, seval, w1, ↓Q1, G6, true_and, ↓J0 _ _ J4, ↓J0 _ _ J3, ↓J0 _ _ J7, ↓J0 _ _ K4, h_1, h_2, h_3, h_4, h_5, h_6, h_7, h_8, h_9, h_10, h_11, h_12, h_13]; have h_14 := trivial) | (refine CallK.pure (c4) (J1 ?_); simp -implicitDefEqProofs -dsimp only [go_sem, seval, w1, ↓Q1, G6, true_and, ↓J0 _ _ J4, ↓J0 _ _ J3, ↓J0 _ _ J7, ↓J0 _ _ K4, h_1, h_2, h_3, h_4, h_5, h_6, h_7, h_8, h_9, h_10, h_11, h_12, h_13]; have h_14 := trivial) | (refine CallK.pure (c5) (J1 ?_); simp -implicitDefEqProofs -dsimp only [go_sem, seval, w1, ↓Q1, G6, true_and, ↓J0 _ _ J4, ↓J0 _ _ J3, ↓J0 _ _ J7, ↓J0 _ _ K4, h_1, h_2, h_3, h_4, h_5, h_6, h_7, h_8, h_9, h_10, h_11, h_12, h_13]; have h_14 := trivial) | (have h_14 := trivial))
  all_goals (
   refine J9 ?_
   simp only [qqi, *, Bool.not_true, Bool.not_false, Bool.true_and, Bool.false_and, Bool.and_false, Bool.and_true, Bool.or_true, Bool.true_or, Bool.false_or, Bool.or_false])
end Go.Aw
