import Derived.Test.YtchdmofoaokpjaaGreatDoorM30N17E12N
namespace Go.Aw
open Go
open Go.Proofs.Tryz (prog)
set_option linter.all false
set_option maxHeartbeats 4000000
abbrev Bs := List UInt8
structure Rd where
 k : Bs
 n : Int
structure Wt where
 k : Bs
 v : Bs
 g : Bool
structure Tx where
 cl : Int
 sq : Int
 pl : Bool
 rs : List Rd
 ws : List Wt
def rdC (r : Rd) : List AV := [.s r.k, .i .u64 r.n]
def wtC (w : Wt) : List AV := [.s w.k, .s w.v, .b w.g]
theorem qnc (r : Rd) : (rdC r).length = 2 := rfl
theorem qg1 (r : Wt) : (wtC r).length = 3 := rfl
def Tx.cells (t : Tx) (k1 k2 : Option Nat) : List AV := [.i .i64 t.cl, .i .u64 t.sq, .b t.pl, .fz t.rs.length (t.rs.flatMap rdC) k1, .fz t.ws.length (t.ws.flatMap wtC) k2]
def qra (l : List Bs) : List AV := l.map .s
theorem z2s (l : List Bs) (k : Nat) : ((qra l).drop k)[0]? = (l[k]?).map .s := by simp [qra]
theorem qjv (l m : List Bs) : qra l ++ qra m = qra (l ++ m) := by simp [qra]
def qkq (c s : Int) : Bool := decide (0 <= c) && decide (c < 6) && decide (0 < s)
theorem q1f (c s : Int) : PCalls prog q2z [.agg [.i .i64 c, .i .u64 s]] (.b (qkq c s)) := by
 refine K6 U1 qjg (by simp) fun T => ?_
 unfold qbi
 simp -implicitDefEqProofs -dsimp only [go_sem, seval, decide_true, decide_false]
 (first | (apply K0 <;> intro h_1 <;> simp -implicitDefEqProofs -dsimp only [go_sem, seval, decide_true, decide_false, h_1]) | (have h_1 := trivial)) <;>
  (first | (apply K0 <;> intro h_2 <;> simp -implicitDefEqProofs -dsimp only [go_sem, seval, decide_true, decide_false, h_1, h_2]) | (have h_2 := trivial)) <;>
  (first | (apply K0 <;> intro h_3 <;> simp -implicitDefEqProofs -dsimp only [go_sem, seval, decide_true, decide_false, h_1, h_2, h_3]) | (have h_3 := trivial)) <;>
  (first | (apply K0 <;> intro h_4 <;> simp -implicitDefEqProofs -dsimp only [go_sem, seval, decide_true, decide_false, h_1, h_2, h_3, h_4]) | (have h_4 := trivial))
 all_goals
  refine J9 ?_
  simp only [qkq, *, Bool.not_true, Bool.not_false, Bool.true_and, Bool.false_and, Bool.and_false, Bool.and_true]
theorem qrb {R : q02} (hR : ExtR R) {T : Tab} {xs : List Rd} {cap : Option Nat} (hl : xs.length < 1000000000) : ∀ (ys : List Rd) (k : Nat), xs.drop k = ys -> k <= xs.length -> ∀ (v : AV) (T1 : Tab),
  Own T 1 v k (qra ((xs.take k).map (·.k))) T1 ->
  (∀ v T1, Own T 1 v xs.length (qra (xs.map (·.k))) T1 -> R (.exit 0) [(3, v), (7, .fz xs.length (xs.flatMap rdC) cap), (8, .i .i64 xs.length), (9, .i .i64 xs.length), (10, .b false)] [] T1) ->
  AW prog q49 R [(3, v), (7, .fz xs.length (xs.flatMap rdC) cap), (8, .i .i64 xs.length), (9, .i .i64 k)] [] T1 := by
 intro ys
 induction ys with
 | nil =>
  intro k hk hle v T1 ho h2
  have hk' := G7 hk hle
  refine Y2 hR ?_
  unfold q3v
  obtain ⟨p1, p2, p3, p4, p5, p6⟩ := ho.form
  simp -implicitDefEqProofs -dsimp only [go_sem, seval, hk', Int.lt_irrefl, p1, p2, p3, p4, p5, p6]
  rw [hk'] at h2
  rw [List.take_of_length_le (by omega)] at ho
  exact h2 _ _ ho
 | cons y ys ih =>
  intro k hk hle v T1 ho h2
  obtain ⟨hlt, hy, hk'⟩ := I2 hk
  obtain ⟨p1, p2, p3, p4, p5, p6⟩ := ho.form
  have hc := q16 qnc hy
  have hc5 : k * 2 + 2 <= (xs.flatMap rdC).length := by rw [U7 qnc]; omega
  refine Q8 (l := q49) rfl hR ?_
  unfold q3v
  simp -implicitDefEqProofs -dsimp only [go_sem, seval, Int.ofNat_lt, hlt, Int.natCast_nonneg, Int.toNat_natCast, hc, hc5, rdC, List.cons_append, List.nil_append, p1, p2, p3, p4, p5, p6]
  refine ho.app (m := 1) (news := [.s y.k]) rfl rfl (by omega) (by omega) fun v2 T2 ho => J1 ?_
  obtain ⟨p1, p2, p3, p4, p5, p6⟩ := ho.form
  simp -implicitDefEqProofs -dsimp only [go_sem, seval, p1, p2, p3, p4, p5, p6]
  rw [Q9 (by omega)]
  refine ih (k + 1) hk' hlt _ _ ?_ h2
  rw [q89 hy, List.map_append, <- qjv]
  exact ho
theorem qrc (t : Tx) (k1 k2 : Option Nat) (hl : t.rs.length < 1000000000) : PCalls prog q2t [.agg (t.cells k1 k2)] (.fz t.rs.length (qra (t.rs.map (·.k))) none) := by
 refine K6 U1 qcy (by simp) fun T => ?_
 unfold q7b
 simp -implicitDefEqProofs -dsimp only [go_sem, seval, Tx.cells]
 refine qrb (T := T) (by repeat' (first | exact Q2 _ _ | assumption | apply Q1 | apply N7 | apply Z0)) hl t.rs 0 rfl (by omega) _ _ (.nil ..) (fun v T1 ho => ?_)
 obtain ⟨p1, p2, p3, p4, p5, p6⟩ := ho.form
 simp -implicitDefEqProofs -dsimp only [go_sem, seval, p1, p2, p3, p4, p5, p6]
 exact ho.fzn
theorem qp9 {R : q02} (hR : ExtR R) {T : Tab} {xs : List Wt} {cap : Option Nat} (hl : xs.length < 1000000000) : ∀ (ys : List Wt) (k : Nat), xs.drop k = ys -> k <= xs.length -> ∀ (v : AV) (T1 : Tab),
  Own T 1 v k (qra ((xs.take k).map (·.k))) T1 ->
  (∀ v T1, Own T 1 v xs.length (qra (xs.map (·.k))) T1 -> R (.exit 0) [(3, v), (7, .fz xs.length (xs.flatMap wtC) cap), (8, .i .i64 xs.length), (9, .i .i64 xs.length), (10, .b false)] [] T1) ->
  AW prog q3w R [(3, v), (7, .fz xs.length (xs.flatMap wtC) cap), (8, .i .i64 xs.length), (9, .i .i64 k)] [] T1 := by
 intro ys
 induction ys with
 | nil =>
  intro k hk hle v T1 ho h2
  have hk' := G7 hk hle
  refine Y2 hR ?_
  unfold q3j
  obtain ⟨p1, p2, p3, p4, p5, p6⟩ := ho.form
  simp -implicitDefEqProofs -dsimp only [go_sem, seval, hk', Int.lt_irrefl, p1, p2, p3, p4, p5, p6]
  rw [hk'] at h2
  rw [List.take_of_length_le (by omega)] at ho
  exact h2 _ _ ho
 | cons y ys ih =>
  intro k hk hle v T1 ho h2
  obtain ⟨hlt, hy, hk'⟩ := I2 hk
  obtain ⟨p1, p2, p3, p4, p5, p6⟩ := ho.form
  have hc := q16 qg1 hy
  have hc5 : k * 3 + 3 <= (xs.flatMap wtC).length := by rw [U7 qg1]; omega
  refine Q8 (l := q3w) rfl hR ?_
  unfold q3j
  simp -implicitDefEqProofs -dsimp only [go_sem, seval, Int.ofNat_lt, hlt, Int.natCast_nonneg, Int.toNat_natCast, hc, hc5, wtC, List.cons_append, List.nil_append, p1, p2, p3, p4, p5, p6]
  refine ho.app (m := 1) (news := [.s y.k]) rfl rfl (by omega) (by omega) fun v2 T2 ho => J1 ?_
  obtain ⟨p1, p2, p3, p4, p5, p6⟩ := ho.form
  simp -implicitDefEqProofs -dsimp only [go_sem, seval, p1, p2, p3, p4, p5, p6]
  rw [Q9 (by omega)]
  refine ih (k + 1) hk' hlt _ _ ?_ h2
  rw [q89 hy, List.map_append, <- qjv]
  exact ho
theorem qpa (t : Tx) (k1 k2 : Option Nat) (hl : t.ws.length < 1000000000) : PCalls prog q2e [.agg (t.cells k1 k2)] (.fz t.ws.length (qra (t.ws.map (·.k))) none) := by
 refine K6 U1 qbr (by simp) fun T => ?_
 unfold q6y
 simp -implicitDefEqProofs -dsimp only [go_sem, seval, Tx.cells]
 refine qp9 (T := T) (by repeat' (first | exact Q2 _ _ | assumption | apply Q1 | apply N7 | apply Z0)) hl t.ws 0 rfl (by omega) _ _ (.nil ..) (fun v T1 ho => ?_)
 obtain ⟨p1, p2, p3, p4, p5, p6⟩ := ho.form
 simp -implicitDefEqProofs -dsimp only [go_sem, seval, p1, p2, p3, p4, p5, p6]
 exact ho.fzn
def wOk (w : Wt) : Bool := qwt w.v && !(w.g && !decide (w.v = []))
theorem qwu {R : q02} (hR : ExtR R) {T : Tab} {xs : List Wt} {cap : Option Nat} (hl : xs.length < 1000000000) (hs : ∀ w ∈ xs, Len w.v.length) : ∀ (ys : List Wt) (k : Nat), xs.drop k = ys -> k <= xs.length ->
  (ys.all wOk = false -> R .ret [(2, .b false)] [] T) ->
  (ys.all wOk = true -> R (.exit 0) [(6, .fz xs.length (xs.flatMap wtC) cap), (7, .i .i64 xs.length), (8, .i .i64 xs.length), (9, .b false)] [] T) ->
  AW prog q3k R [(6, .fz xs.length (xs.flatMap wtC) cap), (7, .i .i64 xs.length), (8, .i .i64 k)] [] T := by
 intro ys
 induction ys with
 | nil =>
  intro k hk hle h1 h2
  have hk' := G7 hk hle
  refine Y2 hR ?_
  unfold q4l
  simp -implicitDefEqProofs -dsimp only [go_sem, seval, hk', Int.lt_irrefl]
  rw [hk'] at h2
  exact h2 rfl
 | cons y ys ih =>
  intro k hk hle h1 h2
  obtain ⟨hlt, hy, hk'⟩ := I2 hk
  have hc := q16 qg1 hy
  have hc5 : k * 3 + 3 <= (xs.flatMap wtC).length := by rw [U7 qg1]; omega
  have hyl : Len y.v.length := hs y (List.mem_of_getElem? hy)
  have hgo : wOk y = true -> AW prog q3k R [(6, .fz xs.length (xs.flatMap wtC) cap), (7, .i .i64 xs.length), (8, .i .i64 ((k + 1 : Nat) : Int))] [] T := fun h =>
   ih (k + 1) hk' hlt (fun h' => h1 (by simp [h, h'])) (fun h' => h2 (by simp [h, h']))
  have hno : wOk y = false -> R .ret [(2, .b false)] [] T := fun h => h1 (by simp [h])
  have hws : IntKind.i64.wrap ((k : Int) + 1) = ((k + 1 : Nat) : Int) := Q9 (by omega)
  refine Q8 (l := q3k) rfl hR ?_
  unfold q4l
  simp -implicitDefEqProofs -dsimp only [go_sem, seval, Int.ofNat_lt, hlt, Int.natCast_nonneg, Int.toNat_natCast, hc, hc5, wtC, List.cons_append, List.nil_append, ↓J0 _ _ qjt]
  refine cpn (qp8 y.v hyl) ?_
  simp -implicitDefEqProofs -dsimp only [go_sem, seval]
  refine K0 (fun h => ?_) (fun h => ?_)
  ·have hv : qwt y.v = false := by simpa using h
   simp -implicitDefEqProofs -dsimp only [go_sem, seval, h]
   exact hno (by rw [wOk, hv, Bool.false_and])
  have hv : qwt y.v = true := by simpa using h
  simp -implicitDefEqProofs -dsimp only [go_sem, seval, h]
  refine K0 (fun hg => ?_) (fun hg => ?_)
  ·simp -implicitDefEqProofs -dsimp only [go_sem, seval, h, hg]
   refine K0 (fun he => ?_) (fun he => ?_)
   ·simp -implicitDefEqProofs -dsimp only [go_sem, seval, h, he]
    have he : decide (y.v = []) = false := by simpa using he
    exact hno (by rw [wOk, hv, hg, he]; rfl)
   ·simp -implicitDefEqProofs -dsimp only [go_sem, seval, h, he, hws]
    have he : decide (y.v = []) = true := by simpa using he
    exact hgo (by rw [wOk, hv, hg, he]; rfl)
  ·simp -implicitDefEqProofs -dsimp only [go_sem, seval, h, hg, hws]
   exact hgo (by rw [wOk, hv, hg]; rfl)
theorem qwv (t : Tx) (k1 k2 : Option Nat) (hl : t.ws.length < 1000000000) (hs : ∀ w ∈ t.ws, Len w.v.length) : PCalls prog q40 [.agg (t.cells k1 k2)] (.b (t.ws.all wOk)) := by
 refine K6 U1 qf5 (by simp) fun T => ?_
 unfold q8i
 simp -implicitDefEqProofs -dsimp only [go_sem, seval, Tx.cells]
 refine qwu (by repeat' (first | exact Q2 _ _ | assumption | apply Q1 | apply N7 | apply Z0)) hl hs t.ws 0 rfl (by omega) (fun h => ?_) (fun h => ?_) <;> simp -implicitDefEqProofs -dsimp only [go_sem, seval] <;> exact J9 (by rw [h])
def ql7 (l : List Bs) : List (AV × AV) := l.map fun k => (.s k, .i .i64 1)
theorem qpb (k : Bs) : ∀ l : List Bs, qko .s (.s k) (ql7 l) = some (if k ∈ l then some (.i .i64 1) else none)
 | [] => rfl
 | a :: l => by
  have ih := qpb k l
  simp only [ql7, List.map_cons, qko, q1i, if_true, qik] at ih ⊢
  by_cases h : k = a
  ·simp [h]
  ·simp only [decide_eq_true_eq, h, if_false, ih, List.mem_cons, false_or]
theorem qpc (k : Bs) : ∀ l : List Bs, k ∉ l -> qm8 (.s k) (.i .i64 1) (ql7 l) = ql7 (l ++ [k])
 | [], _ => rfl
 | a :: l, h => by
  simp only [List.mem_cons, not_or] at h
  have ih := qpc k l h.2
  simp only [ql7, List.map_cons, qm8, qik, List.cons_append] at ih ⊢
  simp only [decide_eq_true_eq, h.1, if_false, ih]
theorem qjw {v : AV} (k : Bs) : ∀ l : List Bs, qko .s (.s k) (qm8 (.s k) v (ql7 l)) = some (some v)
 | [] => by simp [ql7, qm8, qko, q1i, qik]
 | a :: l => by
  have ih := qjw (v := v) k l
  simp only [ql7, List.map_cons, qm8, qik] at ih ⊢
  by_cases h : k = a
  ·simp [h, qko, q1i, qik]
  ·simp only [decide_eq_true_eq, h, if_false, qko, q1i, if_true, qik, ih]
def qjx : List Bs -> List Bs -> Bool
 | _, [] => true
 | pre, k :: ks => qnb k && !decide (k ∈ pre) && qjx (pre ++ [k]) ks
theorem z2t {R : q02} (hR : ExtR R) {id : Nat} {xs : List Bs} {cap : Option Nat} (hl : xs.length < 1000000000) (hs : ∀ w ∈ xs, Len w.length) : ∀ (ys : List Bs) (k : Nat), xs.drop k = ys -> k <= xs.length -> ∀ (T : Tab),
  T id = .mapo (ql7 (xs.take k)) ->
  (qjx (xs.take k) ys = false -> ∀ es, R .ret [(2, .b false)] [] (T.put id (.mapo es))) ->
  (qjx (xs.take k) ys = true -> ∀ es, R (.exit 0) [(3, .mp id), (7, .fz xs.length (qra xs) cap), (8, .i .i64 xs.length), (9, .i .i64 xs.length), (10, .b false)] [] (T.put id (.mapo es))) ->
  AW prog qa7 R [(3, .mp id), (7, .fz xs.length (qra xs) cap), (8, .i .i64 xs.length), (9, .i .i64 k)] [] T := by
 intro ys
 induction ys with
 | nil =>
  intro k hk hle T hT h1 h2
  have hk' := G7 hk hle
  refine Y2 hR ?_
  unfold q8t
  simp -implicitDefEqProofs -dsimp only [go_sem, seval, hk', Int.lt_irrefl]
  have := h2 rfl (ql7 (xs.take k))
  rw [Tab.put_self hT, hk'] at this
  exact this
 | cons y ys ih =>
  intro k hk hle T hT h1 h2
  obtain ⟨hlt, hy, hk'⟩ := I2 hk
  have hyl : Len y.length := hs y (List.mem_of_getElem? hy)
  have hws : IntKind.i64.wrap ((k : Int) + 1) = ((k + 1 : Nat) : Int) := Q9 (by omega)
  have hg := qpb y (xs.take k)
  have v1 : IntKind.i64.wrap 1 = 1 := rfl
  have v2 : IntKind.i64.wrap 2 = 2 := rfl
  simp only [qjx] at h1 h2
  refine Q8 (l := qa7) rfl hR ?_
  unfold q8t
  simp -implicitDefEqProofs -dsimp only [go_sem, seval, Int.ofNat_lt, hlt, Int.natCast_nonneg, Int.toNat_natCast, z2s, hy]
  by_cases hm : y ∈ xs.take k
  ·rw [if_pos hm] at hg
   refine qmo hT rfl hg (J1 ?_)
   simp -implicitDefEqProofs -dsimp only [go_sem, seval, v2]
   refine qwc hT rfl (by rw [hg]; rfl) (J1 ?_)
   simp -implicitDefEqProofs -dsimp only [go_sem, seval, ↓J0 _ _ qh5]
   refine cpn (qp7 y hyl) ?_
   rw [decide_eq_true hm, Bool.not_true, Bool.and_false, Bool.false_and] at h1
   simp -implicitDefEqProofs -dsimp only [go_sem, seval]
   refine K0 (fun h => ?_) (fun h => ?_)
   ·simp -implicitDefEqProofs -dsimp only [go_sem, seval, h]
    exact h1 rfl _
   ·simp -implicitDefEqProofs -dsimp only [go_sem, seval, h]
    refine qmo (Tab.put_same ..) rfl (qjw y _) (J1 ?_)
    simp -implicitDefEqProofs -dsimp only [go_sem, seval, h, decide_true, decide_false]
    exact h1 rfl _
  ·rw [if_neg hm] at hg
   refine qzf hT rfl hg (J1 ?_)
   simp -implicitDefEqProofs -dsimp only [go_sem, seval, v1]
   refine qwc hT rfl (by rw [hg]; rfl) (J1 ?_)
   simp -implicitDefEqProofs -dsimp only [go_sem, seval, ↓J0 _ _ qh5]
   refine cpn (qp7 y hyl) ?_
   rw [decide_eq_false hm, Bool.not_false, Bool.and_true] at h1 h2
   simp -implicitDefEqProofs -dsimp only [go_sem, seval]
   refine K0 (fun h => ?_) (fun h => ?_)
   ·have hv : qnb y = false := by simpa using h
    rw [hv, Bool.false_and] at h1
    simp -implicitDefEqProofs -dsimp only [go_sem, seval, h]
    exact h1 rfl _
   ·have hv : qnb y = true := by simpa using h
    rw [hv, Bool.true_and] at h1 h2
    simp -implicitDefEqProofs -dsimp only [go_sem, seval, h]
    refine qmo (Tab.put_same ..) rfl (qjw y _) (J1 ?_)
    simp -implicitDefEqProofs -dsimp only [go_sem, seval, h, decide_true, decide_false, hws]
    rw [<- q89 hy] at h1 h2
    refine ih (k + 1) hk' hlt _ (by rw [Tab.put_same, qpc y _ hm, q89 hy]) (fun h' es => ?_) (fun h' es => ?_)
    ·rw [Tab.put_put]; exact h1 h' es
    ·rw [Tab.put_put]; exact h2 h' es
theorem qww (xs : List Bs) (cap : Option Nat) (hl : xs.length < 1000000000) (hs : ∀ w ∈ xs, Len w.length) : PCalls prog q6t [.fz xs.length (qra xs) cap] (.b (qjx [] xs)) := by
 refine K6 U1 qp0 (by simp) fun T => ?_
 unfold qh2
 simp -implicitDefEqProofs -dsimp only [go_sem, seval]
 refine fun id hid => J1 ?_
 simp -implicitDefEqProofs -dsimp only [go_sem, seval]
 have hfin : ∀ (b : Bool) (es : List (AV × AV)), qjx [] xs = b -> qlp (.b b) (fun v T' => v = .b (qjx [] xs) /\ T' = T) ((T.put id (.mapo [])).put id (.mapo es)) := fun b es hb => by
  refine V9 T (fun j => ?_) ⟨by rw [hb], rfl⟩
  rw [Tab.put_put]
  by_cases e : j = id
  ·subst e; exact .inl hid
  ·rw [Tab.put_ne _ _ e]; exact .refl _
 refine z2t (id := id) (by repeat' (first | exact Q2 _ _ | assumption | apply Q1 | apply N7 | apply Z0)) hl hs xs 0 rfl (by omega) _ (by rw [Tab.put_same]; rfl) (fun h es => ?_) (fun h es => ?_)
 ·simp -implicitDefEqProofs -dsimp only [go_sem, seval]
  exact hfin _ es h
 ·simp -implicitDefEqProofs -dsimp only [go_sem, seval]
  exact hfin _ es h
def qrd (t : Tx) : Bool :=
 qkq t.cl t.sq && !decide (8 < (t.rs.length : Int)) && !decide (8 < (t.ws.length : Int)) && !decide ((t.rs.length : Int) + t.ws.length = 0) && !(t.pl && (!decide ((t.rs.length : Int) = 0) || !decide ((t.ws.length : Int) = 1))) &&
  (qjx [] (t.rs.map (·.k)) && qjx [] (t.ws.map (·.k)) && t.ws.all wOk)
structure Tx.Fine (t : Tx) : Prop where
 r : t.rs.length < 1000000000
 w : t.ws.length < 1000000000
 rk : ∀ r ∈ t.rs, Len r.k.length
 wk : ∀ r ∈ t.ws, Len r.k.length
 wv : ∀ r ∈ t.ws, Len r.v.length
theorem qe2 (t : Tx) (k1 k2 : Option Nat) (hf : t.Fine) : PCalls prog q29 [.agg (t.cells k1 k2)] (.b (qrd t)) := by
 obtain ⟨cl, sq, pl, rs, ws⟩ := t
 refine K6 U1 qhx (by simp) fun T => ?_
 have w1 : IntKind.i64.wrap ((rs.length : Int) + ws.length) = (rs.length : Int) + ws.length := q1m (by have h1 : rs.length < 1000000000 := hf.r; have h2 : ws.length < 1000000000 := hf.w; unfold I64; omega)
 have c1 := qrc ⟨cl, sq, pl, rs, ws⟩ k1 k2 hf.r
 have c2 := qpa ⟨cl, sq, pl, rs, ws⟩ k1 k2 hf.w
 have c3 := qwv ⟨cl, sq, pl, rs, ws⟩ k1 k2 hf.w hf.wv
 have c4 := qww (rs.map (·.k)) none (by rw [List.length_map]; exact hf.r) (by intro w hw; obtain ⟨r, hr, rfl⟩ := List.mem_map.1 hw; exact hf.rk r hr)
 have c5 := qww (ws.map (·.k)) none (by rw [List.length_map]; exact hf.w) (by intro w hw; obtain ⟨r, hr, rfl⟩ := List.mem_map.1 hw; exact hf.wk r hr)
 rw [List.length_map] at c4 c5
 simp only [Tx.cells] at c1 c2 c3
 unfold qat
 cases pl
 all_goals
  simp -implicitDefEqProofs -dsimp only [go_sem, seval, Tx.cells, ↓J0 _ _ Y0]
  refine cpn (q1f cl sq) ?_
  rcases hid : qkq cl sq with _ | _
 all_goals
  simp -implicitDefEqProofs -dsimp only [go_sem, seval, decide_true, decide_false, Bool.not_true, Bool.not_false]
  (first | (apply K0 <;> intro h_1 <;> simp -implicitDefEqProofs -dsimp only [go_sem, seval, w1, ↓Q0, G8, true_and, ↓J0 _ _ J3, ↓J0 _ _ J2, ↓J0 _ _ J5, ↓J0 _ _ K2, h_1]) | (refine CallK.pure (c1) (J1 ?_); simp -implicitDefEqProofs -dsimp only [go_sem, seval, w1, ↓Q0, G8, true_and, ↓J0 _ _ J3, ↓J0 _ _ J2, ↓J0 _ _ J5, ↓J0 _ _ K2]; have h_1 := trivial) | (refine CallK.pure (c2) (J1 ?_); simp -implicitDefEqProofs -dsimp only [go_sem, seval, w1, ↓Q0, G8, true_and, ↓J0 _ _ J3, ↓J0 _ _ J2, ↓J0 _ _ J5, ↓J0 _ _ K2]; have h_1 := trivial) | (refine CallK.pure (c3) (J1 ?_); simp -implicitDefEqProofs -dsimp only [go_sem, seval, w1, ↓Q0, G8, true_and, ↓J0 _ _ J3, ↓J0 _ _ J2, ↓J0 _ _ J5, ↓J0 _ _ K2]; have h_1 := trivial) | (refine CallK.pure (c4) (J1 ?_); simp -implicitDefEqProofs -dsimp only [go_sem, seval, w1, ↓Q0, G8, true_and, ↓J0 _ _ J3, ↓J0 _ _ J2, ↓J0 _ _ J5, ↓J0 _ _ K2]; have h_1 := trivial) | (refine CallK.pure (c5) (J1 ?_); simp -implicitDefEqProofs -dsimp only [go_sem, seval, w1, ↓Q0, G8, true_and, ↓J0 _ _ J3, ↓J0 _ _ J2, ↓J0 _ _ J5, ↓J0 _ _ K2]; have h_1 := trivial) | (have h_1 := trivial)) <;>
  (first | (apply K0 <;> intro h_2 <;> simp -implicitDefEqProofs -dsimp only [go_sem, seval, w1, ↓Q0, G8, true_and, ↓J0 _ _ J3, ↓J0 _ _ J2, ↓J0 _ _ J5, ↓J0 _ _ K2, h_1, h_2]) | (refine CallK.pure (c1) (J1 ?_); simp -implicitDefEqProofs -dsimp only [go_sem, seval, w1, ↓Q0, G8, true_and, ↓J0 _ _ J3, ↓J0 _ _ J2, ↓J0 _ _ J5, ↓J0 _ _ K2, h_1]; have h_2 := trivial) | (refine CallK.pure (c2) (J1 ?_); simp -implicitDefEqProofs -dsimp only [go_sem, seval, w1, ↓Q0, G8, true_and, ↓J0 _ _ J3, ↓J0 _ _ J2, ↓J0 _ _ J5, ↓J0 _ _ K2, h_1]; have h_2 := trivial) | (refine CallK.pure (c3) (J1 ?_); simp -implicitDefEqProofs -dsimp only [go_sem, seval, w1, ↓Q0, G8, true_and, ↓J0 _ _ J3, ↓J0 _ _ J2, ↓J0 _ _ J5, ↓J0 _ _ K2, h_1]; have h_2 := trivial) | (refine CallK.pure (c4) (J1 ?_); simp -implicitDefEqProofs -dsimp only [go_sem, seval, w1, ↓Q0, G8, true_and, ↓J0 _ _ J3, ↓J0 _ _ J2, ↓J0 _ _ J5, ↓J0 _ _ K2, h_1]; have h_2 := trivial) | (refine CallK.pure (c5) (J1 ?_); simp -implicitDefEqProofs -dsimp only [go_sem, seval, w1, ↓Q0, G8, true_and, ↓J0 _ _ J3, ↓J0 _ _ J2, ↓J0 _ _ J5, ↓J0 _ _ K2, h_1]; have h_2 := trivial) | (have h_2 := trivial)) <;>
  (first | (apply K0 <;> intro h_3 <;> simp -implicitDefEqProofs -dsimp only [go_sem, seval, w1, ↓Q0, G8, true_and, ↓J0 _ _ J3, ↓J0 _ _ J2, ↓J0 _ _ J5, ↓J0 _ _ K2, h_1, h_2, h_3]) | (refine CallK.pure (c1) (J1 ?_); simp -implicitDefEqProofs -dsimp only [go_sem, seval, w1, ↓Q0, G8, true_and, ↓J0 _ _ J3, ↓J0 _ _ J2, ↓J0 _ _ J5, ↓J0 _ _ K2, h_1, h_2]; have h_3 := trivial) | (refine CallK.pure (c2) (J1 ?_); simp -implicitDefEqProofs -dsimp only [go_sem, seval, w1, ↓Q0, G8, true_and, ↓J0 _ _ J3, ↓J0 _ _ J2, ↓J0 _ _ J5, ↓J0 _ _ K2, h_1, h_2]; have h_3 := trivial) | (refine CallK.pure (c3) (J1 ?_); simp -implicitDefEqProofs -dsimp only [go_sem, seval, w1, ↓Q0, G8, true_and, ↓J0 _ _ J3, ↓J0 _ _ J2, ↓J0 _ _ J5, ↓J0 _ _ K2, h_1, h_2]; have h_3 := trivial) | (refine CallK.pure (c4) (J1 ?_); simp -implicitDefEqProofs -dsimp only [go_sem, seval, w1, ↓Q0, G8, true_and, ↓J0 _ _ J3, ↓J0 _ _ J2, ↓J0 _ _ J5, ↓J0 _ _ K2, h_1, h_2]; have h_3 := trivial) | (refine CallK.pure (c5) (J1 ?_); simp -implicitDefEqProofs -dsimp only [go_sem, seval, w1, ↓Q0, G8, true_and, ↓J0 _ _ J3, ↓J0 _ _ J2, ↓J0 _ _ J5, ↓J0 _ _ K2, h_1, h_2]; have h_3 := trivial) | (have h_3 := trivial)) <;>
  (first | (apply K0 <;> intro h_4 <;> simp -implicitDefEqProofs -dsimp only [go_sem, seval, w1, ↓Q0, G8, true_and, ↓J0 _ _ J3, ↓J0 _ _ J2, ↓J0 _ _ J5, ↓J0 _ _ K2, h_1, h_2, h_3, h_4]) | (refine CallK.pure (c1) (J1 ?_); simp -implicitDefEqProofs -dsimp only [go_sem, seval, w1, ↓Q0, G8, true_and, ↓J0 _ _ J3, ↓J0 _ _ J2, ↓J0 _ _ J5, ↓J0 _ _ K2, h_1, h_2, h_3]; have h_4 := trivial) | (refine CallK.pure (c2) (J1 ?_); simp -implicitDefEqProofs -dsimp only [go_sem, seval, w1, ↓Q0, G8, true_and, ↓J0 _ _ J3, ↓J0 _ _ J2, ↓J0 _ _ J5, ↓J0 _ _ K2, h_1, h_2, h_3]; have h_4 := trivial) | (refine CallK.pure (c3) (J1 ?_); simp -implicitDefEqProofs -dsimp only [go_sem, seval, w1, ↓Q0, G8, true_and, ↓J0 _ _ J3, ↓J0 _ _ J2, ↓J0 _ _ J5, ↓J0 _ _ K2, h_1, h_2, h_3]; have h_4 := trivial) | (refine CallK.pure (c4) (J1 ?_); simp -implicitDefEqProofs -dsimp only [go_sem, seval, w1, ↓Q0, G8, true_and, ↓J0 _ _ J3, ↓J0 _ _ J2, ↓J0 _ _ J5, ↓J0 _ _ K2, h_1, h_2, h_3]; have h_4 := trivial) | (refine CallK.pure (c5) (J1 ?_); simp -implicitDefEqProofs -dsimp only [go_sem, seval, w1, ↓Q0, G8, true_and, ↓J0 _ _ J3, ↓J0 _ _ J2, ↓J0 _ _ J5, ↓J0 _ _ K2, h_1, h_2, h_3]; have h_4 := trivial) | (have h_4 := trivial)) <;>
  (first | (apply K0 <;> intro h_5 <;> simp -implicitDefEqProofs -dsimp only [go_sem, seval, w1, ↓Q0, G8, true_and, ↓J0 _ _ J3, ↓J0 _ _ J2, ↓J0 _ _ J5, ↓J0 _ _ K2, h_1, h_2, h_3, h_4, h_5]) | (refine CallK.pure (c1) (J1 ?_); simp -implicitDefEqProofs -dsimp only [go_sem, seval, w1, ↓Q0, G8, true_and, ↓J0 _ _ J3, ↓J0 _ _ J2, ↓J0 _ _ J5, ↓J0 _ _ K2, h_1, h_2, h_3, h_4]; have h_5 := trivial) | (refine CallK.pure (c2) (J1 ?_); simp -implicitDefEqProofs -dsimp only [go_sem, seval, w1, ↓Q0, G8, true_and, ↓J0 _ _ J3, ↓J0 _ _ J2, ↓J0 _ _ J5, ↓J0 _ _ K2, h_1, h_2, h_3, h_4]; have h_5 := trivial) | (refine CallK.pure (c3) (J1 ?_); simp -implicitDefEqProofs -dsimp only [go_sem, seval, w1, ↓Q0, G8, true_and, ↓J0 _ _ J3, ↓J0 _ _ J2, ↓J0 _ _ J5, ↓J0 _ _ K2, h_1, h_2, h_3, h_4]; have h_5 := trivial) | (refine CallK.pure (c4) (J1 ?_); simp -implicitDefEqProofs -dsimp only [go_sem, seval, w1, ↓Q0, G8, true_and, ↓J0 _ _ J3, ↓J0 _ _ J2, ↓J0 _ _ J5, ↓J0 _ _ K2, h_1, h_2, h_3, h_4]; have h_5 := trivial) | (refine CallK.pure (c5) (J1 ?_); simp -implicitDefEqProofs -dsimp only [go_sem, seval, w1, ↓Q0, G8, true_and, ↓J0 _ _ J3, ↓J0 _ _ J2, ↓J0 _ _ J5, ↓J0 _ _ K2, h_1, h_2, h_3, h_4]; have h_5 := trivial) | (have h_5 := trivial)) <;>
  (first | (apply K0 <;> intro h_6 <;> simp -implicitDefEqProofs -dsimp only [go_sem, seval, w1, ↓Q0, G8, true_and, ↓J0 _ _ J3, ↓J0 _ _ J2, ↓J0 _ _ J5, ↓J0 _ _ K2, h_1, h_2, h_3, h_4, h_5, h_6]) | (refine CallK.pure (c1) (J1 ?_); simp -implicitDefEqProofs -dsimp only [go_sem, seval, w1, ↓Q0, G8, true_and, ↓J0 _ _ J3, ↓J0 _ _ J2, ↓J0 _ _ J5, ↓J0 _ _ K2, h_1, h_2, h_3, h_4, h_5]; have h_6 := trivial) | (refine CallK.pure (c2) (J1 ?_); simp -implicitDefEqProofs -dsimp only [go_sem, seval, w1, ↓Q0, G8, true_and, ↓J0 _ _ J3, ↓J0 _ _ J2, ↓J0 _ _ J5, ↓J0 _ _ K2, h_1, h_2, h_3, h_4, h_5]; have h_6 := trivial) | (refine CallK.pure (c3) (J1 ?_); simp -implicitDefEqProofs -dsimp only [go_sem, seval, w1, ↓Q0, G8, true_and, ↓J0 _ _ J3, ↓J0 _ _ J2, ↓J0 _ _ J5, ↓J0 _ _ K2, h_1, h_2, h_3, h_4, h_5]; have h_6 := trivial) | (refine CallK.pure (c4) (J1 ?_); simp -implicitDefEqProofs -dsimp only [go_sem, seval, w1, ↓Q0, G8, true_and, ↓J0 _ _ J3, ↓J0 _ _ J2, ↓J0 _ _ J5, ↓J0 _ _ K2, h_1, h_2, h_3, h_4, h_5]; have h_6 := trivial) | (refine CallK.pure (c5) (J1 ?_); simp -implicitDefEqProofs -dsimp only [go_sem, seval, w1, ↓Q0, G8, true_and, ↓J0 _ _ J3, ↓J0 _ _ J2, ↓J0 _ _ J5, ↓J0 _ _ K2, h_1, h_2, h_3, h_4, h_5]; have h_6 := trivial) | (have h_6 := trivial)) <;>
  (first | (apply K0 <;> intro h_7 <;> simp -implicitDefEqProofs -dsimp only [go_sem, seval, w1, ↓Q0, G8, true_and, ↓J0 _ _ J3, ↓J0 _ _ J2, ↓J0 _ _ J5, ↓J0 _ _ K2, h_1, h_2, h_3, h_4, h_5, h_6, h_7]) | (refine CallK.pure (c1) (J1 ?_); simp -implicitDefEqProofs -dsimp only [go_sem, seval, w1, ↓Q0, G8, true_and, ↓J0 _ _ J3, ↓J0 _ _ J2, ↓J0 _ _ J5, ↓J0 _ _ K2, h_1, h_2, h_3, h_4, h_5, h_6]; have h_7 := trivial) | (refine CallK.pure (c2) (J1 ?_); simp -implicitDefEqProofs -dsimp only [go_sem, seval, w1, ↓Q0, G8, true_and, ↓J0 _ _ J3, ↓J0 _ _ J2, ↓J0 _ _ J5, ↓J0 _ _ K2, h_1, h_2, h_3, h_4, h_5, h_6]; have h_7 := trivial) | (refine CallK.pure (c3) (J1 ?_); simp -implicitDefEqProofs -dsimp only [go_sem, seval, w1, ↓Q0, G8, true_and, ↓J0 _ _ J3, ↓J0 _ _ J2, ↓J0 _ _ J5, ↓J0 _ _ K2, h_1, h_2, h_3, h_4, h_5, h_6]; have h_7 := trivial) | (refine CallK.pure (c4) (J1 ?_); simp -implicitDefEqProofs -dsimp only [go_sem, seval, w1, ↓Q0, G8, true_and, ↓J0 _ _ J3, ↓J0 _ _ J2, ↓J0 _ _ J5, ↓J0 _ _ K2, h_1, h_2, h_3, h_4, h_5, h_6]; have h_7 := trivial) | (refine CallK.pure (c5) (J1 ?_); simp -implicitDefEqProofs -dsimp only [go_sem, seval, w1, ↓Q0, G8, true_and, ↓J0 _ _ J3, ↓J0 _ _ J2, ↓J0 _ _ J5, ↓J0 _ _ K2, h_1, h_2, h_3, h_4, h_5, h_6]; have h_7 := trivial) | (have h_7 := trivial)) <;>
  (first | (apply K0 <;> intro h_8 <;> simp -implicitDefEqProofs -dsimp only [go_sem, seval, w1, ↓Q0, G8, true_and, ↓J0 _ _ J3, ↓J0 _ _ J2, ↓J0 _ _ J5, ↓J0 _ _ K2, h_1, h_2, h_3, h_4, h_5, h_6, h_7, h_8]) | (refine CallK.pure (c1) (J1 ?_); simp -implicitDefEqProofs -dsimp only [go_sem, seval, w1, ↓Q0, G8, true_and, ↓J0 _ _ J3, ↓J0 _ _ J2, ↓J0 _ _ J5, ↓J0 _ _ K2, h_1, h_2, h_3, h_4, h_5, h_6, h_7]; have h_8 := trivial) | (refine CallK.pure (c2) (J1 ?_); simp -implicitDefEqProofs -dsimp only [go_sem, seval, w1, ↓Q0, G8, true_and, ↓J0 _ _ J3, ↓J0 _ _ J2, ↓J0 _ _ J5, ↓J0 _ _ K2, h_1, h_2, h_3, h_4, h_5, h_6, h_7]; have h_8 := trivial) | (refine CallK.pure (c3) (J1 ?_); simp -implicitDefEqProofs -dsimp only [go_sem, seval, w1, ↓Q0, G8, true_and, ↓J0 _ _ J3, ↓J0 _ _ J2, ↓J0 _ _ J5, ↓J0 _ _ K2, h_1, h_2, h_3, h_4, h_5, h_6, h_7]; have h_8 := trivial) | (refine CallK.pure (c4) (J1 ?_); simp -implicitDefEqProofs -dsimp only [go_sem, seval, w1, ↓Q0, G8, true_and, ↓J0 _ _ J3, ↓J0 _ _ J2, ↓J0 _ _ J5, ↓J0 _ _ K2, h_1, h_2, h_3, h_4, h_5, h_6, h_7]; have h_8 := trivial) | (refine CallK.pure (c5) (J1 ?_); simp -implicitDefEqProofs -dsimp only [go_sem, seval, w1, ↓Q0, G8, true_and, ↓J0 _ _ J3, ↓J0 _ _ J2, ↓J0 _ _ J5, ↓J0 _ _ K2, h_1, h_2, h_3, h_4, h_5, h_6, h_7]; have h_8 := trivial) | (have h_8 := trivial)) <;>
  (first | (apply K0 <;> intro h_9 <;> simp -implicitDefEqProofs -dsimp only [go_sem, seval, w1, ↓Q0, G8, true_and, ↓J0 _ _ J3, ↓J0 _ _ J2, ↓J0 _ _ J5, ↓J0 _ _ K2, h_1, h_2, h_3, h_4, h_5, h_6, h_7, h_8, h_9]) | (refine CallK.pure (c1) (J1 ?_); simp -implicitDefEqProofs -dsimp only [go_sem, seval, w1, ↓Q0, G8, true_and, ↓J0 _ _ J3, ↓J0 _ _ J2, ↓J0 _ _ J5, ↓J0 _ _ K2, h_1, h_2, h_3, h_4, h_5, h_6, h_7, h_8]; have h_9 := trivial) | (refine CallK.pure (c2) (J1 ?_); simp -implicitDefEqProofs -dsimp only [go_sem, seval, w1, ↓Q0, G8, true_and, ↓J0 _ _ J3, ↓J0 _ _ J2, ↓J0 _ _ J5, ↓J0 _ _ K2, h_1, h_2, h_3, h_4, h_5, h_6, h_7, h_8]; have h_9 := trivial) | (refine CallK.pure (c3) (J1 ?_); simp -implicitDefEqProofs -dsimp only [go_sem, seval, w1, ↓Q0, G8, true_and, ↓J0 _ _ J3, ↓J0 _ _ J2, ↓J0 _ _ J5, ↓J0 _ _ K2, h_1, h_2, h_3, h_4, h_5, h_6, h_7, h_8]; have h_9 := trivial) | (refine CallK.pure (c4) (J1 ?_); simp -implicitDefEqProofs -dsimp only [go_sem, seval, w1, ↓Q0, G8, true_and, ↓J0 _ _ J3, ↓J0 _ _ J2, ↓J0 _ _ J5, ↓J0 _ _ K2, h_1, h_2, h_3, h_4, h_5, h_6, h_7, h_8]; have h_9 := trivial) | (refine CallK.pure (c5) (J1 ?_); simp -implicitDefEqProofs -dsimp only [go_sem, seval, w1, ↓Q0, G8, true_and, ↓J0 _ _ J3, ↓J0 _ _ J2, ↓J0 _ _ J5, ↓J0 _ _ K2, h_1, h_2, h_3, h_4, h_5, h_6, h_7, h_8]; have h_9 := trivial) | (have h_9 := trivial)) <;>
  (first | (apply K0 <;> intro h_10 <;> simp -implicitDefEqProofs -dsimp only [go_sem, seval, w1, ↓Q0, G8, true_and, ↓J0 _ _ J3, ↓J0 _ _ J2, ↓J0 _ _ J5, ↓J0 _ _ K2, h_1, h_2, h_3, h_4, h_5, h_6, h_7, h_8, h_9, h_10]) | (refine CallK.pure (c1) (J1 ?_); simp -implicitDefEqProofs -dsimp only [go_sem, seval, w1, ↓Q0, G8, true_and, ↓J0 _ _ J3, ↓J0 _ _ J2, ↓J0 _ _ J5, ↓J0 _ _ K2, h_1, h_2, h_3, h_4, h_5, h_6, h_7, h_8, h_9]; have h_10 := trivial) | (refine CallK.pure (c2) (J1 ?_); simp -implicitDefEqProofs -dsimp only [go_sem, seval, w1, ↓Q0, G8, true_and, ↓J0 _ _ J3, ↓J0 _ _ J2, ↓J0 _ _ J5, ↓J0 _ _ K2, h_1, h_2, h_3, h_4, h_5, h_6, h_7, h_8, h_9]; have h_10 := trivial) | (refine CallK.pure (c3) (J1 ?_); simp -implicitDefEqProofs -dsimp only [go_sem, seval, w1, ↓Q0, G8, true_and, ↓J0 _ _ J3, ↓J0 _ _ J2, ↓J0 _ _ J5, ↓J0 _ _ K2, h_1, h_2, h_3, h_4, h_5, h_6, h_7, h_8, h_9]; have h_10 := trivial) | (refine CallK.pure (c4) (J1 ?_); simp -implicitDefEqProofs -dsimp only [go_sem, seval, w1, ↓Q0, G8, true_and, ↓J0 _ _ J3, ↓J0 _ _ J2, ↓J0 _ _ J5, ↓J0 _ _ K2, h_1, h_2, h_3, h_4, h_5, h_6, h_7, h_8, h_9]; have h_10 := trivial) | (refine CallK.pure (c5) (J1 ?_); simp -implicitDefEqProofs -dsimp only [go_sem, seval, w1, ↓Q0, G8, true_and, ↓J0 _ _ J3, ↓J0 _ _ J2, ↓J0 _ _ J5, ↓J0 _ _ K2, h_1, h_2, h_3, h_4, h_5, h_6, h_7, h_8, h_9]; have h_10 := trivial) | (have h_10 := trivial)) <;>
  (first | (apply K0 <;> intro h_11 <;> simp -implicitDefEqProofs -dsimp only [go_sem, seval, w1, ↓Q0, G8, true_and, ↓J0 _ _ J3, ↓J0 _ _ J2, ↓J0 _ _ J5, ↓J0 _ _ K2, h_1, h_2, h_3, h_4, h_5, h_6, h_7, h_8, h_9, h_10, h_11]) | (refine CallK.pure (c1) (J1 ?_); simp -implicitDefEqProofs -dsimp only [go_sem, seval, w1, ↓Q0, G8, true_and, ↓J0 _ _ J3, ↓J0 _ _ J2, ↓J0 _ _ J5, ↓J0 _ _ K2, h_1, h_2, h_3, h_4, h_5, h_6, h_7, h_8, h_9, h_10]; have h_11 := trivial) | (refine CallK.pure (c2) (J1 ?_); simp -implicitDefEqProofs -dsimp only [go_sem, seval, w1, ↓Q0, G8, true_and, ↓J0 _ _ J3, ↓J0 _ _ J2, ↓J0 _ _ J5, ↓J0 _ _ K2, h_1, h_2, h_3, h_4, h_5, h_6, h_7, h_8, h_9, h_10]; have h_11 := trivial) | (refine CallK.pure (c3) (J1 ?_); simp -implicitDefEqProofs -dsimp only [go_sem, seval, w1, ↓Q0, G8, true_and, ↓J0 _ _ J3, ↓J0 _ _ J2, ↓J0 _ _ J5, ↓J0 _ _ K2, h_1, h_2, h_3, h_4, h_5, h_6, h_7, h_8, h_9, h_10]; have h_11 := trivial) | (refine CallK.pure (c4) (J1 ?_); simp -implicitDefEqProofs -dsimp only [go_sem, seval, w1, ↓Q0, G8, true_and, ↓J0 _ _ J3, ↓J0 _ _ J2, ↓J0 _ _ J5, ↓J0 _ _ K2, h_1, h_2, h_3, h_4, h_5, h_6, h_7, h_8, h_9, h_10]; have h_11 := trivial) | (refine CallK.pure (c5) (J1 ?_); simp -implicitDefEqProofs -dsimp only [go_sem, seval, w1, ↓Q0, G8, true_and, ↓J0 _ _ J3, ↓J0 _ _ J2, ↓J0 _ _ J5, ↓J0 _ _ K2, h_1, h_2, h_3, h_4, h_5, h_6, h_7, h_8, h_9, h_10]; have h_11 := trivial) | (have h_11 := trivial)) <;>
  (first | (apply K0 <;> intro h_12 <;> simp -implicitDefEqProofs -dsimp only [go_sem, seval, w1, ↓Q0, G8, true_and, ↓J0 _ _ J3, ↓J0 _ _ J2, ↓J0 _ _ J5, ↓J0 _ _ K2, h_1, h_2, h_3, h_4, h_5, h_6, h_7, h_8, h_9, h_10, h_11, h_12]) | (refine CallK.pure (c1) (J1 ?_); simp -implicitDefEqProofs -dsimp only [go_sem, seval, w1, ↓Q0, G8, true_and, ↓J0 _ _ J3, ↓J0 _ _ J2, ↓J0 _ _ J5, ↓J0 _ _ K2, h_1, h_2, h_3, h_4, h_5, h_6, h_7, h_8, h_9, h_10, h_11]; have h_12 := trivial) | (refine CallK.pure (c2) (J1 ?_); simp -implicitDefEqProofs -dsimp only [go_sem, seval, w1, ↓Q0, G8, true_and, ↓J0 _ _ J3, ↓J0 _ _ J2, ↓J0 _ _ J5, ↓J0 _ _ K2, h_1, h_2, h_3, h_4, h_5, h_6, h_7, h_8, h_9, h_10, h_11]; have h_12 := trivial) | (refine CallK.pure (c3) (J1 ?_); simp -implicitDefEqProofs -dsimp only [go_sem, seval, w1, ↓Q0, G8, true_and, ↓J0 _ _ J3, ↓J0 _ _ J2, ↓J0 _ _ J5, ↓J0 _ _ K2, h_1, h_2, h_3, h_4, h_5, h_6, h_7, h_8, h_9, h_10, h_11]; have h_12 := trivial) | (refine CallK.pure (c4) (J1 ?_); simp -implicitDefEqProofs -dsimp only [go_sem, seval, w1, ↓Q0, G8, true_and, ↓J0 _ _ J3, ↓J0 _ _ J2, ↓J0 _ _ J5, ↓J0 _ _ K2, h_1, h_2, h_3, h_4, h_5, h_6, h_7, h_8, h_9, h_10, h_11]; have h_12 := trivial) | (refine CallK.pure (c5) (J1 ?_); simp -implicitDefEqProofs -dsimp only [go_sem, seval, w1, ↓Q0, G8, true_and, ↓J0 _ _ J3, ↓J0 _ _ J2, ↓J0 _ _ J5, ↓J0 _ _ K2, h_1, h_2, h_3, h_4, h_5, h_6, h_7, h_8, h_9, h_10, h_11]; have h_12 := trivial) | (have h_12 := trivial)) <;>
  (first | (apply K0 <;> intro h_13 <;> simp -implicitDefEqProofs -dsimp only [go_sem, seval, w1, ↓Q0, G8, true_and, ↓J0 _ _ J3, ↓J0 _ _ J2, ↓J0 _ _ J5, ↓J0 _ _ K2, h_1, h_2, h_3, h_4, h_5, h_6, h_7, h_8, h_9, h_10, h_11, h_12, h_13]) | (refine CallK.pure (c1) (J1 ?_); simp -implicitDefEqProofs -dsimp only [go_sem, seval, w1, ↓Q0, G8, true_and, ↓J0 _ _ J3, ↓J0 _ _ J2, ↓J0 _ _ J5, ↓J0 _ _ K2, h_1, h_2, h_3, h_4, h_5, h_6, h_7, h_8, h_9, h_10, h_11, h_12]; have h_13 := trivial) | (refine CallK.pure (c2) (J1 ?_); simp -implicitDefEqProofs -dsimp only [go_sem, seval, w1, ↓Q0, G8, true_and, ↓J0 _ _ J3, ↓J0 _ _ J2, ↓J0 _ _ J5, ↓J0 _ _ K2, h_1, h_2, h_3, h_4, h_5, h_6, h_7, h_8, h_9, h_10, h_11, h_12]; have h_13 := trivial) | (refine CallK.pure (c3) (J1 ?_); simp -implicitDefEqProofs -dsimp only [go_sem, seval, w1, ↓Q0, G8, true_and, ↓J0 _ _ J3, ↓J0 _ _ J2, ↓J0 _ _ J5, ↓J0 _ _ K2, h_1, h_2, h_3, h_4, h_5, h_6, h_7, h_8, h_9, h_10, h_11, h_12]; have h_13 := trivial) | (refine CallK.pure (c4) (J1 ?_); simp -implicitDefEqProofs -dsimp only [go_sem, seval, w1, ↓Q0, G8, true_and, ↓J0 _ _ J3, ↓J0 _ _ J2, ↓J0 _ _ J5, ↓J0 _ _ K2, h_1, h_2, h_3, h_4, h_5, h_6, h_7, h_8, h_9, h_10, h_11, h_12]; have h_13 := trivial) | (refine CallK.pure (c5) (J1 ?_); simp -implicitDefEqProofs -dsimp only [go_sem, seval, w1, ↓Q0, G8, true_and, ↓J0 _ _ J3, ↓J0 _ _ J2, ↓J0 _ _ J5, ↓J0 _ _ K2, h_1, h_2, h_3, h_4, h_5, h_6, h_7, h_8, h_9, h_10, h_11, h_12]; have h_13 := trivial) | (have h_13 := trivial)) <;>
  (first | (apply K0 <;> intro h_14 <;> simp -implicitDefEqProofs -dsimp only [go_sem, seval, w1, ↓Q0, G8, true_and, ↓J0 _ _ J3, ↓J0 _ _ J2, ↓J0 _ _ J5, ↓J0 _ _ K2, h_1, h_2, h_3, h_4, h_5, h_6, h_7, h_8, h_9, h_10, h_11, h_12, h_13, h_14]) | (refine CallK.pure (c1) (J1 ?_); simp -implicitDefEqProofs -dsimp only [go_sem, seval, w1, ↓Q0, G8, true_and, ↓J0 _ _ J3, ↓J0 _ _ J2, ↓J0 _ _ J5, ↓J0 _ _ K2, h_1, h_2, h_3, h_4, h_5, h_6, h_7, h_8, h_9, h_10, h_11, h_12, h_13]; have h_14 := trivial) | (refine CallK.pure (c2) (J1 ?_); simp -implicitDefEqProofs -dsimp only [go_sem, seval, w1, ↓Q0, G8, true_and, ↓J0 _ _ J3, ↓J0 _ _ J2, ↓J0 _ _ J5, ↓J0 _ _ K2, h_1, h_2, h_3, h_4, h_5, h_6, h_7, h_8, h_9, h_10, h_11, h_12, h_13]; have h_14 := trivial) | (refine CallK.pure (c3) (J1 ?_); simp -implicitDefEqProofs -dsimp only [go_sem, seval, w1, ↓Q0, G8, true_and, ↓J0 _ _ J3, ↓J0 _ _ J2, ↓J0 _ _ J5, ↓J0 _ _ K2, h_1, h_2, h_3, h_4, h_5, h_6, h_7, h_8, h_9, h_10, h_11, h_12, h_13]; have h_14 := trivial) | (refine CallK.pure (c4) (J1 ?_); simp -implicitDefEqProofs -dsimp only [go_sem, seval, w1, ↓Q0, G8, true_and, ↓J0 _ _ J3, ↓J0 _ _ J2, ↓J0 _ _ J5, ↓J0 _ _ K2, h_1, h_2, h_3, h_4, h_5, h_6, h_7, h_8, h_9, h_10, h_11, h_12, h_13]; have h_14 := trivial) | (refine CallK.pure (c5) (J1 ?_); simp -implicitDefEqProofs -dsimp only [go_sem, seval, w1, ↓Q0, G8, true_and, ↓J0 _ _ J3, ↓J0 _ _ J2, ↓J0 _ _ J5, ↓J0 _ _ K2, h_1, h_2, h_3, h_4, h_5, h_6, h_7, h_8, h_9, h_10, h_11, h_12, h_13]; have h_14 := trivial) | (have h_14 := trivial))
  all_goals (
   refine J9 ?_
   simp only [qrd, *, Bool.not_true, Bool.not_false, Bool.true_and, Bool.false_and, Bool.and_false, Bool.and_true, Bool.or_true, Bool.true_or, Bool.false_or, Bool.or_false])
end Go.Aw
