import Derived.Test.YtchdmofoaokpjaaGreatDoorM30N17E12N
namespace Go.Aw
open Go
open Go.Proofs.Tryz (prog)
set_option linter.all false
set_option maxHeartbeats 4000000
abbrev Bs := List UInt8
structure Rd where
 k : Bs
 n : Int
structure Wt where
 k : Bs
 v : Bs
 g : Bool
structure Tx where
 cl : Int
 sq : Int
 pl : Bool
 rs : List Rd
 ws : List Wt
def rdC (r : Rd) : List AV := [.s r.k, .i .u64 r.n]
def wtC (w : Wt) : List AV := [.s w.k, .s w.v, .b w.g]
theorem qhh (r : Rd) : (rdC r).length = 2 := rfl
theorem qd4 (r : Wt) : (wtC r).length = 3 := rfl
def Tx.cells (t : Tx) (k1 k2 : Option Nat) : List AV := [.i .i64 t.cl, .i .u64 t.sq, .b t.pl, .fz t.rs.length (t.rs.flatMap rdC) k1, .fz t.ws.length (t.ws.flatMap wtC) k2]
def qsn (l : List Bs) : List AV := l.map .s
theorem z55 (l : List Bs) (k : Nat) : ((qsn l).drop k)[0]? = (l[k]?).map .s := by simp [qsn]
theorem ql7 (l m : List Bs) : qsn l ++ qsn m = qsn (l ++ m) := by simp [qsn]
def qm6 (c s : Int) : Bool := decide (0 <= c) && decide (c < 6) && decide (0 < s)
theorem q1j (c s : Int) : PCalls prog q37 [.agg [.i .i64 c, .i .u64 s]] (.b (qm6 c s)) := by
 refine K6 U1 qks (by simp) fun T => ?_
 unfold qcq
 simp -implicitDefEqProofs -dsimp only [go_sem, seval, decide_true, decide_false]
 (first | (apply K0 <;> intro h_1 <;> simp -implicitDefEqProofs -dsimp only [go_sem, seval, decide_true, decide_false, h_1]) | (have h_1 := trivial)) <;>
  (first | (apply K0 <;> intro h_2 <;> simp -implicitDefEqProofs -dsimp only [go_sem, seval, decide_true, decide_false, h_1, h_2]) | (have h_2 := trivial)) <;>
  (first | (apply K0 <;> intro h_3 <;> simp -implicitDefEqProofs -dsimp only [go_sem, seval, decide_true, decide_false, h_1, h_2, h_3]) | (have h_3 := trivial)) <;>
  (first | (apply K0 <;> intro h_4 <;> simp -implicitDefEqProofs -dsimp only [go_sem, seval, decide_true, decide_false, h_1, h_2, h_3, h_4]) | (have h_4 := trivial))
 all_goals
  refine J9 ?_
  simp only [qm6, *, Bool.not_true, Bool.not_false, Bool.true_and, Bool.false_and, Bool.and_false, Bool.and_true]
theorem qso {R : G9} (hR : ExtR R) {T : Tab} {xs : List Rd} {cap : Option Nat} (hl : xs.length < 1000000000) : ∀ (ys : List Rd) (k : Nat), xs.drop k = ys -> k <= xs.length -> ∀ (v : AV) (T1 : Tab),
  Own T 1 v k (qsn ((xs.take k).map (·.k))) T1 ->
  (∀ v T1, Own T 1 v xs.length (qsn (xs.map (·.k))) T1 -> R (.exit 0) [(3, v), (7, .fz xs.length (xs.flatMap rdC) cap), (8, .i .i64 xs.length), (9, .i .i64 xs.length), (10, .b false)] [] T1) ->
  AW prog q4u R [(3, v), (7, .fz xs.length (xs.flatMap rdC) cap), (8, .i .i64 xs.length), (9, .i .i64 k)] [] T1 := by
 intro ys
 induction ys with
 | nil =>
  intro k hk hle v T1 ho h2
  have hk' := V6 hk hle
  refine V1 hR ?_
  unfold q4b
  obtain ⟨p1, p2, p3, p4, p5, p6⟩ := ho.form
  simp -implicitDefEqProofs -dsimp only [go_sem, seval, hk', Int.lt_irrefl, p1, p2, p3, p4, p5, p6]
  rw [hk'] at h2
  rw [List.take_of_length_le (by omega)] at ho
  exact h2 _ _ ho
 | cons y ys ih =>
  intro k hk hle v T1 ho h2
  obtain ⟨hlt, hy, hk'⟩ := Y6 hk
  obtain ⟨p1, p2, p3, p4, p5, p6⟩ := ho.form
  have hc := q08 qhh hy
  have hc5 : k * 2 + 2 <= (xs.flatMap rdC).length := by rw [Q5 qhh]; omega
  refine Q1 (l := q4u) rfl hR ?_
  unfold q4b
  simp -implicitDefEqProofs -dsimp only [go_sem, seval, Int.ofNat_lt, hlt, Int.natCast_nonneg, Int.toNat_natCast, hc, hc5, rdC, List.cons_append, List.nil_append, p1, p2, p3, p4, p5, p6]
  refine ho.app (m := 1) (news := [.s y.k]) rfl rfl (by omega) (by omega) fun v2 T2 ho => J1 ?_
  obtain ⟨p1, p2, p3, p4, p5, p6⟩ := ho.form
  simp -implicitDefEqProofs -dsimp only [go_sem, seval, p1, p2, p3, p4, p5, p6]
  rw [O8 (by omega)]
  refine ih (k + 1) hk' hlt _ _ ?_ h2
  rw [q1v hy, List.map_append, <- ql7]
  exact ho
theorem qsp (t : Tx) (k1 k2 : Option Nat) (hl : t.rs.length < 1000000000) : PCalls prog q2z [.agg (t.cells k1 k2)] (.fz t.rs.length (qsn (t.rs.map (·.k))) none) := by
 refine K6 U1 qe5 (by simp) fun T => ?_
 unfold q89
 simp -implicitDefEqProofs -dsimp only [go_sem, seval, Tx.cells]
 refine qso (T := T) (by repeat' (first | exact O6 _ _ | assumption | apply O5 | apply N4 | apply V8)) hl t.rs 0 rfl (by omega) _ _ (.nil ..) (fun v T1 ho => ?_)
 obtain ⟨p1, p2, p3, p4, p5, p6⟩ := ho.form
 simp -implicitDefEqProofs -dsimp only [go_sem, seval, p1, p2, p3, p4, p5, p6]
 exact ho.fzn
theorem qqj {R : G9} (hR : ExtR R) {T : Tab} {xs : List Wt} {cap : Option Nat} (hl : xs.length < 1000000000) : ∀ (ys : List Wt) (k : Nat), xs.drop k = ys -> k <= xs.length -> ∀ (v : AV) (T1 : Tab),
  Own T 1 v k (qsn ((xs.take k).map (·.k))) T1 ->
  (∀ v T1, Own T 1 v xs.length (qsn (xs.map (·.k))) T1 -> R (.exit 0) [(3, v), (7, .fz xs.length (xs.flatMap wtC) cap), (8, .i .i64 xs.length), (9, .i .i64 xs.length), (10, .b false)] [] T1) ->
  AW prog q4c R [(3, v), (7, .fz xs.length (xs.flatMap wtC) cap), (8, .i .i64 xs.length), (9, .i .i64 k)] [] T1 := by
 intro ys
 induction ys with
 | nil =>
  intro k hk hle v T1 ho h2
  have hk' := V6 hk hle
  refine V1 hR ?_
  unfold q3u
  obtain ⟨p1, p2, p3, p4, p5, p6⟩ := ho.form
  simp -implicitDefEqProofs -dsimp only [go_sem, seval, hk', Int.lt_irrefl, p1, p2, p3, p4, p5, p6]
  rw [hk'] at h2
  rw [List.take_of_length_le (by omega)] at ho
  exact h2 _ _ ho
 | cons y ys ih =>
  intro k hk hle v T1 ho h2
  obtain ⟨hlt, hy, hk'⟩ := Y6 hk
  obtain ⟨p1, p2, p3, p4, p5, p6⟩ := ho.form
  have hc := q08 qd4 hy
  have hc5 : k * 3 + 3 <= (xs.flatMap wtC).length := by rw [Q5 qd4]; omega
  refine Q1 (l := q4c) rfl hR ?_
  unfold q3u
  simp -implicitDefEqProofs -dsimp only [go_sem, seval, Int.ofNat_lt, hlt, Int.natCast_nonneg, Int.toNat_natCast, hc, hc5, wtC, List.cons_append, List.nil_append, p1, p2, p3, p4, p5, p6]
  refine ho.app (m := 1) (news := [.s y.k]) rfl rfl (by omega) (by omega) fun v2 T2 ho => J1 ?_
  obtain ⟨p1, p2, p3, p4, p5, p6⟩ := ho.form
  simp -implicitDefEqProofs -dsimp only [go_sem, seval, p1, p2, p3, p4, p5, p6]
  rw [O8 (by omega)]
  refine ih (k + 1) hk' hlt _ _ ?_ h2
  rw [q1v hy, List.map_append, <- ql7]
  exact ho
theorem qqk (t : Tx) (k1 k2 : Option Nat) (hl : t.ws.length < 1000000000) : PCalls prog q2k [.agg (t.cells k1 k2)] (.fz t.ws.length (qsn (t.ws.map (·.k))) none) := by
 refine K6 U1 qcz (by simp) fun T => ?_
 unfold q7s
 simp -implicitDefEqProofs -dsimp only [go_sem, seval, Tx.cells]
 refine qqj (T := T) (by repeat' (first | exact O6 _ _ | assumption | apply O5 | apply N4 | apply V8)) hl t.ws 0 rfl (by omega) _ _ (.nil ..) (fun v T1 ho => ?_)
 obtain ⟨p1, p2, p3, p4, p5, p6⟩ := ho.form
 simp -implicitDefEqProofs -dsimp only [go_sem, seval, p1, p2, p3, p4, p5, p6]
 exact ho.fzn
def wOk (w : Wt) : Bool := qyj w.v && !(w.g && !decide (w.v = []))
theorem qyk {R : G9} (hR : ExtR R) {T : Tab} {xs : List Wt} {cap : Option Nat} (hl : xs.length < 1000000000) (hs : ∀ w ∈ xs, Len w.v.length) : ∀ (ys : List Wt) (k : Nat), xs.drop k = ys -> k <= xs.length ->
  (ys.all wOk = false -> R .ret [(2, .b false)] [] T) ->
  (ys.all wOk = true -> R (.exit 0) [(6, .fz xs.length (xs.flatMap wtC) cap), (7, .i .i64 xs.length), (8, .i .i64 xs.length), (9, .b false)] [] T) ->
  AW prog q3v R [(6, .fz xs.length (xs.flatMap wtC) cap), (7, .i .i64 xs.length), (8, .i .i64 k)] [] T := by
 intro ys
 induction ys with
 | nil =>
  intro k hk hle h1 h2
  have hk' := V6 hk hle
  refine V1 hR ?_
  unfold q5d
  simp -implicitDefEqProofs -dsimp only [go_sem, seval, hk', Int.lt_irrefl]
  rw [hk'] at h2
  exact h2 rfl
 | cons y ys ih =>
  intro k hk hle h1 h2
  obtain ⟨hlt, hy, hk'⟩ := Y6 hk
  have hc := q08 qd4 hy
  have hc5 : k * 3 + 3 <= (xs.flatMap wtC).length := by rw [Q5 qd4]; omega
  have hyl : Len y.v.length := hs y (List.mem_of_getElem? hy)
  have hgo : wOk y = true -> AW prog q3v R [(6, .fz xs.length (xs.flatMap wtC) cap), (7, .i .i64 xs.length), (8, .i .i64 ((k + 1 : Nat) : Int))] [] T := fun h =>
   ih (k + 1) hk' hlt (fun h' => h1 (by simp [h, h'])) (fun h' => h2 (by simp [h, h']))
  have hno : wOk y = false -> R .ret [(2, .b false)] [] T := fun h => h1 (by simp [h])
  have hws : IntKind.i64.wrap ((k : Int) + 1) = ((k + 1 : Nat) : Int) := O8 (by omega)
  refine Q1 (l := q3v) rfl hR ?_
  unfold q5d
  simp -implicitDefEqProofs -dsimp only [go_sem, seval, Int.ofNat_lt, hlt, Int.natCast_nonneg, Int.toNat_natCast, hc, hc5, wtC, List.cons_append, List.nil_append, ↓J0 _ _ ql5]
  refine cpn (qqi y.v hyl) ?_
  simp -implicitDefEqProofs -dsimp only [go_sem, seval]
  refine K0 (fun h => ?_) (fun h => ?_)
  ·have hv : qyj y.v = false := by simpa using h
   simp -implicitDefEqProofs -dsimp only [go_sem, seval, h]
   exact hno (by rw [wOk, hv, Bool.false_and])
  have hv : qyj y.v = true := by simpa using h
  simp -implicitDefEqProofs -dsimp only [go_sem, seval, h]
  refine K0 (fun hg => ?_) (fun hg => ?_)
  ·simp -implicitDefEqProofs -dsimp only [go_sem, seval, h, hg]
   refine K0 (fun he => ?_) (fun he => ?_)
   ·simp -implicitDefEqProofs -dsimp only [go_sem, seval, h, he]
    have he : decide (y.v = []) = false := by simpa using he
    exact hno (by rw [wOk, hv, hg, he]; rfl)
   ·simp -implicitDefEqProofs -dsimp only [go_sem, seval, h, he, hws]
    have he : decide (y.v = []) = true := by simpa using he
    exact hgo (by rw [wOk, hv, hg, he]; rfl)
  ·simp -implicitDefEqProofs -dsimp only [go_sem, seval, h, hg, hws]
   exact hgo (by rw [wOk, hv, hg]; rfl)
theorem qyl (t : Tx) (k1 k2 : Option Nat) (hl : t.ws.length < 1000000000) (hs : ∀ w ∈ t.ws, Len w.v.length) : PCalls prog q4g [.agg (t.cells k1 k2)] (.b (t.ws.all wOk)) := by
 refine K6 U1 qgj (by simp) fun T => ?_
 unfold q9k
 simp -implicitDefEqProofs -dsimp only [go_sem, seval, Tx.cells]
 refine qyk (by repeat' (first | exact O6 _ _ | assumption | apply O5 | apply N4 | apply V8)) hl hs t.ws 0 rfl (by omega) (fun h => ?_) (fun h => ?_) <;> simp -implicitDefEqProofs -dsimp only [go_sem, seval] <;> exact J9 (by rw [h])
def qmn (l : List Bs) : List (AV × AV) := l.map fun k => (.s k, .i .i64 1)
theorem qql (k : Bs) : ∀ l : List Bs, qm3 .s (.s k) (qmn l) = some (if k ∈ l then some (.i .i64 1) else none)
 | [] => rfl
 | a :: l => by
  have ih := qql k l
  simp only [qmn, List.map_cons, qm3, q1l, if_true, qjx] at ih ⊢
  by_cases h : k = a
  ·simp [h]
  ·simp only [decide_eq_true_eq, h, if_false, ih, List.mem_cons, false_or]
theorem qqm (k : Bs) : ∀ l : List Bs, k ∉ l -> qno (.s k) (.i .i64 1) (qmn l) = qmn (l ++ [k])
 | [], _ => rfl
 | a :: l, h => by
  simp only [List.mem_cons, not_or] at h
  have ih := qqm k l h.2
  simp only [qmn, List.map_cons, qno, qjx, List.cons_append] at ih ⊢
  simp only [decide_eq_true_eq, h.1, if_false, ih]
theorem ql8 {v : AV} (k : Bs) : ∀ l : List Bs, qm3 .s (.s k) (qno (.s k) v (qmn l)) = some (some v)
 | [] => by simp [qmn, qno, qm3, q1l, qjx]
 | a :: l => by
  have ih := ql8 (v := v) k l
  simp only [qmn, List.map_cons, qno, qjx] at ih ⊢
  by_cases h : k = a
  ·simp [h, qm3, q1l, qjx]
  ·simp only [decide_eq_true_eq, h, if_false, qm3, q1l, if_true, qjx, ih]
def ql9 : List Bs -> List Bs -> Bool
 | _, [] => true
 | pre, k :: ks => qoo k && !decide (k ∈ pre) && ql9 (pre ++ [k]) ks
theorem z56 {R : G9} (hR : ExtR R) {id : Nat} {xs : List Bs} {cap : Option Nat} (hl : xs.length < 1000000000) (hs : ∀ w ∈ xs, Len w.length) : ∀ (ys : List Bs) (k : Nat), xs.drop k = ys -> k <= xs.length -> ∀ (T : Tab),
  T id = .mapo (qmn (xs.take k)) ->
  (ql9 (xs.take k) ys = false -> ∀ es, R .ret [(2, .b false)] [] (T.put id (.mapo es))) ->
  (ql9 (xs.take k) ys = true -> ∀ es, R (.exit 0) [(3, .mp id), (7, .fz xs.length (qsn xs) cap), (8, .i .i64 xs.length), (9, .i .i64 xs.length), (10, .b false)] [] (T.put id (.mapo es))) ->
  AW prog qbb R [(3, .mp id), (7, .fz xs.length (qsn xs) cap), (8, .i .i64 xs.length), (9, .i .i64 k)] [] T := by
 intro ys
 induction ys with
 | nil =>
  intro k hk hle T hT h1 h2
  have hk' := V6 hk hle
  refine V1 hR ?_
  unfold q9u
  simp -implicitDefEqProofs -dsimp only [go_sem, seval, hk', Int.lt_irrefl]
  have := h2 rfl (qmn (xs.take k))
  rw [Tab.put_self hT, hk'] at this
  exact this
 | cons y ys ih =>
  intro k hk hle T hT h1 h2
  obtain ⟨hlt, hy, hk'⟩ := Y6 hk
  have hyl : Len y.length := hs y (List.mem_of_getElem? hy)
  have hws : IntKind.i64.wrap ((k : Int) + 1) = ((k + 1 : Nat) : Int) := O8 (by omega)
  have hg := qql y (xs.take k)
  have v1 : IntKind.i64.wrap 1 = 1 := rfl
  have v2 : IntKind.i64.wrap 2 = 2 := rfl
  simp only [ql9] at h1 h2
  refine Q1 (l := qbb) rfl hR ?_
  unfold q9u
  simp -implicitDefEqProofs -dsimp only [go_sem, seval, Int.ofNat_lt, hlt, Int.natCast_nonneg, Int.toNat_natCast, z55, hy]
  by_cases hm : y ∈ xs.take k
  ·rw [if_pos hm] at hg
   refine qo3 hT rfl hg (J1 ?_)
   simp -implicitDefEqProofs -dsimp only [go_sem, seval, v2]
   refine qy0 hT rfl (by rw [hg]; rfl) (J1 ?_)
   simp -implicitDefEqProofs -dsimp only [go_sem, seval, ↓J0 _ _ qij]
   refine cpn (qqh y hyl) ?_
   rw [decide_eq_true hm, Bool.not_true, Bool.and_false, Bool.false_and] at h1
   simp -implicitDefEqProofs -dsimp only [go_sem, seval]
   refine K0 (fun h => ?_) (fun h => ?_)
   ·simp -implicitDefEqProofs -dsimp only [go_sem, seval, h]
    exact h1 rfl _
   ·simp -implicitDefEqProofs -dsimp only [go_sem, seval, h]
    refine qo3 (Tab.put_same ..) rfl (ql8 y _) (J1 ?_)
    simp -implicitDefEqProofs -dsimp only [go_sem, seval, h, decide_true, decide_false]
    exact h1 rfl _
  ·rw [if_neg hm] at hg
   refine z1i hT rfl hg (J1 ?_)
   simp -implicitDefEqProofs -dsimp only [go_sem, seval, v1]
   refine qy0 hT rfl (by rw [hg]; rfl) (J1 ?_)
   simp -implicitDefEqProofs -dsimp only [go_sem, seval, ↓J0 _ _ qij]
   refine cpn (qqh y hyl) ?_
   rw [decide_eq_false hm, Bool.not_false, Bool.and_true] at h1 h2
   simp -implicitDefEqProofs -dsimp only [go_sem, seval]
   refine K0 (fun h => ?_) (fun h => ?_)
   ·have hv : qoo y = false := by simpa using h
    rw [hv, Bool.false_and] at h1
    simp -implicitDefEqProofs -dsimp only [go_sem, seval, h]
    exact h1 rfl _
   ·have hv : qoo y = true := by simpa using h
    rw [hv, Bool.true_and] at h1 h2
    simp -implicitDefEqProofs -dsimp only [go_sem, seval, h]
    refine qo3 (Tab.put_same ..) rfl (ql8 y _) (J1 ?_)
    simp -implicitDefEqProofs -dsimp only [go_sem, seval, h, decide_true, decide_false, hws]
    rw [<- q1v hy] at h1 h2
    refine ih (k + 1) hk' hlt _ (by rw [Tab.put_same, qqm y _ hm, q1v hy]) (fun h' es => ?_) (fun h' es => ?_)
    ·rw [Tab.put_put]; exact h1 h' es
    ·rw [Tab.put_put]; exact h2 h' es
theorem qym (xs : List Bs) (cap : Option Nat) (hl : xs.length < 1000000000) (hs : ∀ w ∈ xs, Len w.length) : PCalls prog q7l [.fz xs.length (qsn xs) cap] (.b (ql9 [] xs)) := by
 refine K6 U1 qqa (by simp) fun T => ?_
 unfold qig
 simp -implicitDefEqProofs -dsimp only [go_sem, seval]
 refine fun id hid => J1 ?_
 simp -implicitDefEqProofs -dsimp only [go_sem, seval]
 have hfin : ∀ (b : Bool) (es : List (AV × AV)), ql9 [] xs = b -> qn5 (.b b) (fun v T' => v = .b (ql9 [] xs) /\ T' = T) ((T.put id (.mapo [])).put id (.mapo es)) := fun b es hb => by
  refine Y3 T (fun j => ?_) ⟨by rw [hb], rfl⟩
  rw [Tab.put_put]
  by_cases e : j = id
  ·subst e; exact .inl hid
  ·rw [Tab.put_ne _ _ e]; exact .refl _
 refine z56 (id := id) (by repeat' (first | exact O6 _ _ | assumption | apply O5 | apply N4 | apply V8)) hl hs xs 0 rfl (by omega) _ (by rw [Tab.put_same]; rfl) (fun h es => ?_) (fun h es => ?_)
 ·simp -implicitDefEqProofs -dsimp only [go_sem, seval]
  exact hfin _ es h
 ·simp -implicitDefEqProofs -dsimp only [go_sem, seval]
  exact hfin _ es h
def qsq (t : Tx) : Bool :=
 qm6 t.cl t.sq && !decide (8 < (t.rs.length : Int)) && !decide (8 < (t.ws.length : Int)) && !decide ((t.rs.length : Int) + t.ws.length = 0) && !(t.pl && (!decide ((t.rs.length : Int) = 0) || !decide ((t.ws.length : Int) = 1))) &&
  (ql9 [] (t.rs.map (·.k)) && ql9 [] (t.ws.map (·.k)) && t.ws.all wOk)
structure Tx.Fine (t : Tx) : Prop where
 r : t.rs.length < 1000000000
 w : t.ws.length < 1000000000
 rk : ∀ r ∈ t.rs, Len r.k.length
 wk : ∀ r ∈ t.ws, Len r.k.length
 wv : ∀ r ∈ t.ws, Len r.v.length
theorem qfi (t : Tx) (k1 k2 : Option Nat) (hf : t.Fine) : PCalls prog q2f [.agg (t.cells k1 k2)] (.b (qsq t)) := by
 obtain ⟨cl, sq, pl, rs, ws⟩ := t
 refine K6 U1 qj8 (by simp) fun T => ?_
 have w1 : IntKind.i64.wrap ((rs.length : Int) + ws.length) = (rs.length : Int) + ws.length := q0c (by have h1 : rs.length < 1000000000 := hf.r; have h2 : ws.length < 1000000000 := hf.w; unfold I64; omega)
 have c1 := qsp ⟨cl, sq, pl, rs, ws⟩ k1 k2 hf.r
 have c2 := qqk ⟨cl, sq, pl, rs, ws⟩ k1 k2 hf.w
 have c3 := qyl ⟨cl, sq, pl, rs, ws⟩ k1 k2 hf.w hf.wv
 have c4 := qym (rs.map (·.k)) none (by rw [List.length_map]; exact hf.r) (by intro w hw; obtain ⟨r, hr, rfl⟩ := List.mem_map.1 hw; exact hf.rk r hr)
 have c5 := qym (ws.map (·.k)) none (by rw [List.length_map]; exact hf.w) (by intro w hw; obtain ⟨r, hr, rfl⟩ := List.mem_map.1 hw; exact hf.wk r hr)
 rw [List.length_map] at c4 c5
 simp only [Tx.cells] at c1 c2 c3
 unfold qby
 cases pl
 all_goals
  simp -implicitDefEqProofs -dsimp only [go_sem, seval, Tx.cells, ↓J0 _ _ Y4]
  refine cpn (q1j cl sq) ?_
  rcases hid : qm6 cl sq with _ | _
 all_goals
  simp -implicitDefEqProofs -dsimp only [go_sem, seval, decide_true, decide_false, Bool.not_true, Bool.not_false]
  (first | (apply K0 <;> intro h_1 <;> simp -implicitDefEqProofs -dsimp only [go_sem, seval, w1, ↓Q2, I2, true_and, ↓J0 _ _ J3, ↓J0 _ _ J2, ↓J0 _ _ J5, ↓J0 _ _ K2, h_1]) | (refine CallK.pure (c1) (J1 ?_); simp -implicitDefEqProofs -dsimp only [go_sem, seval, w1, ↓Q2, I2, true_and, ↓J0 _ _ J3, ↓J0 _ _ J2, ↓J0 _ _ J5, ↓J0 _ _ K2]; have h_1 := trivial) | (refine CallK.pure (c2) (J1 ?_); simp -implicitDefEqProofs -dsimp only [go_sem, seval, w1, ↓Q2, I2, true_and, ↓J0 _ _ J3, ↓J0 _ _ J2, ↓J0 _ _ J5, ↓J0 _ _ K2]; have h_1 := trivial) | (refine CallK.pure (c3) (J1 ?_); simp -implicitDefEqProofs -dsimp only [go_sem, seval, w1, ↓Q2, I2, true_and, ↓J0 _ _ J3, ↓J0 _ _ J2, ↓J0 _ _ J5, ↓J0 _ _ K2]; have h_1 := trivial) | (refine CallK.pure (c4) (J1 ?_); simp -implicitDefEqProofs -dsimp only [go_sem, seval, w1, ↓Q2, I2, true_and, ↓J0 _ _ J3, ↓J0 _ _ J2, ↓J0 _ _ J5, ↓J0 _ _ K2]; have h_1 := trivial) | (refine CallK.pure (c5) (J1 ?_); simp -implicitDefEqProofs -dsimp only [go_sem, seval, w1, ↓Q2, I2, true_and, ↓J0 _ _ J3, ↓J0 _ _ J2, ↓J0 _ _ J5, ↓J0 _ _ K2]; have h_1 := trivial) | (have h_1 := trivial)) <;>
  (first | (apply K0 <;> intro h_2 <;> simp -implicitDefEqProofs -dsimp only [go_sem, seval, w1, ↓Q2, I2, true_and, ↓J0 _ _ J3, ↓J0 _ _ J2, ↓J0 _ _ J5, ↓J0 _ _ K2, h_1, h_2]) | (refine CallK.pure (c1) (J1 ?_); simp -implicitDefEqProofs -dsimp only [go_sem, seval, w1, ↓Q2, I2, true_and, ↓J0 _ _ J3, ↓J0 _ _ J2, ↓J0 _ _ J5, ↓J0 _ _ K2, h_1]; have h_2 := trivial) | (refine CallK.pure (c2) (J1 ?_); simp -implicitDefEqProofs -dsimp only [go_sem, seval, w1, ↓Q2, I2, true_and, ↓J0 _ _ J3, ↓J0 _ _ J2, ↓J0 _ _ J5, ↓J0 _ _ K2, h_1]; have h_2 := trivial) | (refine CallK.pure (c3) (J1 ?_); simp -implicitDefEqProofs -dsimp only [go_sem, seval, w1, ↓Q2, I2, true_and, ↓J0 _ _ J3, ↓J0 _ _ J2, ↓J0 _ _ J5, ↓J0 _ _ K2, h_1]; have h_2 := trivial) | (refine CallK.pure (c4) (J1 ?_); simp -implicitDefEqProofs -dsimp only [go_sem, seval, w1, ↓Q2, I2, true_and, ↓J0 _ _ J3, ↓J0 _ _ J2, ↓J0 _ _ J5, ↓J0 _ _ K2, h_1]; have h_2 := trivial) | (refine CallK.pure (c5) (J1 ?_); simp -implicitDefEqProofs -dsimp only [go_sem, seval, w1, ↓Q2, I2, true_and, ↓J0 _ _ J3, ↓J0 _ _ J2, ↓J0 _ _ J5, ↓J0 _ _ K2, h_1]; have h_2 := trivial) | (have h_2 := trivial)) <;>
  (first | (apply K0 <;> intro h_3 <;> simp -implicitDefEqProofs -dsimp only [go_sem, seval, w1, ↓Q2, I2, true_and, ↓J0 _ _ J3, ↓J0 _ _ J2, ↓J0 _ _ J5, ↓J0 _ _ K2, h_1, h_2, h_3]) | (refine CallK.pure (c1) (J1 ?_); simp -implicitDefEqProofs -dsimp only [go_sem, seval, w1, ↓Q2, I2, true_and, ↓J0 _ _ J3, ↓J0 _ _ J2, ↓J0 _ _ J5, ↓J0 _ _ K2, h_1, h_2]; have h_3 := trivial) | (refine CallK.pure (c2) (J1 ?_); simp -implicitDefEqProofs -dsimp only [go_sem, seval, w1, ↓Q2, I2, true_and, ↓J0 _ _ J3, ↓J0 _ _ J2, ↓J0 _ _ J5, ↓J0 _ _ K2, h_1, h_2]; have h_3 := trivial) | (refine CallK.pure (c3) (J1 ?_); simp -implicitDefEqProofs -dsimp only [go_sem, seval, w1, ↓Q2, I2, true_and, ↓J0 _ _ J3, ↓J0 _ _ J2, ↓J0 _ _ J5, ↓J0 _ _ K2, h_1, h_2]; have h_3 := trivial) | (refine CallK.pure (c4) (J1 ?_); simp -implicitDefEqProofs -dsimp only [go_sem, seval, w1, ↓Q2, I2, true_and, ↓J0 _ _ J3, ↓J0 _ _ J2, ↓J0 _ _ J5, ↓J0 _ _ K2, h_1, h_2]; have h_3 := trivial) | (refine CallK.pure (c5) (J1 ?_); simp -implicitDefEqProofs -dsimp only [go_sem, seval, w1, ↓Q2, I2, true_and, ↓J0 _ _ J3, ↓J0 _ _ J2, ↓J0 _ _ J5, ↓J0 _ _ K2, h_1, h_2]; have h_3 := trivial) | (have h_3 := trivial)) <;>
  (first | (apply K0 <;> intro h_4 <;> simp -implicitDefEqProofs -dsimp only [go_sem, seval, w1, ↓Q2, I2, true_and, ↓J0 _ _ J3, ↓J0 _ _ J2, ↓J0 _ _ J5, ↓J0 _ _ K2, h_1, h_2, h_3, h_4]) | (refine CallK.pure (c1) (J1 ?_); simp -implicitDefEqProofs -dsimp only [go_sem, seval, w1, ↓Q2, I2, true_and, ↓J0 _ _ J3, ↓J0 _ _ J2, ↓J0 _ _ J5, ↓J0 _ _ K2, h_1, h_2, h_3]; have h_4 := trivial) | (refine CallK.pure (c2) (J1 ?_); simp -implicitDefEqProofs -dsimp only [go_sem, seval, w1, ↓Q2, I2, true_and, ↓J0 _ _ J3, ↓J0 _ _ J2, ↓J0 _ _ J5, ↓J0 _ _ K2, h_1, h_2, h_3]; have h_4 := trivial) | (refine CallK.pure (c3) (J1 ?_); simp -implicitDefEqProofs -dsimp only [go_sem, seval, w1, ↓Q2, I2, true_and, ↓J0 _ _ J3, ↓J0 _ _ J2, ↓J0 _ _ J5, ↓J0 _ _ K2, h_1, h_2, h_3]; have h_4 := trivial) | (refine CallK.pure (c4) (J1 ?_); simp -implicitDefEqProofs -dsimp only [go_sem, seval, w1, ↓Q2, I2, true_and, ↓J0 _ _ J3, ↓J0 _ _ J2, ↓J0 _ _ J5, ↓J0 _ _ K2, h_1, h_2, h_3]; have h_4 := trivial) | (refine CallK.pure (c5) (J1 ?_); simp -implicitDefEqProofs -dsimp only [go_sem, seval, w1, ↓Q2, I2, true_and, ↓J0 _ _ J3, ↓J0 _ _ J2, ↓J0 _ _ J5, ↓J0 _ _ K2, h_1, h_2, h_3]; have h_4 := trivial) | (have h_4 := trivial)) <;>
  (first | (apply K0 <;> intro h_5 <;> simp -implicitDefEqProofs -dsimp only [go_sem, seval, w1, ↓Q2, I2, true_and, ↓J0 _ _ J3, ↓J0 _ _ J2, ↓J0 _ _ J5, ↓J0 _ _ K2, h_1, h_2, h_3, h_4, h_5]) | (refine CallK.pure (c1) (J1 ?_); simp -implicitDefEqProofs -dsimp only [go_sem, seval, w1, ↓Q2, I2, true_and, ↓J0 _ _ J3, ↓J0 _ _ J2, ↓J0 _ _ J5, ↓J0 _ _ K2, h_1, h_2, h_3, h_4]; have h_5 := trivial) | (refine CallK.pure (c2) (J1 ?_); simp -implicitDefEqProofs -dsimp only [go_sem, seval, w1, ↓Q2, I2, true_and, ↓J0 _ _ J3, ↓J0 _ _ J2, ↓J0 _ _ J5, ↓J0 _ _ K2, h_1, h_2, h_3, h_4]; have h_5 := trivial) | (refine CallK.pure (c3) (J1 ?_); simp -implicitDefEqProofs -dsimp only [go_sem, seval, w1, ↓Q2, I2, true_and, ↓J0 _ _ J3, ↓J0 _ _ J2, ↓J0 _ _ J5, ↓J0 _ _ K2, h_1, h_2, h_3, h_4]; have h_5 := trivial) | (refine CallK.pure (c4) (J1 ?_); simp -implicitDefEqProofs -dsimp only [go_sem, seval, w1, ↓Q2, I2, true_and, ↓J0 _ _ J3, ↓J0 _ _ J2, ↓J0 _ _ J5, ↓J0 _ _ K2, h_1, h_2, h_3, h_4]; have h_5 := trivial) | (refine CallK.pure (c5) (J1 ?_); simp -implicitDefEqProofs -dsimp only [go_sem, seval, w1, ↓Q2, I2, true_and, ↓J0 _ _ J3, ↓J0 _ _ J2, ↓J0 _ _ J5, ↓J0 _ _ K2, h_1, h_2, h_3, h_4]; have h_5 := trivial) | (have h_5 := trivial)) <;>
  (first | (apply K0 <;> intro h_6 <;> simp -implicitDefEqProofs -dsimp only [go_sem, seval, w1, ↓Q2, I2, true_and, ↓J0 _ _ J3, ↓J0 _ _ J2, ↓J0 _ _ J5, ↓J0 _ _ K2, h_1, h_2, h_3, h_4, h_5, h_6]) | (refine CallK.pure (c1) (J1 ?_); simp -implicitDefEqProofs -dsimp only [go_sem, seval, w1, ↓Q2, I2, true_and, ↓J0 _ _ J3, ↓J0 _ _ J2, ↓J0 _ _ J5, ↓J0 _ _ K2, h_1, h_2, h_3, h_4, h_5]; have h_6 := trivial) | (refine CallK.pure (c2) (J1 ?_); simp -implicitDefEqProofs -dsimp only [go_sem, seval, w1, ↓Q2, I2, true_and, ↓J0 _ _ J3, ↓J0 _ _ J2, ↓J0 _ _ J5, ↓J0 _ _ K2, h_1, h_2, h_3, h_4, h_5]; have h_6 := trivial) | (refine CallK.pure (c3) (J1 ?_); simp -implicitDefEqProofs -dsimp only [go_sem, seval, w1, ↓Q2, I2, true_and, ↓J0 _ _ J3, ↓J0 _ _ J2, ↓J0 _ _ J5, ↓J0 _ _ K2, h_1, h_2, h_3, h_4, h_5]; have h_6 := trivial) | (refine CallK.pure (c4) (J1 ?_); simp -implicitDefEqProofs -dsimp only [go_sem, seval, w1, ↓Q2, I2, true_and, ↓J0 _ _ J3, ↓J0 _ _ J2, ↓J0 _ _ J5, ↓J0 _ _ K2, h_1, h_2, h_3, h_4, h_5]; have h_6 := trivial) | (refine CallK.pure (c5) (J1 ?_); simp -implicitDefEqProofs -dsimp only [go_sem, seval, w1, ↓Q2, I2, true_and, ↓J0 _ _ J3, ↓J0 _ _ J2, ↓J0 _ _ J5, ↓J0 _ _ K2, h_1, h_2, h_3, h_4, h_5]; have h_6 := trivial) | (have h_6 := trivial)) <;>
  (first | (apply K0 <;> intro h_7 <;> simp -implicitDefEqProofs -dsimp only [go_sem, seval, w1, ↓Q2, I2, true_and, ↓J0 _ _ J3, ↓J0 _ _ J2, ↓J0 _ _ J5, ↓J0 _ _ K2, h_1, h_2, h_3, h_4, h_5, h_6, h_7]) | (refine CallK.pure (c1) (J1 ?_); simp -implicitDefEqProofs -dsimp only [go_sem, seval, w1, ↓Q2, I2, true_and, ↓J0 _ _ J3, ↓J0 _ _ J2, ↓J0 _ _ J5, ↓J0 _ _ K2, h_1, h_2, h_3, h_4, h_5, h_6]; have h_7 := trivial) | (refine CallK.pure (c2) (J1 ?_); simp -implicitDefEqProofs -dsimp only [go_sem, seval, w1, ↓Q2, I2, true_and, ↓J0 _ _ J3, ↓J0 _ _ J2, ↓J0 _ _ J5, ↓J0 _ _ K2, h_1, h_2, h_3, h_4, h_5, h_6]; have h_7 := trivial) | (refine CallK.pure (c3) (J1 ?_); simp -implicitDefEqProofs -dsimp only [go_sem, seval, w1, ↓Q2, I2, true_and, ↓J0 _ _ J3, ↓J0 _ _ J2, ↓J0 _ _ J5, ↓J0 _ _ K2, h_1, h_2, h_3, h_4, h_5, h_6]; have h_7 := trivial) | (refine CallK.pure (c4) (J1 ?_); simp -implicitDefEqProofs -dsimp only [go_sem, seval, w1, ↓Q2, I2, true_and, ↓J0 _ _ J3, ↓J0 _ _ J2, ↓J0 _ _ J5, ↓J0 _ _ K2, h_1, h_2, h_3, h_4, h_5, h_6]; have h_7 := trivial) | (refine CallK.pure (c5) (J1 ?_); simp -implicitDefEqProofs -dsimp only [go_sem, seval, w1, ↓Q2, I2, true_and, ↓J0 _ _ J3, ↓J0 _ _ J2, ↓J0 _ _ J5, ↓J0 _ _ K2, h_1, h_2, h_3, h_4, h_5, h_6]; have h_7 := trivial) | (have h_7 := trivial)) <;>
  (first | (apply K0 <;> intro h_8 <;> simp -implicitDefEqProofs -dsimp only [go_sem, seval, w1, ↓Q2, I2, true_and, ↓J0 _ _ J3, ↓J0 _ _ J2, ↓J0 _ _ J5, ↓J0 _ _ K2, h_1, h_2, h_3, h_4, h_5, h_6, h_7, h_8]) | (refine CallK.pure (c1) (J1 ?_); simp -implicitDefEqProofs -dsimp only [go_sem, seval, w1, ↓Q2, I2, true_and, ↓J0 _ _ J3, ↓J0 _ _ J2, ↓J0 _ _ J5, ↓J0 _ _ K2, h_1, h_2, h_3, h_4, h_5, h_6, h_7]; have h_8 := trivial) | (refine CallK.pure (c2) (J1 ?_); simp -implicitDefEqProofs -dsimp only [go_sem, seval, w1, ↓Q2, I2, true_and, ↓J0 _ _ J3, ↓J0 _ _ J2, ↓J0 _ _ J5, ↓J0 _ _ K2, h_1, h_2, h_3, h_4, h_5, h_6, h_7]; have h_8 := trivial) | (refine CallK.pure (c3) (J1 ?_); simp -implicitDefEqProofs -dsimp only [go_sem, seval, w1, ↓Q2, I2, true_and, ↓J0 _ _ J3, ↓J0 _ _ J2, ↓J0 _ _ J5, ↓J0 _ _ K2, h_1, h_2, h_3, h_4, h_5, h_6, h_7]; have h_8 := trivial) | (refine CallK.pure (c4) (J1 ?_); simp -implicitDefEqProofs -dsimp only [go_sem, seval, w1, ↓Q2, I2, true_and, ↓J0 _ _ J3, ↓J0 _ _ J2, ↓J0 _ _ J5, ↓J0 _ _ K2, h_1, h_2, h_3, h_4, h_5, h_6, h_7]; have h_8 := trivial) | (refine CallK.pure (c5) (J1 ?_); simp -implicitDefEqProofs -dsimp only [go_sem, seval, w1, ↓Q2, I2, true_and, ↓J0 _ _ J3, ↓J0 _ _ J2, ↓J0 _ _ J5, ↓J0 _ _ K2, h_1, h_2, h_3, h_4, h_5, h_6, h_7]; have h_8 := trivial) | (have h_8 := trivial)) <;>
  (first | (apply K0 <;> intro h_9 <;> simp -implicitDefEqProofs -dsimp only [go_sem, seval, w1, ↓Q2, I2, true_and, ↓J0 _ _ J3, ↓J0 _ _ J2, ↓J0 _ _ J5, ↓J0 _ _ K2, h_1, h_2, h_3, h_4, h_5, h_6, h_7, h_8, h_9]) | (refine CallK.pure (c1) (J1 ?_); simp -implicitDefEqProofs -dsimp only [go_sem, seval, w1, ↓Q2, I2, true_and, ↓J0 _ _ J3, ↓J0 _ _ J2, ↓J0 _ _ J5, ↓J0 _ _ K2, h_1, h_2, h_3, h_4, h_5, h_6, h_7, h_8]; have h_9 := trivial) | (refine CallK.pure (c2) (J1 ?_); simp -implicitDefEqProofs -dsimp only [go_sem, seval, w1, ↓Q2, I2, true_and, ↓J0 _ _ J3, ↓J0 _ _ J2, ↓J0 _ _ J5, ↓J0 _ _ K2, h_1, h_2, h_3, h_4, h_5, h_6, h_7, h_8]; have h_9 := trivial) | (refine CallK.pure (c3) (J1 ?_); simp -implicitDefEqProofs -dsimp only [go_sem, seval, w1, ↓Q2, I2, true_and, ↓J0 _ _ J3, ↓J0 _ _ J2, ↓J0 _ _ J5, ↓J0 _ _ K2, h_1, h_2, h_3, h_4, h_5, h_6, h_7, h_8]; have h_9 := trivial) | (refine CallK.pure (c4) (J1 ?_); simp -implicitDefEqProofs -dsimp only [go_sem, seval, w1, ↓Q2, I2, true_and, ↓J0 _ _ J3, ↓J0 _ _ J2, ↓J0 _ _ J5, ↓J0 _ _ K2, h_1, h_2, h_3, h_4, h_5, h_6, h_7, h_8]; have h_9 := trivial) | (refine CallK.pure (c5) (J1 ?_); simp -implicitDefEqProofs -dsimp only [go_sem, seval, w1, ↓Q2, I2, true_and, ↓J0 _ _ J3, ↓J0 _ _ J2, ↓J0 _ _ J5, ↓J0 _ _ K2, h_1, h_2, h_3, h_4, h_5, h_6, h_7, h_8]; have h_9 := trivial) | (have h_9 := trivial)) <;>
  (first | (apply K0 <;> intro h_10 <;> simp -implicitDefEqProofs -dsimp only [go_sem, seval, w1, ↓Q2, I2, true_and, ↓J0 _ _ J3, ↓J0 _ _ J2, ↓J0 _ _ J5, ↓J0 _ _ K2, h_1, h_2, h_3, h_4, h_5, h_6, h_7, h_8, h_9, h_10]) | (refine CallK.pure (c1) (J1 ?_); simp -implicitDefEqProofs -dsimp only [go_sem, seval, w1, ↓Q2, I2, true_and, ↓J0 _ _ J3, ↓J0 _ _ J2, ↓J0 _ _ J5, ↓J0 _ _ K2, h_1, h_2, h_3, h_4, h_5, h_6, h_7, h_8, h_9]; have h_10 := trivial) | (refine CallK.pure (c2) (J1 ?_); simp -implicitDefEqProofs -dsimp only [go_sem, seval, w1, ↓Q2, I2, true_and, ↓J0 _ _ J3, ↓J0 _ _ J2, ↓J0 _ _ J5, ↓J0 _ _ K2, h_1, h_2, h_3, h_4, h_5, h_6, h_7, h_8, h_9]; have h_10 := trivial) | (refine CallK.pure (c3) (J1 ?_); simp -implicitDefEqProofs -dsimp only [go_sem, seval, w1, ↓Q2, I2, true_and, ↓J0 _ _ J3, ↓J0 _ _ J2, ↓J0 _ _ J5, ↓J0 _ _ K2, h_1, h_2, h_3, h_4, h_5, h_6, h_7, h_8, h_9]; have h_10 := trivial) | (refine CallK.pure (c4) (J1 ?_); simp -implicitDefEqProofs -dsimp only [go_sem, seval, w1, ↓Q2, I2, true_and, ↓J0 _ _ J3, ↓J0 _ _ J2, ↓J0 _ _ J5, ↓J0 _ _ K2, h_1, h_2, h_3, h_4, h_5, h_6, h_7, h_8, h_9]; have h_10 := trivial) | (refine CallK.pure (c5) (J1 ?_); simp -implicitDefEqProofs -dsimp only [go_sem, seval, w1, ↓Q2, I2, true_and, ↓J0 _ _ J3, ↓J0 _ _ J2, ↓J0 _ _ J5, ↓J0 _ _ K2, h_1, h_2, h_3, h_4, h_5, h_6, h_7, h_8, h_9]; have h_10 := trivial) | (have h_10 := trivial)) <;>
  (first | (apply K0 <;> intro h_11 <;> simp -implicitDefEqProofs -dsimp only [go_sem, seval, w1, ↓Q2, I2, true_and, ↓J0 _ _ J3, ↓J0 _ _ J2, ↓J0 _ _ J5, ↓J0 _ _ K2, h_1, h_2, h_3, h_4, h_5, h_6, h_7, h_8, h_9, h_10, h_11]) | (refine CallK.pure (c1) (J1 ?_); simp -implicitDefEqProofs -dsimp only [go_sem, seval, w1, ↓Q2, I2, true_and, ↓J0 _ _ J3, ↓J0 _ _ J2, ↓J0 _ _ J5, ↓J0 _ _ K2, h_1, h_2, h_3, h_4, h_5, h_6, h_7, h_8, h_9, h_10]; have h_11 := trivial) | (refine CallK.pure (c2) (J1 ?_); simp -implicitDefEqProofs -dsimp only [go_sem, seval, w1, ↓Q2, I2, true_and, ↓J0 _ _ J3, ↓J0 _ _ J2, ↓J0 _ _ J5, ↓J0 _ _ K2, h_1, h_2, h_3, h_4, h_5, h_6, h_7, h_8, h_9, h_10]; have h_11 := trivial) | (refine CallK.pure (c3) (J1 ?_); simp -implicitDefEqProofs -dsimp only [go_sem, seval, w1, ↓Q2, I2, true_and, ↓J0 _ _ J3, ↓J0 _ _ J2, ↓J0 _ _ J5, ↓J0 _ _ K2, h_1, h_2, h_3, h_4, h_5, h_6, h_7, h_8, h_9, h_10]; have h_11 := trivial) | (refine CallK.pure (c4) (J1 ?_); simp -implicitDefEqProofs -dsimp only [go_sem, seval, w1, ↓Q2, I2, true_and, ↓J0 _ _ J3, ↓J0 _ _ J2, ↓J0 _ _ J5, ↓J0 _ _ K2, h_1, h_2, h_3, h_4, h_5, h_6, h_7, h_8, h_9, h_10]; have h_11 := trivial) | (refine CallK.pure (c5) (J1 ?_); simp -implicitDefEqProofs -dsimp only [go_sem, seval, w1, ↓Q2, I2, true_and, ↓J0 _ _ J3, ↓J0 _ _ J2, ↓J0 _ _ J5, ↓J0 _ _ K2, h_1, h_2, h_3, h_4, h_5, h_6, h_7, h_8, h_9, h_10]; have h_11 := trivial) | (have h_11 := trivial)) <;>
  (first | (apply K0 <;> intro h_12 <;> simp -implicitDefEqProofs -dsimp only [go_sem, seval, w1, ↓Q2, I2, true_and, ↓J0 _ _ J3, ↓J0 _ _ J2, ↓J0 _ _ J5, ↓J0 _ _ K2, h_1, h_2, h_3, h_4, h_5, h_6, h_7, h_8, h_9, h_10, h_11, h_12]) | (refine CallK.pure (c1) (J1 ?_); simp -implicitDefEqProofs -dsimp only [go_sem, seval, w1, ↓Q2, I2, true_and, ↓J0 _ _ J3, ↓J0 _ _ J2, ↓J0 _ _ J5, ↓J0 _ _ K2, h_1, h_2, h_3, h_4, h_5, h_6, h_7, h_8, h_9, h_10, h_11]; have h_12 := trivial) | (refine CallK.pure (c2) (J1 ?_); simp -implicitDefEqProofs -dsimp only [go_sem, seval, w1, ↓Q2, I2, true_and, ↓J0 _ _ J3, ↓J0 _ _ J2, ↓J0 _ _ J5, ↓J0 _ _ K2, h_1, h_2, h_3, h_4, h_5, h_6, h_7, h_8, h_9, h_10, h_11]; have h_12 := trivial) | (refine CallK.pure (c3) (J1 ?_); simp -implicitDefEqProofs -dsimp only [go_sem, seval, w1, ↓Q2, I2, true_and, ↓J0 _ _ J3, ↓J0 _ _ J2, ↓J0 _ _ J5, ↓J0 _ _ K2, h_1, h_2, h_3, h_4, h_5, h_6, h_7, h_8, h_9, h_10, h_11]; have h_12 := trivial) | (refine CallK.pure (c4) (J1 ?_); simp -implicitDefEqProofs -dsimp only [go_sem, seval, w1, ↓Q2, I2, true_and, ↓J0 _ _ J3, ↓J0 _ _ J2, ↓J0 _ _ J5, ↓J0 _ _ K2, h_1, h_2, h_3, h_4, h_5, h_6, h_7, h_8, h_9, h_10, h_11]; have h_12 := trivial) | (refine CallK.pure (c5) (J1 ?_); simp -implicitDefEqProofs -dsimp only [go_sem, seval, w1, ↓Q2, I2, true_and, ↓J0 _ _ J3, ↓J0 _ _ J2, ↓J0 _ _ J5, ↓J0 _ _ K2, h_1, h_2, h_3, h_4, h_5, h_6, h_7, h_8, h_9, h_10, h_11]; have h_12 := trivial) | (have h_12 := trivial)) <;>
  (first | (apply K0 <;> intro h_13 <;> simp -implicitDefEqProofs -dsimp only [go_sem, seval, w1, ↓Q2, I2, true_and, ↓J0 _ _ J3, ↓J0 _ _ J2, ↓J0 _ _ J5, ↓J0 _ _ K2, h_1, h_2, h_3, h_4, h_5, h_6, h_7, h_8, h_9, h_10, h_11, h_12, h_13]) | (refine CallK.pure (c1) (J1 ?_); simp -implicitDefEqProofs -dsimp only [go_sem, seval, w1, ↓Q2, I2, true_and, ↓J0 _ _ J3, ↓J0 _ _ J2, ↓J0 _ _ J5, ↓J0 _ _ K2, h_1, h_2, h_3, h_4, h_5, h_6, h_7, h_8, h_9, h_10, h_11, h_12]; have h_13 := trivial) | (refine CallK.pure (c2) (J1 ?_); simp -implicitDefEqProofs -dsimp only [go_sem, seval, w1, ↓Q2, I2, true_and, ↓J0 _ _ J3, ↓J0 _ _ J2, ↓J0 _ _ J5, ↓J0 _ _ K2, h_1, h_2, h_3, h_4, h_5, h_6, h_7, h_8, h_9, h_10, h_11, h_12]; have h_13 := trivial) | (refine CallK.pure (c3) (J1 ?_); simp -implicitDefEqProofs -dsimp only [go_sem, seval, w1, ↓Q2, I2, true_and, ↓J0 _ _ J3, ↓J0 _ _ J2, ↓J0 _ _ J5, ↓J0 _ _ K2, h_1, h_2, h_3, h_4, h_5, h_6, h_7, h_8, h_9, h_10, h_11, h_12]; have h_13 := trivial) | (refine CallK.pure (c4) (J1 ?_); simp -implicitDefEqProofs -dsimp only [go_sem, seval, w1, ↓Q2, I2, true_and, ↓J0 _ _ J3, ↓J0 _ _ J2, ↓J0 _ _ J5, ↓J0 _ _ K2, h_1, h_2, h_3, h_4, h_5, h_6, h_7, h_8, h_9, h_10, h_11, h_12]; have h_13 := trivial) | (refine CallK.pure (c5) (J1 ?_); simp -implicitDefEqProofs -dsimp only [go_sem, seval, w1, ↓Q2, I2, true_and, ↓J0 _ _ J3, ↓J0 _ _ J2, ↓J0 _ _ J5, ↓J0 _ _ K2, h_1, h_2, h_3, h_4, h_5, h_6, h_7, h_8, h_9, h_10, h_11, h_12]; have h_13 := trivial) | (have h_13 := trivial)) <;>
  (first | (apply K0 <;> intro h_14 <;> simp -implicitDefEqProofs -dsimp only [go_sem, seval, w1, ↓Q2, I2, true_and, ↓J0 _ _ J3, ↓J0 _ _ J2, ↓J0 _ _ J5, ↓J0 _ _ K2, h_1, h_2, h_3, h_4, h_5, h_6, h_7, h_8, h_9, h_10, h_11, h_12, h_13, h_14]) | (refine CallK.pure (c1) (J1 ?_); simp -implicitDefEqProofs -dsimp only [go_sem, seval, w1, ↓Q2, I2, true_and, ↓J0 _ _ J3, ↓J0 _ _ J2, ↓J0 _ _ J5, ↓J0 _ _ K2, h_1, h_2, h_3, h_4, h_5, h_6, h_7, h_8, h_9, h_10, h_11, h_12, h_13]; have h_14 := trivial) | (refine CallK.pure (c2) (J1 ?_); simp -implicitDefEqProofs -dsimp only [go_sem, seval, w1, ↓Q2, I2, true_and, ↓J0 _ _ J3, ↓J0 _ _ J2, ↓J0 _ _ J5, ↓J0 _ _ K2, h_1, h_2, h_3, h_4, h_5, h_6, h_7, h_8, h_9, h_10, h_11, h_12, h_13]; have h_14 := trivial) | (refine CallK.pure (c3) (J1 ?_); simp -implicitDefEqProofs -dsimp only [go_sem, seval, w1, ↓Q2, I2, true_and, ↓J0 _ _ J3, ↓J0 _ _ J2, ↓J0 _ _ J5, ↓J0 _ _ K2, h_1, h_2, h_3, h_4, h_5, h_6, h_7, h_8, h_9, h_10, h_11, h_12, h_13]; have h_14 := trivial) | (refine CallK.pure (c4) (J1 ?_); simp -implicitDefEqProofs -dsimp only [go_sem, seval, w1, ↓Q2, I2, true_and, ↓J0 _ _ J3, ↓J0 _ _ J2, ↓J0 _ _ J5, ↓J0 _ _ K2, h_1, h_2, h_3, h_4, h_5, h_6, h_7, h_8, h_9, h_10, h_11, h_12, h_13]; have h_14 := trivial) | (refine CallK.pure (c5) (J1 ?_); simp -implicitDefEqProofs -dsimp only [go_sem, seval, w1, ↓Q2, I2, true_and, ↓J0 _ _ J3, ↓J0 _ _ J2, ↓J0 _ _ J5, ↓J0 _ _ K2, h_1, h_2, h_3, h_4, h_5, h_6, h_7, h_8, h_9, h_10, h_11, h_12, h_13]; have h_14 := trivial) | (have h_14 := trivial))
  all_goals (
   refine J9 ?_
   simp only [qsq, *, Bool.not_true, Bool.not_false, Bool.true_and, Bool.false_and, Bool.and_false, Bool.and_true, Bool.or_true, Bool.true_or, Bool.false_or, Bool.or_false])
end Go.Aw
