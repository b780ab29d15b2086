import Derived.Test.YtmicojcojlgefaaK29S12N
namespace Go.Aw
open Go
open Go.Proofs.Try (prog)
set_option linter.all false
set_option maxHeartbeats 4000000
abbrev Bs := List UInt8
structure Rd where
 k : Bs
 n : Int
structure Wt where
 k : Bs
 v : Bs
 g : Bool
structure Tx where
 cl : Int
 sq : Int
 pl : Bool
 rs : List Rd
 ws : List Wt
def rdC (r : Rd) : List AV := [.s r.k, .i .u64 r.n]
def wtC (w : Wt) : List AV := [.s w.k, .s w.v, .b w.g]
theorem q4z (r : Rd) : (rdC r).length = 2 := rfl
theorem q3z (r : Wt) : (wtC r).length = 3 := rfl
def Tx.cells (t : Tx) (k1 k2 : Option Nat) : List AV := [.i .i64 t.cl, .i .u64 t.sq, .b t.pl, .fz t.rs.length (t.rs.flatMap rdC) k1, .fz t.ws.length (t.ws.flatMap wtC) k2]
def qfy (l : List Bs) : List AV := l.map .s
theorem qma (l : List Bs) : (qfy l).length = l.length := by simp [qfy]
theorem qq3 (l : List Bs) (k : Nat) : ((qfy l).drop k)[0]? = (l[k]?).map .s := by simp [qfy]
theorem qcy (l m : List Bs) : qfy l ++ qfy m = qfy (l ++ m) := by simp [qfy]
def qo6 (c s : Int) : Bool := decide (0 <= c) && decide (c < 6) && decide (0 < s)
theorem q0v (c s : Int) : PCalls prog q29 [.agg [.i .i64 c, .i .u64 s]] (.b (qo6 c s)) := by
 refine K4 U6 qh3 (by simp) fun T => ?_
 unfold qaj
 simp -implicitDefEqProofs -dsimp only [go_sem, seval, decide_true, decide_false]
 (first | (apply J7 <;> intro h_1 <;> simp -implicitDefEqProofs -dsimp only [go_sem, seval, decide_true, decide_false, h_1]) | (have h_1 := trivial)) <;>
  (first | (apply J7 <;> intro h_2 <;> simp -implicitDefEqProofs -dsimp only [go_sem, seval, decide_true, decide_false, h_1, h_2]) | (have h_2 := trivial)) <;>
  (first | (apply J7 <;> intro h_3 <;> simp -implicitDefEqProofs -dsimp only [go_sem, seval, decide_true, decide_false, h_1, h_2, h_3]) | (have h_3 := trivial)) <;>
  (first | (apply J7 <;> intro h_4 <;> simp -implicitDefEqProofs -dsimp only [go_sem, seval, decide_true, decide_false, h_1, h_2, h_3, h_4]) | (have h_4 := trivial))
 all_goals
  refine K2 ?_
  simp only [qo6, *, Bool.not_true, Bool.not_false, Bool.true_and, Bool.false_and, Bool.and_false, Bool.and_true]
theorem qmb {R : I2} (hR : ExtR R) {T : Tab} {xs : List Rd} {cap : Option Nat} (hl : xs.length < 1000000000) : ∀ (ys : List Rd) (k : Nat), xs.drop k = ys -> k <= xs.length -> ∀ (v : AV) (T1 : Tab),
  Own T 1 v k (qfy ((xs.take k).map (·.k))) T1 ->
  (∀ v T1, Own T 1 v xs.length (qfy (xs.map (·.k))) T1 -> R (.exit 0) [(3, v), (7, .fz xs.length (xs.flatMap rdC) cap), (8, .i .i64 xs.length), (9, .i .i64 xs.length), (10, .b false)] [] T1) ->
  AW prog q3v R [(3, v), (7, .fz xs.length (xs.flatMap rdC) cap), (8, .i .i64 xs.length), (9, .i .i64 k)] [] T1 := by
 intro ys
 induction ys with
 | nil =>
  intro k hk hle v T1 ho h2
  have hk' := V0 hk hle
  refine V7 hR ?_
  unfold q3f
  obtain ⟨p1, p2, p3, p4, p5, p6⟩ := ho.form
  simp -implicitDefEqProofs -dsimp only [go_sem, seval, hk', Int.lt_irrefl, p1, p2, p3, p4, p5, p6]
  rw [hk'] at h2
  rw [List.take_of_length_le (by omega)] at ho
  exact h2 _ _ ho
 | cons y ys ih =>
  intro k hk hle v T1 ho h2
  obtain ⟨hlt, hy, hk'⟩ := V8 hk
  obtain ⟨p1, p2, p3, p4, p5, p6⟩ := ho.form
  have hc := I4 q4z hy
  have hc5 : k * 2 + 2 <= (xs.flatMap rdC).length := by rw [O1 q4z]; omega
  refine Q4 (l := q3v) rfl hR ?_
  unfold q3f
  simp -implicitDefEqProofs -dsimp only [go_sem, seval, Int.ofNat_lt, hlt, Int.natCast_nonneg, Int.toNat_natCast, hc, hc5, rdC, List.cons_append, List.nil_append, p1, p2, p3, p4, p5, p6]
  refine ho.app (m := 1) (news := [.s y.k]) rfl rfl (by omega) (by omega) fun v2 T2 ho => J1 ?_
  obtain ⟨p1, p2, p3, p4, p5, p6⟩ := ho.form
  simp -implicitDefEqProofs -dsimp only [go_sem, seval, p1, p2, p3, p4, p5, p6]
  rw [O7 (by omega)]
  refine ih (k + 1) hk' hlt _ _ ?_ h2
  rw [q0l hy, List.map_append, <- qcy]
  exact ho
theorem qhb (t : Tx) (k1 k2 : Option Nat) (hl : t.rs.length < 1000000000) : PCalls prog q10 [.agg (t.cells k1 k2)] (.fz t.rs.length (qfy (t.rs.map (·.k))) none) := by
 refine K4 U6 qbj (by simp) fun T => ?_
 unfold q6p
 simp -implicitDefEqProofs -dsimp only [go_sem, seval, Tx.cells]
 refine qmb (T := T) (by repeat' (first | exact O9 _ _ | assumption | apply O8 | apply N9 | apply Z5)) hl t.rs 0 rfl (by omega) _ _ (.nil ..) (fun v T1 ho => ?_)
 obtain ⟨p1, p2, p3, p4, p5, p6⟩ := ho.form
 simp -implicitDefEqProofs -dsimp only [go_sem, seval, p1, p2, p3, p4, p5, p6]
 exact ho.fzn
theorem qkw {R : I2} (hR : ExtR R) {T : Tab} {xs : List Wt} {cap : Option Nat} (hl : xs.length < 1000000000) : ∀ (ys : List Wt) (k : Nat), xs.drop k = ys -> k <= xs.length -> ∀ (v : AV) (T1 : Tab),
  Own T 1 v k (qfy ((xs.take k).map (·.k))) T1 ->
  (∀ v T1, Own T 1 v xs.length (qfy (xs.map (·.k))) T1 -> R (.exit 0) [(3, v), (7, .fz xs.length (xs.flatMap wtC) cap), (8, .i .i64 xs.length), (9, .i .i64 xs.length), (10, .b false)] [] T1) ->
  AW prog q3g R [(3, v), (7, .fz xs.length (xs.flatMap wtC) cap), (8, .i .i64 xs.length), (9, .i .i64 k)] [] T1 := by
 intro ys
 induction ys with
 | nil =>
  intro k hk hle v T1 ho h2
  have hk' := V0 hk hle
  refine V7 hR ?_
  unfold q2y
  obtain ⟨p1, p2, p3, p4, p5, p6⟩ := ho.form
  simp -implicitDefEqProofs -dsimp only [go_sem, seval, hk', Int.lt_irrefl, p1, p2, p3, p4, p5, p6]
  rw [hk'] at h2
  rw [List.take_of_length_le (by omega)] at ho
  exact h2 _ _ ho
 | cons y ys ih =>
  intro k hk hle v T1 ho h2
  obtain ⟨hlt, hy, hk'⟩ := V8 hk
  obtain ⟨p1, p2, p3, p4, p5, p6⟩ := ho.form
  have hc := I4 q3z hy
  have hc5 : k * 3 + 3 <= (xs.flatMap wtC).length := by rw [O1 q3z]; omega
  refine Q4 (l := q3g) rfl hR ?_
  unfold q2y
  simp -implicitDefEqProofs -dsimp only [go_sem, seval, Int.ofNat_lt, hlt, Int.natCast_nonneg, Int.toNat_natCast, hc, hc5, wtC, List.cons_append, List.nil_append, p1, p2, p3, p4, p5, p6]
  refine ho.app (m := 1) (news := [.s y.k]) rfl rfl (by omega) (by omega) fun v2 T2 ho => J1 ?_
  obtain ⟨p1, p2, p3, p4, p5, p6⟩ := ho.form
  simp -implicitDefEqProofs -dsimp only [go_sem, seval, p1, p2, p3, p4, p5, p6]
  rw [O7 (by omega)]
  refine ih (k + 1) hk' hlt _ _ ?_ h2
  rw [q0l hy, List.map_append, <- qcy]
  exact ho
theorem qfd (t : Tx) (k1 k2 : Option Nat) (hl : t.ws.length < 1000000000) : PCalls prog q0m [.agg (t.cells k1 k2)] (.fz t.ws.length (qfy (t.ws.map (·.k))) none) := by
 refine K4 U6 qal (by simp) fun T => ?_
 unfold q6a
 simp -implicitDefEqProofs -dsimp only [go_sem, seval, Tx.cells]
 refine qkw (T := T) (by repeat' (first | exact O9 _ _ | assumption | apply O8 | apply N9 | apply Z5)) hl t.ws 0 rfl (by omega) _ _ (.nil ..) (fun v T1 ho => ?_)
 obtain ⟨p1, p2, p3, p4, p5, p6⟩ := ho.form
 simp -implicitDefEqProofs -dsimp only [go_sem, seval, p1, p2, p3, p4, p5, p6]
 exact ho.fzn
def wOk (w : Wt) : Bool := qm9 w.v && !(w.g && !decide (w.v = []))
theorem qq4 {R : I2} (hR : ExtR R) {T : Tab} {xs : List Wt} {cap : Option Nat} (hl : xs.length < 1000000000) (hs : ∀ w ∈ xs, Len w.v.length) : ∀ (ys : List Wt) (k : Nat), xs.drop k = ys -> k <= xs.length ->
  (ys.all wOk = false -> R .ret [(2, .b false)] [] T) ->
  (ys.all wOk = true -> R (.exit 0) [(6, .fz xs.length (xs.flatMap wtC) cap), (7, .i .i64 xs.length), (8, .i .i64 xs.length), (9, .b false)] [] T) ->
  AW prog q2z R [(6, .fz xs.length (xs.flatMap wtC) cap), (7, .i .i64 xs.length), (8, .i .i64 k)] [] T := by
 intro ys
 induction ys with
 | nil =>
  intro k hk hle h1 h2
  have hk' := V0 hk hle
  refine V7 hR ?_
  unfold q4d
  simp -implicitDefEqProofs -dsimp only [go_sem, seval, hk', Int.lt_irrefl]
  rw [hk'] at h2
  exact h2 rfl
 | cons y ys ih =>
  intro k hk hle h1 h2
  obtain ⟨hlt, hy, hk'⟩ := V8 hk
  have hc := I4 q3z hy
  have hc5 : k * 3 + 3 <= (xs.flatMap wtC).length := by rw [O1 q3z]; omega
  have hyl : Len y.v.length := hs y (List.mem_of_getElem? hy)
  have hgo : wOk y = true -> AW prog q2z R [(6, .fz xs.length (xs.flatMap wtC) cap), (7, .i .i64 xs.length), (8, .i .i64 ((k + 1 : Nat) : Int))] [] T := fun h =>
   ih (k + 1) hk' hlt (fun h' => h1 (by simp [h, h'])) (fun h' => h2 (by simp [h, h']))
  have hno : wOk y = false -> R .ret [(2, .b false)] [] T := fun h => h1 (by simp [h])
  have hws : IntKind.i64.wrap ((k : Int) + 1) = ((k + 1 : Nat) : Int) := O7 (by omega)
  refine Q4 (l := q2z) rfl hR ?_
  unfold q4d
  simp -implicitDefEqProofs -dsimp only [go_sem, seval, Int.ofNat_lt, hlt, Int.natCast_nonneg, Int.toNat_natCast, hc, hc5, wtC, List.cons_append, List.nil_append, ↓J0 _ _ qha]
  refine cpn (qkv y.v hyl) ?_
  simp -implicitDefEqProofs -dsimp only [go_sem, seval]
  refine J7 (fun h => ?_) (fun h => ?_)
  ·have hv : qm9 y.v = false := by simpa using h
   simp -implicitDefEqProofs -dsimp only [go_sem, seval, h]
   exact hno (by rw [wOk, hv, Bool.false_and])
  have hv : qm9 y.v = true := by simpa using h
  simp -implicitDefEqProofs -dsimp only [go_sem, seval, h]
  refine J7 (fun hg => ?_) (fun hg => ?_)
  ·simp -implicitDefEqProofs -dsimp only [go_sem, seval, h, hg]
   refine J7 (fun he => ?_) (fun he => ?_)
   ·simp -implicitDefEqProofs -dsimp only [go_sem, seval, h, he]
    have he : decide (y.v = []) = false := by simpa using he
    exact hno (by rw [wOk, hv, hg, he]; rfl)
   ·simp -implicitDefEqProofs -dsimp only [go_sem, seval, h, he, hws]
    have he : decide (y.v = []) = true := by simpa using he
    exact hgo (by rw [wOk, hv, hg, he]; rfl)
  ·simp -implicitDefEqProofs -dsimp only [go_sem, seval, h, hg, hws]
   exact hgo (by rw [wOk, hv, hg]; rfl)
theorem qq5 (t : Tx) (k1 k2 : Option Nat) (hl : t.ws.length < 1000000000) (hs : ∀ w ∈ t.ws, Len w.v.length) : PCalls prog q3n [.agg (t.cells k1 k2)] (.b (t.ws.all wOk)) := by
 refine K4 U6 qdu (by simp) fun T => ?_
 unfold q7v
 simp -implicitDefEqProofs -dsimp only [go_sem, seval, Tx.cells]
 refine qq4 (by repeat' (first | exact O9 _ _ | assumption | apply O8 | apply N9 | apply Z5)) hl hs t.ws 0 rfl (by omega) (fun h => ?_) (fun h => ?_) <;> simp -implicitDefEqProofs -dsimp only [go_sem, seval] <;> exact K2 (by rw [h])
def qi6 (l : List Bs) : List (AV × AV) := l.map fun k => (.s k, .i .i64 1)
theorem qkx (k : Bs) : ∀ l : List Bs, qhk .s (.s k) (qi6 l) = some (if k ∈ l then some (.i .i64 1) else none)
 | [] => rfl
 | a :: l => by
  have ih := qkx k l
  simp only [qi6, List.map_cons, qhk, q0w, if_true, qgg] at ih ⊢
  by_cases h : k = a
  ·simp [h]
  ·simp only [decide_eq_true_eq, h, if_false, ih, List.mem_cons, false_or]
theorem qky (k : Bs) : ∀ l : List Bs, k ∉ l -> qiu (.s k) (.i .i64 1) (qi6 l) = qi6 (l ++ [k])
 | [], _ => rfl
 | a :: l, h => by
  simp only [List.mem_cons, not_or] at h
  have ih := qky k l h.2
  simp only [qi6, List.map_cons, qiu, qgg, List.cons_append] at ih ⊢
  simp only [decide_eq_true_eq, h.1, if_false, ih]
theorem qhc {v : AV} (k : Bs) : ∀ l : List Bs, qhk .s (.s k) (qiu (.s k) v (qi6 l)) = some (some v)
 | [] => by simp [qi6, qiu, qhk, q0w, qgg]
 | a :: l => by
  have ih := qhc (v := v) k l
  simp only [qi6, List.map_cons, qiu, qgg] at ih ⊢
  by_cases h : k = a
  ·simp [h, qhk, q0w, qgg]
  ·simp only [decide_eq_true_eq, h, if_false, qhk, q0w, if_true, qgg, ih]
def q8a : List Bs -> List Bs -> Bool
 | _, [] => true
 | pre, k :: ks => q9g k && !decide (k ∈ pre) && q8a (pre ++ [k]) ks
theorem qtk {R : I2} (hR : ExtR R) {id : Nat} {xs : List Bs} {cap : Option Nat} (hl : xs.length < 1000000000) (hs : ∀ w ∈ xs, Len w.length) : ∀ (ys : List Bs) (k : Nat), xs.drop k = ys -> k <= xs.length -> ∀ (T : Tab),
  T id = .mapo (qi6 (xs.take k)) ->
  (q8a (xs.take k) ys = false -> ∀ es, R .ret [(2, .b false)] [] (T.put id (.mapo es))) ->
  (q8a (xs.take k) ys = true -> ∀ es, R (.exit 0) [(3, .mp id), (7, .fz xs.length (qfy xs) cap), (8, .i .i64 xs.length), (9, .i .i64 xs.length), (10, .b false)] [] (T.put id (.mapo es))) ->
  AW prog q91 R [(3, .mp id), (7, .fz xs.length (qfy xs) cap), (8, .i .i64 xs.length), (9, .i .i64 k)] [] T := by
 intro ys
 induction ys with
 | nil =>
  intro k hk hle T hT h1 h2
  have hk' := V0 hk hle
  refine V7 hR ?_
  unfold q83
  simp -implicitDefEqProofs -dsimp only [go_sem, seval, hk', Int.lt_irrefl]
  have := h2 rfl (qi6 (xs.take k))
  rw [Tab.put_self hT, hk'] at this
  exact this
 | cons y ys ih =>
  intro k hk hle T hT h1 h2
  obtain ⟨hlt, hy, hk'⟩ := V8 hk
  have hyl : Len y.length := hs y (List.mem_of_getElem? hy)
  have hws : IntKind.i64.wrap ((k : Int) + 1) = ((k + 1 : Nat) : Int) := O7 (by omega)
  have hg := qkx y (xs.take k)
  have v1 : IntKind.i64.wrap 1 = 1 := rfl
  have v2 : IntKind.i64.wrap 2 = 2 := rfl
  simp only [q8a] at h1 h2
  refine Q4 (l := q91) rfl hR ?_
  unfold q83
  simp -implicitDefEqProofs -dsimp only [go_sem, seval, Int.ofNat_lt, hlt, Int.natCast_nonneg, Int.toNat_natCast, qq3, hy]
  by_cases hm : y ∈ xs.take k
  ·rw [if_pos hm] at hg
   refine qj9 hT rfl hg (J1 ?_)
   simp -implicitDefEqProofs -dsimp only [go_sem, seval, v2]
   refine qpt hT rfl (by rw [hg]; rfl) (J1 ?_)
   simp -implicitDefEqProofs -dsimp only [go_sem, seval, ↓J0 _ _ q7r]
   refine cpn (qe6 y hyl) ?_
   rw [decide_eq_true hm, Bool.not_true, Bool.and_false, Bool.false_and] at h1
   simp -implicitDefEqProofs -dsimp only [go_sem, seval]
   refine J7 (fun h => ?_) (fun h => ?_)
   ·simp -implicitDefEqProofs -dsimp only [go_sem, seval, h]
    exact h1 rfl _
   ·simp -implicitDefEqProofs -dsimp only [go_sem, seval, h]
    refine qj9 (Tab.put_same ..) rfl (qhc y _) (J1 ?_)
    simp -implicitDefEqProofs -dsimp only [go_sem, seval, h, decide_true, decide_false]
    exact h1 rfl _
  ·rw [if_neg hm] at hg
   refine qrm hT rfl hg (J1 ?_)
   simp -implicitDefEqProofs -dsimp only [go_sem, seval, v1]
   refine qpt hT rfl (by rw [hg]; rfl) (J1 ?_)
   simp -implicitDefEqProofs -dsimp only [go_sem, seval, ↓J0 _ _ q7r]
   refine cpn (qe6 y hyl) ?_
   rw [decide_eq_false hm, Bool.not_false, Bool.and_true] at h1 h2
   simp -implicitDefEqProofs -dsimp only [go_sem, seval]
   refine J7 (fun h => ?_) (fun h => ?_)
   ·have hv : q9g y = false := by simpa using h
    rw [hv, Bool.false_and] at h1
    simp -implicitDefEqProofs -dsimp only [go_sem, seval, h]
    exact h1 rfl _
   ·have hv : q9g y = true := by simpa using h
    rw [hv, Bool.true_and] at h1 h2
    simp -implicitDefEqProofs -dsimp only [go_sem, seval, h]
    refine qj9 (Tab.put_same ..) rfl (qhc y _) (J1 ?_)
    simp -implicitDefEqProofs -dsimp only [go_sem, seval, h, decide_true, decide_false, hws]
    rw [<- q0l hy] at h1 h2
    refine ih (k + 1) hk' hlt _ (by rw [Tab.put_same, qky y _ hm, q0l hy]) (fun h' es => ?_) (fun h' es => ?_)
    ·rw [Tab.put_put]; exact h1 h' es
    ·rw [Tab.put_put]; exact h2 h' es
theorem qq6 (xs : List Bs) (cap : Option Nat) (hl : xs.length < 1000000000) (hs : ∀ w ∈ xs, Len w.length) : PCalls prog q67 [.fz xs.length (qfy xs) cap] (.b (q8a [] xs)) := by
 refine K4 U6 qko (by simp) fun T => ?_
 unfold qf7
 simp -implicitDefEqProofs -dsimp only [go_sem, seval]
 refine fun id hid => J1 ?_
 simp -implicitDefEqProofs -dsimp only [go_sem, seval]
 have hfin : ∀ (b : Bool) (es : List (AV × AV)), q8a [] xs = b -> qil (.b b) (fun v T' => v = .b (q8a [] xs) /\ T' = T) ((T.put id (.mapo [])).put id (.mapo es)) := fun b es hb => by
  refine q1d T (fun j => ?_) ⟨by rw [hb], rfl⟩
  rw [Tab.put_put]
  by_cases e : j = id
  ·subst e; exact .inl hid
  ·rw [Tab.put_ne _ _ e]; exact .refl _
 refine qtk (id := id) (by repeat' (first | exact O9 _ _ | assumption | apply O8 | apply N9 | apply Z5)) hl hs xs 0 rfl (by omega) _ (by rw [Tab.put_same]; rfl) (fun h es => ?_) (fun h es => ?_)
 ·simp -implicitDefEqProofs -dsimp only [go_sem, seval]
  exact hfin _ es h
 ·simp -implicitDefEqProofs -dsimp only [go_sem, seval]
  exact hfin _ es h
def qfe (t : Tx) : Bool :=
 qo6 t.cl t.sq && !decide (8 < (t.rs.length : Int)) && !decide (8 < (t.ws.length : Int)) && !decide ((t.rs.length : Int) + t.ws.length = 0) && !(t.pl && (!decide ((t.rs.length : Int) = 0) || !decide ((t.ws.length : Int) = 1))) &&
  (q8a [] (t.rs.map (·.k)) && q8a [] (t.ws.map (·.k)) && t.ws.all wOk)
structure Tx.Fine (t : Tx) : Prop where
 r : t.rs.length < 1000000000
 w : t.ws.length < 1000000000
 rk : ∀ r ∈ t.rs, Len r.k.length
 wk : ∀ r ∈ t.ws, Len r.k.length
 wv : ∀ r ∈ t.ws, Len r.v.length
theorem q9h (t : Tx) (k1 k2 : Option Nat) (hf : t.Fine) : PCalls prog q0x [.agg (t.cells k1 k2)] (.b (qfe t)) := by
 obtain ⟨cl, sq, pl, rs, ws⟩ := t
 refine K4 U6 qfm (by simp) fun T => ?_
 have w1 : IntKind.i64.wrap ((rs.length : Int) + ws.length) = (rs.length : Int) + ws.length := q15 (by have h1 : rs.length < 1000000000 := hf.r; have h2 : ws.length < 1000000000 := hf.w; unfold I64; omega)
 have c1 := qhb ⟨cl, sq, pl, rs, ws⟩ k1 k2 hf.r
 have c2 := qfd ⟨cl, sq, pl, rs, ws⟩ k1 k2 hf.w
 have c3 := qq5 ⟨cl, sq, pl, rs, ws⟩ k1 k2 hf.w hf.wv
 have c4 := qq6 (rs.map (·.k)) none (by rw [List.length_map]; exact hf.r) (by intro w hw; obtain ⟨r, hr, rfl⟩ := List.mem_map.1 hw; exact hf.rk r hr)
 have c5 := qq6 (ws.map (·.k)) none (by rw [List.length_map]; exact hf.w) (by intro w hw; obtain ⟨r, hr, rfl⟩ := List.mem_map.1 hw; exact hf.wk r hr)
 rw [List.length_map] at c4 c5
 simp only [Tx.cells] at c1 c2 c3
 unfold q9l
 cases pl
 all_goals
  simp -implicitDefEqProofs -dsimp only [go_sem, seval, Tx.cells, ↓J0 _ _ U8]
  refine cpn (q0v cl sq) ?_
  rcases hid : qo6 cl sq with _ | _
 all_goals
  simp -implicitDefEqProofs -dsimp only [go_sem, seval, decide_true, decide_false, Bool.not_true, Bool.not_false]
  (first | (apply J7 <;> intro h_1 <;> simp -implicitDefEqProofs -dsimp only [go_sem, seval, w1, ↓O0, Y4, true_and, ↓J0 _ _ J3, ↓J0 _ _ J2, ↓J0 _ _ J5, ↓J0 _ _ K1, h_1]) | (refine CallK.pure (c1) (J1 ?_); simp -implicitDefEqProofs -dsimp only [go_sem, seval, w1, ↓O0, Y4, true_and, ↓J0 _ _ J3, ↓J0 _ _ J2, ↓J0 _ _ J5, ↓J0 _ _ K1]; have h_1 := trivial) | (refine CallK.pure (c2) (J1 ?_); simp -implicitDefEqProofs -dsimp only [go_sem, seval, w1, ↓O0, Y4, true_and, ↓J0 _ _ J3, ↓J0 _ _ J2, ↓J0 _ _ J5, ↓J0 _ _ K1]; have h_1 := trivial) | (refine CallK.pure (c3) (J1 ?_); simp -implicitDefEqProofs -dsimp only [go_sem, seval, w1, ↓O0, Y4, true_and, ↓J0 _ _ J3, ↓J0 _ _ J2, ↓J0 _ _ J5, ↓J0 _ _ K1]; have h_1 := trivial) | (refine CallK.pure (c4) (J1 ?_); simp -implicitDefEqProofs -dsimp only [go_sem, seval, w1, ↓O0, Y4, true_and, ↓J0 _ _ J3, ↓J0 _ _ J2, ↓J0 _ _ J5, ↓J0 _ _ K1]; have h_1 := trivial) | (refine CallK.pure (c5) (J1 ?_); simp -implicitDefEqProofs -dsimp only [go_sem, seval, w1, ↓O0, Y4, true_and, ↓J0 _ _ J3, ↓J0 _ _ J2, ↓J0 _ _ J5, ↓J0 _ _ K1]; have h_1 := trivial) | (have h_1 := trivial)) <;>
  (first | (apply J7 <;> intro h_2 <;> simp -implicitDefEqProofs -dsimp only [go_sem, seval, w1, ↓O0, Y4, true_and, ↓J0 _ _ J3, ↓J0 _ _ J2, ↓J0 _ _ J5, ↓J0 _ _ K1, h_1, h_2]) | (refine CallK.pure (c1) (J1 ?_); simp -implicitDefEqProofs -dsimp only [go_sem, seval, w1, ↓O0, Y4, true_and, ↓J0 _ _ J3, ↓J0 _ _ J2, ↓J0 _ _ J5, ↓J0 _ _ K1, h_1]; have h_2 := trivial) | (refine CallK.pure (c2) (J1 ?_); simp -implicitDefEqProofs -dsimp only [go_sem, seval, w1, ↓O0, Y4, true_and, ↓J0 _ _ J3, ↓J0 _ _ J2, ↓J0 _ _ J5, ↓J0 _ _ K1, h_1]; have h_2 := trivial) | (refine CallK.pure (c3) (J1 ?_); simp -implicitDefEqProofs -dsimp only [go_sem, seval, w1, ↓O0, Y4, true_and, ↓J0 _ _ J3, ↓J0 _ _ J2, ↓J0 _ _ J5, ↓J0 _ _ K1, h_1]; have h_2 := trivial) | (refine CallK.pure (c4) (J1 ?_); simp -implicitDefEqProofs -dsimp only [go_sem, seval, w1, ↓O0, Y4, true_and, ↓J0 _ _ J3, ↓J0 _ _ J2, ↓J0 _ _ J5, ↓J0 _ _ K1, h_1]; have h_2 := trivial) | (refine CallK.pure (c5) (J1 ?_); simp -implicitDefEqProofs -dsimp only [go_sem, seval, w1, ↓O0, Y4, true_and, ↓J0 _ _ J3, ↓J0 _ _ J2, ↓J0 _ _ J5, ↓J0 _ _ K1, h_1]; have h_2 := trivial) | (have h_2 := trivial)) <;>
  (first | (apply J7 <;> intro h_3 <;> simp -implicitDefEqProofs -dsimp only [go_sem, seval, w1, ↓O0, Y4, true_and, ↓J0 _ _ J3, ↓J0 _ _ J2, ↓J0 _ _ J5, ↓J0 _ _ K1, h_1, h_2, h_3]) | (refine CallK.pure (c1) (J1 ?_); simp -implicitDefEqProofs -dsimp only [go_sem, seval, w1, ↓O0, Y4, true_and, ↓J0 _ _ J3, ↓J0 _ _ J2, ↓J0 _ _ J5, ↓J0 _ _ K1, h_1, h_2]; have h_3 := trivial) | (refine CallK.pure (c2) (J1 ?_); simp -implicitDefEqProofs -dsimp only [go_sem, seval, w1, ↓O0, Y4, true_and, ↓J0 _ _ J3, ↓J0 _ _ J2, ↓J0 _ _ J5, ↓J0 _ _ K1, h_1, h_2]; have h_3 := trivial) | (refine CallK.pure (c3) (J1 ?_); simp -implicitDefEqProofs -dsimp only [go_sem, seval, w1, ↓O0, Y4, true_and, ↓J0 _ _ J3, ↓J0 _ _ J2, ↓J0 _ _ J5, ↓J0 _ _ K1, h_1, h_2]; have h_3 := trivial) | (refine CallK.pure (c4) (J1 ?_); simp -implicitDefEqProofs -dsimp only [go_sem, seval, w1, ↓O0, Y4, true_and, ↓J0 _ _ J3, ↓J0 _ _ J2, ↓J0 _ _ J5, ↓J0 _ _ K1, h_1, h_2]; have h_3 := trivial) | (refine CallK.pure (c5) (J1 ?_); simp -implicitDefEqProofs -dsimp only [go_sem, seval, w1, ↓O0, Y4, true_and, ↓J0 _ _ J3, ↓J0 _ _ J2, ↓J0 _ _ J5, ↓J0 _ _ K1, h_1, h_2]; have h_3 := trivial) | (have h_3 := trivial)) <;>
  (first | (apply J7 <;> intro h_4 <;> simp -implicitDefEqProofs -dsimp only [go_sem, seval, w1, ↓O0, Y4, true_and, ↓J0 _ _ J3, ↓J0 _ _ J2, ↓J0 _ _ J5, ↓J0 _ _ K1, h_1, h_2, h_3, h_4]) | (refine CallK.pure (c1) (J1 ?_); simp -implicitDefEqProofs -dsimp only [go_sem, seval, w1, ↓O0, Y4, true_and, ↓J0 _ _ J3, ↓J0 _ _ J2, ↓J0 _ _ J5, ↓J0 _ _ K1, h_1, h_2, h_3]; have h_4 := trivial) | (refine CallK.pure (c2) (J1 ?_); simp -implicitDefEqProofs -dsimp only [go_sem, seval, w1, ↓O0, Y4, true_and, ↓J0 _ _ J3, ↓J0 _ _ J2, ↓J0 _ _ J5, ↓J0 _ _ K1, h_1, h_2, h_3]; have h_4 := trivial) | (refine CallK.pure (c3) (J1 ?_); simp -implicitDefEqProofs -dsimp only [go_sem, seval, w1, ↓O0, Y4, true_and, ↓J0 _ _ J3, ↓J0 _ _ J2, ↓J0 _ _ J5, ↓J0 _ _ K1, h_1, h_2, h_3]; have h_4 := trivial) | (refine CallK.pure (c4) (J1 ?_); simp -implicitDefEqProofs -dsimp only [go_sem, seval, w1, ↓O0, Y4, true_and, ↓J0 _ _ J3, ↓J0 _ _ J2, ↓J0 _ _ J5, ↓J0 _ _ K1, h_1, h_2, h_3]; have h_4 := trivial) | (refine CallK.pure (c5) (J1 ?_); simp -implicitDefEqProofs -dsimp only [go_sem, seval, w1, ↓O0, Y4, true_and, ↓J0 _ _ J3, ↓J0 _ _ J2, ↓J0 _ _ J5, ↓J0 _ _ K1, h_1, h_2, h_3]; have h_4 := trivial) | (have h_4 := trivial)) <;>
  (first | (apply J7 <;> intro h_5 <;> simp -implicitDefEqProofs -dsimp only [go_sem, seval, w1, ↓O0, Y4, true_and, ↓J0 _ _ J3, ↓J0 _ _ J2, ↓J0 _ _ J5, ↓J0 _ _ K1, h_1, h_2, h_3, h_4, h_5]) | (refine CallK.pure (c1) (J1 ?_); simp -implicitDefEqProofs -dsimp only [go_sem, seval, w1, ↓O0, Y4, true_and, ↓J0 _ _ J3, ↓J0 _ _ J2, ↓J0 _ _ J5, ↓J0 _ _ K1, h_1, h_2, h_3, h_4]; have h_5 := trivial) | (refine CallK.pure (c2) (J1 ?_); simp -implicitDefEqProofs -dsimp only [go_sem, seval, w1, ↓O0, Y4, true_and, ↓J0 _ _ J3, ↓J0 _ _ J2, ↓J0 _ _ J5, ↓J0 _ _ K1, h_1, h_2, h_3, h_4]; have h_5 := trivial) | (refine CallK.pure (c3) (J1 ?_); simp -implicitDefEqProofs -dsimp only [go_sem, seval, w1, ↓O0, Y4, true_and, ↓J0 _ _ J3, ↓J0 _ _ J2, ↓J0 _ _ J5, ↓J0 _ _ K1, h_1, h_2, h_3, h_4]; have h_5 := trivial) | (refine CallK.pure (c4) (J1 ?_); simp -implicitDefEqProofs -dsimp only [go_sem, seval, w1, ↓O0, Y4, true_and, ↓J0 _ _ J3, ↓J0 _ _ J2, ↓J0 _ _ J5, ↓J0 _ _ K1, h_1, h_2, h_3, h_4]; have h_5 := trivial) | (refine CallK.pure (c5) (J1 ?_); simp -implicitDefEqProofs -dsimp only [go_sem, seval, w1, ↓O0, Y4, true_and, ↓J0 _ _ J3, ↓J0 _ _ J2, ↓J0 _ _ J5, ↓J0 _ _ K1, h_1, h_2, h_3, h_4]; have h_5 := trivial) | (have h_5 := trivial)) <;>
  (first | (apply J7 <;> intro h_6 <;> simp -implicitDefEqProofs -dsimp only [go_sem, seval, w1, ↓O0, Y4, true_and, ↓J0 _ _ J3, ↓J0 _ _ J2, ↓J0 _ _ J5, ↓J0 _ _ K1, h_1, h_2, h_3, h_4, h_5, h_6]) | (refine CallK.pure (c1) (J1 ?_); simp -implicitDefEqProofs -dsimp only [go_sem, seval, w1, ↓O0, Y4, true_and, ↓J0 _ _ J3, ↓J0 _ _ J2, ↓J0 _ _ J5, ↓J0 _ _ K1, h_1, h_2, h_3, h_4, h_5]; have h_6 := trivial) | (refine CallK.pure (c2) (J1 ?_); simp -implicitDefEqProofs -dsimp only [go_sem, seval, w1, ↓O0, Y4, true_and, ↓J0 _ _ J3, ↓J0 _ _ J2, ↓J0 _ _ J5, ↓J0 _ _ K1, h_1, h_2, h_3, h_4, h_5]; have h_6 := trivial) | (refine CallK.pure (c3) (J1 ?_); simp -implicitDefEqProofs -dsimp only [go_sem, seval, w1, ↓O0, Y4, true_and, ↓J0 _ _ J3, ↓J0 _ _ J2, ↓J0 _ _ J5, ↓J0 _ _ K1, h_1, h_2, h_3, h_4, h_5]; have h_6 := trivial) | (refine CallK.pure (c4) (J1 ?_); simp -implicitDefEqProofs -dsimp only [go_sem, seval, w1, ↓O0, Y4, true_and, ↓J0 _ _ J3, ↓J0 _ _ J2, ↓J0 _ _ J5, ↓J0 _ _ K1, h_1, h_2, h_3, h_4, h_5]; have h_6 := trivial) | (refine CallK.pure (c5) (J1 ?_); simp -implicitDefEqProofs -dsimp only [go_sem, seval, w1, ↓O0, Y4, true_and, ↓J0 _ _ J3, ↓J0 _ _ J2, ↓J0 _ _ J5, ↓J0 _ _ K1, h_1, h_2, h_3, h_4, h_5]; have h_6 := trivial) | (have h_6 := trivial)) <;>
  (first | (apply J7 <;> intro h_7 <;> simp -implicitDefEqProofs -dsimp only [go_sem, seval, w1, ↓O0, Y4, true_and, ↓J0 _ _ J3, ↓J0 _ _ J2, ↓J0 _ _ J5, ↓J0 _ _ K1, h_1, h_2, h_3, h_4, h_5, h_6, h_7]) | (refine CallK.pure (c1) (J1 ?_); simp -implicitDefEqProofs -dsimp only [go_sem, seval, w1, ↓O0, Y4, true_and, ↓J0 _ _ J3, ↓J0 _ _ J2, ↓J0 _ _ J5, ↓J0 _ _ K1, h_1, h_2, h_3, h_4, h_5, h_6]; have h_7 := trivial) | (refine CallK.pure (c2) (J1 ?_); simp -implicitDefEqProofs -dsimp only [go_sem, seval, w1, ↓O0, Y4, true_and, ↓J0 _ _ J3, ↓J0 _ _ J2, ↓J0 _ _ J5, ↓J0 _ _ K1, h_1, h_2, h_3, h_4, h_5, h_6]; have h_7 := trivial) | (refine CallK.pure (c3) (J1 ?_); simp -implicitDefEqProofs -dsimp only [go_sem, seval, w1, ↓O0, Y4, true_and, ↓J0 _ _ J3, ↓J0 _ _ J2, ↓J0 _ _ J5, ↓J0 _ _ K1, h_1, h_2, h_3, h_4, h_5, h_6]; have h_7 := trivial) | (refine CallK.pure (c4) (J1 ?_); simp -implicitDefEqProofs -dsimp only [go_sem, seval, w1, ↓O0, Y4, true_and, ↓J0 _ _ J3, ↓J0 _ _ J2, ↓J0 _ _ J5, ↓J0 _ _ K1, h_1, h_2, h_3, h_4, h_5, h_6]; have h_7 := trivial) | (refine CallK.pure (c5) (J1 ?_); simp -implicitDefEqProofs -dsimp only [go_sem, seval, w1, ↓O0, Y4, true_and, ↓J0 _ _ J3, ↓J0 _ _ J2, ↓J0 _ _ J5, ↓J0 _ _ K1, h_1, h_2, h_3, h_4, h_5, h_6]; have h_7 := trivial) | (have h_7 := trivial)) <;>
  (first | (apply J7 <;> intro h_8 <;> simp -implicitDefEqProofs -dsimp only [go_sem, seval, w1, ↓O0, Y4, true_and, ↓J0 _ _ J3, ↓J0 _ _ J2, ↓J0 _ _ J5, ↓J0 _ _ K1, h_1, h_2, h_3, h_4, h_5, h_6, h_7, h_8]) | (refine CallK.pure (c1) (J1 ?_); simp -implicitDefEqProofs -dsimp only [go_sem, seval, w1, ↓O0, Y4, true_and, ↓J0 _ _ J3, ↓J0 _ _ J2, ↓J0 _ _ J5, ↓J0 _ _ K1, h_1, h_2, h_3, h_4, h_5, h_6, h_7]; have h_8 := trivial) | (refine CallK.pure (c2) (J1 ?_); simp -implicitDefEqProofs -dsimp only [go_sem, seval, w1, ↓O0, Y4, true_and, ↓J0 _ _ J3, ↓J0 _ _ J2, ↓J0 _ _ J5, ↓J0 _ _ K1, h_1, h_2, h_3, h_4, h_5, h_6, h_7]; have h_8 := trivial) | (refine CallK.pure (c3) (J1 ?_); simp -implicitDefEqProofs -dsimp only [go_sem, seval, w1, ↓O0, Y4, true_and, ↓J0 _ _ J3, ↓J0 _ _ J2, ↓J0 _ _ J5, ↓J0 _ _ K1, h_1, h_2, h_3, h_4, h_5, h_6, h_7]; have h_8 := trivial) | (refine CallK.pure (c4) (J1 ?_); simp -implicitDefEqProofs -dsimp only [go_sem, seval, w1, ↓O0, Y4, true_and, ↓J0 _ _ J3, ↓J0 _ _ J2, ↓J0 _ _ J5, ↓J0 _ _ K1, h_1, h_2, h_3, h_4, h_5, h_6, h_7]; have h_8 := trivial) | (refine CallK.pure (c5) (J1 ?_); simp -implicitDefEqProofs -dsimp only [go_sem, seval, w1, ↓O0, Y4, true_and, ↓J0 _ _ J3, ↓J0 _ _ J2, ↓J0 _ _ J5, ↓J0 _ _ K1, h_1, h_2, h_3, h_4, h_5, h_6, h_7]; have h_8 := trivial) | (have h_8 := trivial)) <;>
  (first | (apply J7 <;> intro h_9 <;> simp -implicitDefEqProofs -dsimp only [go_sem, seval, w1, ↓O0, Y4, true_and, ↓J0 _ _ J3, ↓J0 _ _ J2, ↓J0 _ _ J5, ↓J0 _ _ K1, h_1, h_2, h_3, h_4, h_5, h_6, h_7, h_8, h_9]) | (refine CallK.pure (c1) (J1 ?_); simp -implicitDefEqProofs -dsimp only [go_sem, seval, w1, ↓O0, Y4, true_and, ↓J0 _ _ J3, ↓J0 _ _ J2, ↓J0 _ _ J5, ↓J0 _ _ K1, h_1, h_2, h_3, h_4, h_5, h_6, h_7, h_8]; have h_9 := trivial) | (refine CallK.pure (c2) (J1 ?_); simp -implicitDefEqProofs -dsimp only [go_sem, seval, w1, ↓O0, Y4, true_and, ↓J0 _ _ J3, ↓J0 _ _ J2, ↓J0 _ _ J5, ↓J0 _ _ K1, h_1, h_2, h_3, h_4, h_5, h_6, h_7, h_8]; have h_9 := trivial) | (refine CallK.pure (c3) (J1 ?_); simp -implicitDefEqProofs -dsimp only [go_sem, seval, w1, ↓O0, Y4, true_and, ↓J0 _ _ J3, ↓J0 _ _ J2, ↓J0 _ _ J5, ↓J0 _ _ K1, h_1, h_2, h_3, h_4, h_5, h_6, h_7, h_8]; have h_9 := trivial) | (refine CallK.pure (c4) (J1 ?_); simp -implicitDefEqProofs -dsimp only [go_sem, seval, w1, ↓O0, Y4, true_and, ↓J0 _ _ J3, ↓J0 _ _ J2, ↓J0 _ _ J5, ↓J0 _ _ K1, h_1, h_2, h_3, h_4, h_5, h_6, h_7, h_8]; have h_9 := trivial) | (refine CallK.pure (c5) (J1 ?_); simp -implicitDefEqProofs -dsimp only [go_sem, seval, w1, ↓O0, Y4, true_and, ↓J0 _ _ J3, ↓J0 _ _ J2, ↓J0 _ _ J5, ↓J0 _ _ K1, h_1, h_2, h_3, h_4, h_5, h_6, h_7, h_8]; have h_9 := trivial) | (have h_9 := trivial)) <;>
  (first | (apply J7 <;> intro h_10 <;> simp -implicitDefEqProofs -dsimp only [go_sem, seval, w1, ↓O0, Y4, true_and, ↓J0 _ _ J3, ↓J0 _ _ J2, ↓J0 _ _ J5, ↓J0 _ _ K1, h_1, h_2, h_3, h_4, h_5, h_6, h_7, h_8, h_9, h_10]) | (refine CallK.pure (c1) (J1 ?_); simp -implicitDefEqProofs -dsimp only [go_sem, seval, w1, ↓O0, Y4, true_and, ↓J0 _ _ J3, ↓J0 _ _ J2, ↓J0 _ _ J5, ↓J0 _ _ K1, h_1, h_2, h_3, h_4, h_5, h_6, h_7, h_8, h_9]; have h_10 := trivial) | (refine CallK.pure (c2) (J1 ?_); simp -implicitDefEqProofs -dsimp only [go_sem, seval, w1, ↓O0, Y4, true_and, ↓J0 _ _ J3, ↓J0 _ _ J2, ↓J0 _ _ J5, ↓J0 _ _ K1, h_1, h_2, h_3, h_4, h_5, h_6, h_7, h_8, h_9]; have h_10 := trivial) | (refine CallK.pure (c3) (J1 ?_); simp -implicitDefEqProofs -dsimp only [go_sem, seval, w1, ↓O0, Y4, true_and, ↓J0 _ _ J3, ↓J0 _ _ J2, ↓J0 _ _ J5, ↓J0 _ _ K1, h_1, h_2, h_3, h_4, h_5, h_6, h_7, h_8, h_9]; have h_10 := trivial) | (refine CallK.pure (c4) (J1 ?_); simp -implicitDefEqProofs -dsimp only [go_sem, seval, w1, ↓O0, Y4, true_and, ↓J0 _ _ J3, ↓J0 _ _ J2, ↓J0 _ _ J5, ↓J0 _ _ K1, h_1, h_2, h_3, h_4, h_5, h_6, h_7, h_8, h_9]; have h_10 := trivial) | (refine CallK.pure (c5) (J1 ?_); simp -implicitDefEqProofs -dsimp only [go_sem, seval, w1, ↓O0, Y4, true_and, ↓J0 _ _ J3, ↓J0 _ _ J2, ↓J0 _ _ J5, ↓J0 _ _ K1, h_1, h_2, h_3, h_4, h_5, h_6, h_7, h_8, h_9]; have h_10 := trivial) | (have h_10 := trivial)) <;>
  (first | (apply J7 <;> intro h_11 <;> simp -implicitDefEqProofs -dsimp only [go_sem, seval, w1, ↓O0, Y4, true_and, ↓J0 _ _ J3, ↓J0 _ _ J2, ↓J0 _ _ J5, ↓J0 _ _ K1, h_1, h_2, h_3, h_4, h_5, h_6, h_7, h_8, h_9, h_10, h_11]) | (refine CallK.pure (c1) (J1 ?_); simp -implicitDefEqProofs -dsimp only [go_sem, seval, w1, ↓O0, Y4, true_and, ↓J0 _ _ J3, ↓J0 _ _ J2, ↓J0 _ _ J5, ↓J0 _ _ K1, h_1, h_2, h_3, h_4, h_5, h_6, h_7, h_8, h_9, h_10]; have h_11 := trivial) | (refine CallK.pure (c2) (J1 ?_); simp -implicitDefEqProofs -dsimp only [go_sem, seval, w1, ↓O0, Y4, true_and, ↓J0 _ _ J3, ↓J0 _ _ J2, ↓J0 _ _ J5, ↓J0 _ _ K1, h_1, h_2, h_3, h_4, h_5, h_6, h_7, h_8, h_9, h_10]; have h_11 := trivial) | (refine CallK.pure (c3) (J1 ?_); simp -implicitDefEqProofs -dsimp only [go_sem, seval, w1, ↓O0, Y4, true_and, ↓J0 _ _ J3, ↓J0 _ _ J2, ↓J0 _ _ J5, ↓J0 _ _ K1, h_1, h_2, h_3, h_4, h_5, h_6, h_7, h_8, h_9, h_10]; have h_11 := trivial) | (refine CallK.pure (c4) (J1 ?_); simp -implicitDefEqProofs -dsimp only [go_sem, seval, w1, ↓O0, Y4, true_and, ↓J0 _ _ J3, ↓J0 _ _ J2, ↓J0 _ _ J5, ↓J0 _ _ K1, h_1, h_2, h_3, h_4, h_5, h_6, h_7, h_8, h_9, h_10]; have h_11 := trivial) | (refine CallK.pure (c5) (J1 ?_); simp -implicitDefEqProofs -dsimp only [go_sem, seval, w1, ↓O0, Y4, true_and, ↓J0 _ _ J3, ↓J0 _ _ J2, ↓J0 _ _ J5, ↓J0 _ _ K1, h_1, h_2, h_3, h_4, h_5, h_6, h_7, h_8, h_9, h_10]; have h_11 := trivial) | (have h_11 := trivial)) <;>
  (first | (apply J7 <;> intro h_12 <;> simp -implicitDefEqProofs -dsimp only [go_sem, seval, w1, ↓O0, Y4, true_and, ↓J0 _ _ J3, ↓J0 _ _ J2, ↓J0 _ _ J5, ↓J0 _ _ K1, h_1, h_2, h_3, h_4, h_5, h_6, h_7, h_8, h_9, h_10, h_11, h_12]) | (refine CallK.pure (c1) (J1 ?_); simp -implicitDefEqProofs -dsimp only [go_sem, seval, w1, ↓O0, Y4, true_and, ↓J0 _ _ J3, ↓J0 _ _ J2, ↓J0 _ _ J5, ↓J0 _ _ K1, h_1, h_2, h_3, h_4, h_5, h_6, h_7, h_8, h_9, h_10, h_11]; have h_12 := trivial) | (refine CallK.pure (c2) (J1 ?_); simp -implicitDefEqProofs -dsimp only [go_sem, seval, w1, ↓O0, Y4, true_and, ↓J0 _ _ J3, ↓J0 _ _ J2, ↓J0 _ _ J5, ↓J0 _ _ K1, h_1, h_2, h_3, h_4, h_5, h_6, h_7, h_8, h_9, h_10, h_11]; have h_12 := trivial) | (refine CallK.pure (c3) (J1 ?_); simp -implicitDefEqProofs -dsimp only [go_sem, seval, w1, ↓O0, Y4, true_and, ↓J0 _ _ J3, ↓J0 _ _ J2, ↓J0 _ _ J5, ↓J0 _ _ K1, h_1, h_2, h_3, h_4, h_5, h_6, h_7, h_8, h_9, h_10, h_11]; have h_12 := trivial) | (refine CallK.pure (c4) (J1 ?_); simp -implicitDefEqProofs -dsimp only [go_sem, seval, w1, ↓O0, Y4, true_and, ↓J0 _ _ J3, ↓J0 _ _ J2, ↓J0 _ _ J5, ↓J0 _ _ K1, h_1, h_2, h_3, h_4, h_5, h_6, h_7, h_8, h_9, h_10, h_11]; have h_12 := trivial) | (refine CallK.pure (c5) (J1 ?_); simp -implicitDefEqProofs -dsimp only [go_sem, seval, w1, ↓O0, Y4, true_and, ↓J0 _ _ J3, ↓J0 _ _ J2, ↓J0 _ _ J5, ↓J0 _ _ K1, h_1, h_2, h_3, h_4, h_5, h_6, h_7, h_8, h_9, h_10, h_11]; have h_12 := trivial) | (have h_12 := trivial)) <;>
  (first | (apply J7 <;> intro h_13 <;> simp -implicitDefEqProofs -dsimp only [go_sem, seval, w1, ↓O0, Y4, true_and, ↓J0 _ _ J3, ↓J0 _ _ J2, ↓J0 _ _ J5, ↓J0 _ _ K1, h_1, h_2, h_3, h_4, h_5, h_6, h_7, h_8, h_9, h_10, h_11, h_12, h_13]) | (refine CallK.pure (c1) (J1 ?_); simp -implicitDefEqProofs -dsimp only [go_sem, seval, w1, ↓O0, Y4, true_and, ↓J0 _ _ J3, ↓J0 _ _ J2, ↓J0 _ _ J5, ↓J0 _ _ K1, h_1, h_2, h_3, h_4, h_5, h_6, h_7, h_8, h_9, h_10, h_11, h_12]; have h_13 := trivial) | (refine CallK.pure (c2) (J1 ?_); simp -implicitDefEqProofs -dsimp only [go_sem, seval, w1, ↓O0, Y4, true_and, ↓J0 _ _ J3, ↓J0 _ _ J2, ↓J0 _ _ J5, ↓J0 _ _ K1, h_1, h_2, h_3, h_4, h_5, h_6, h_7, h_8, h_9, h_10, h_11, h_12]; have h_13 := trivial) | (refine CallK.pure (c3) (J1 ?_); simp -implicitDefEqProofs -dsimp only [go_sem, seval, w1, ↓O0, Y4, true_and, ↓J0 _ _ J3, ↓J0 _ _ J2, ↓J0 _ _ J5, ↓J0 _ _ K1, h_1, h_2, h_3, h_4, h_5, h_6, h_7, h_8, h_9, h_10, h_11, h_12]; have h_13 := trivial) | (refine CallK.pure (c4) (J1 ?_); simp -implicitDefEqProofs -dsimp only [go_sem, seval, w1, ↓O0, Y4, true_and, ↓J0 _ _ J3, ↓J0 _ _ J2, ↓J0 _ _ J5, ↓J0 _ _ K1, h_1, h_2, h_3, h_4, h_5, h_6, h_7, h_8, h_9, h_10, h_11, h_12]; have h_13 := trivial) | (refine CallK.pure (c5) (J1 ?_); simp -implicitDefEqProofs -dsimp only [go_sem, seval, w1, ↓O0, Y4, true_and, ↓J0 _ _ J3, ↓J0 _ _ J2, ↓J0 _ _ J5, ↓J0 _ _ K1, h_1, h_2, h_3, h_4, h_5, h_6, h_7, h_8, h_9, h_10, h_11, h_12]; have h_13 := trivial) | (have h_13 := trivial)) <;>
  (first | (apply J7 <;> intro h_14 <;> simp -implicitDefEqProofs -dsimp only [go_sem, seval, w1, ↓O0, Y4, true_and, ↓J0 _ _ J3, ↓J0 _ _ J2, ↓J0 _ _ J5, ↓J0 _ _ K1, h_1, h_2, h_3, h_4, h_5, h_6, h_7, h_8, h_9, h_10, h_11, h_12, h_13, h_14]) | (refine CallK.pure (c1) (J1 ?_); simp -implicitDefEqProofs -dsimp only [go_sem, seval, w1, ↓O0, Y4, true_and, ↓J0 _ _ J3, ↓J0 _ _ J2, ↓J0 _ _ J5, ↓J0 _ _ K1, h_1, h_2, h_3, h_4, h_5, h_6, h_7, h_8, h_9, h_10, h_11, h_12, h_13]; have h_14 := trivial) | (refine CallK.pure (c2) (J1 ?_); simp -implicitDefEqProofs -dsimp only [go_sem, seval, w1, ↓O0, Y4, true_and, ↓J0 _ _ J3, ↓J0 _ _ J2, ↓J0 _ _ J5, ↓J0 _ _ K1, h_1, h_2, h_3, h_4, h_5, h_6, h_7, h_8, h_9, h_10, h_11, h_12, h_13]; have h_14 := trivial) | (refine CallK.pure (c3) (J1 ?_); simp -implicitDefEqProofs -dsimp only [go_sem, seval, w1, ↓O0, Y4, true_and, ↓J0 _ _ J3, ↓J0 _ _ J2, ↓J0 _ _ J5, ↓J0 _ _ K1, h_1, h_2, h_3, h_4, h_5, h_6, h_7, h_8, h_9, h_10, h_11, h_12, h_13]; have h_14 := trivial) | (refine CallK.pure (c4) (J1 ?_); simp -implicitDefEqProofs -dsimp only [go_sem, seval, w1, ↓O0, Y4, true_and, ↓J0 _ _ J3, ↓J0 _ _ J2, ↓J0 _ _ J5, ↓J0 _ _ K1, h_1, h_2, h_3, h_4, h_5, h_6, h_7, h_8, h_9, h_10, h_11, h_12, h_13]; have h_14 := trivial) | (refine CallK.pure (c5) (J1 ?_); simp -implicitDefEqProofs -dsimp only [go_sem, seval, w1, ↓O0, Y4, true_and, ↓J0 _ _ J3, ↓J0 _ _ J2, ↓J0 _ _ J5, ↓J0 _ _ K1, h_1, h_2, h_3, h_4, h_5, h_6, h_7, h_8, h_9, h_10, h_11, h_12, h_13]; have h_14 := trivial) | (have h_14 := trivial))
  all_goals (
   refine K2 ?_
   simp only [qfe, *, Bool.not_true, Bool.not_false, Bool.true_and, Bool.false_and, Bool.and_false, Bool.and_true, Bool.or_true, Bool.true_or, Bool.false_or, Bool.or_false])
end Go.Aw
