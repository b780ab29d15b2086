import Derived.Test.YtchdmofoaokpjaaGreatDoorAwD
import Derived.Test.YtchdmofoaokpjaaGreatDoorT30Txt
namespace Go.Aw
set_option linter.all false
open Go
open Go.Proofs.Tryz (prog)
set_option linter.unusedSimpArgs false
def srv (n : Int) : Bool := decide (0 <= n /\ n < 8)
theorem G0 (n : Int) : PCalls prog q6w [.i .i64 n] (.b (srv n)) := by
 refine K6 U1 qon (by simp) fun T => ?_
 simp -implicitDefEqProofs -dsimp only [qgp, go_sem, seval]
 refine K0 (fun h1 => ?_) (fun h1 => ?_) <;> simp -implicitDefEqProofs -dsimp only [h1, go_sem, seval] <;> refine J9 ?_ <;> simp only [AV.b.injEq] <;> simp only [decide_eq_true_eq, decide_eq_false_iff_not] at h1 <;> simp [srv] <;> omega
def ixF (v : Int) : List Int -> Nat -> Option Nat
 | [], _ => none
 | y :: ys, k => if v = y then some k else ixF v ys (k + 1)
theorem z1s {R : G9} (hR : ExtR R) {T : Tab} {v : Int} {cap : Option Nat} {xs : List Int} (hl : Len xs.length) : ∀ (ys : List Int) (k : Nat), xs.drop k = ys -> k <= xs.length ->
  (∀ j, ixF v ys k = some j -> R .ret [(4, .i .i64 j)] [] T) ->
  (ixF v ys k = none -> R (.exit 0) [(0, .fz xs.length (qdp xs) cap), (1, .i .i64 v), (7, .i .i64 xs.length), (8, .i .i64 xs.length), (9, .b false)] [] T) ->
  AW prog q76 R [(0, .fz xs.length (qdp xs) cap), (1, .i .i64 v), (7, .i .i64 xs.length), (8, .i .i64 k)] [] T := by
 intro ys
 induction ys with
 | nil =>
  intro k hk hle h1 h2
  have hk' : xs.length = k := by have := List.drop_eq_nil_iff.1 hk; omega
  refine V1 hR ?_
  simp -implicitDefEqProofs -dsimp only [q3h, go_sem, seval, hk', Int.lt_irrefl]
  rw [hk'] at h2
  exact h2 rfl
 | cons y ys ih =>
  intro k hk hle h1 h2
  have hlt : k < xs.length := by
   have : (xs.drop k).length = ys.length + 1 := by rw [hk]; rfl
   rw [List.length_drop] at this; omega
  have hy : xs[k]? = some y := by
   have : (xs.drop k)[0]? = some y := by rw [hk]; rfl
   simpa using this
  unfold Len at hl
  refine V1 hR ?_
  simp -implicitDefEqProofs -dsimp only [q3h, go_sem, seval, Int.ofNat_lt, hlt, Int.natCast_nonneg, Int.toNat_natCast, Nat.mul_one, qo5, hy]
  simp -implicitDefEqProofs -dsimp only [ixF] at h1 h2
  refine K0 (fun h => ?_) (fun h => ?_) <;> simp -implicitDefEqProofs -dsimp only [go_sem, seval]
  ·exact h1 k (by simp [of_decide_eq_true h])
  ·rw [O8 (by omega)]
   have hne := of_decide_eq_false h
   rw [if_neg hne] at h1 h2
   exact ih (k + 1) (by rw [<- List.drop_drop, hk]; rfl) hlt h1 h2
def ixI (v : Int) (xs : List Int) : Int := match ixF v xs 0 with
 | some j => j
 | none => -1
theorem qla (xs : List Int) (v : Int) (cap : Option Nat) (hl : Len xs.length) : PCalls prog q25 [.fz xs.length (qdp xs) cap, .i .i64 v] (.i .i64 (ixI v xs)) := by
 refine K6 U1 qc3 (by simp) fun T => ?_
 simp -implicitDefEqProofs -dsimp only [q79, go_sem, seval]
 refine z1s (by repeat' (first | exact O6 _ _ | assumption | apply O5 | apply N4 | apply V8)) hl xs 0 rfl (by omega) (fun j hj => ?_) (fun h => ?_) <;> simp -implicitDefEqProofs -dsimp only [go_sem, seval]
 ·refine J9 ?_
  simp [ixI, hj]
 ·refine J9 ?_
  simp [ixI, h]
def ctn (xs : List Int) (v : Int) : Bool := decide (0 <= ixI v xs)
theorem U5 (xs : List Int) (v : Int) (n : Nat) (cap : Option Nat) (hn : xs.length = n) (hl : Len n) : PCalls prog q0b [.fz n (qdp xs) cap, .i .i64 v] (.b (ctn xs v)) := by
 subst hn
 refine K6 U1 q9x (by simp) fun T => ?_
 simp -implicitDefEqProofs -dsimp only [q5r, go_sem, seval, ↓J0 _ _ qc4]
 refine cpn (qla xs v cap hl) ?_
 simp -implicitDefEqProofs -dsimp only [go_sem, seval]
 exact J9 rfl
structure Cf where
 ep : Int
 sh : Int
 ch : List Int
 fu : List Bool
 ln : Int
def Cf.cells (c : Cf) (k1 k2 : Option Nat) : List AV := [.i .u64 c.ep, .i .i64 c.sh, .fz c.ch.length (qdp c.ch) k1, .fz c.fu.length (qa7 c.fu) k2, .i .i64 c.ln]
def z5a (xs : List Int) : List Int -> Nat -> Bool
 | [], _ => true
 | y :: ys, k => srv y && !ctn (xs.take k) y && z5a xs ys (k + 1)
def Cf.right (c : Cf) : Bool :=
 !decide (c.ep = 0) && !decide (c.sh < 0) && !decide (4 <= c.sh) && !decide ((c.ch.length : Int) = 0) && !decide (8 < (c.ch.length : Int)) && !(!decide ((c.fu.length : Int) = c.ch.length)) &&
  !(!(c.fu[0]?).getD false) && !(!decide (c.ln = -1) && (!srv c.ln || ctn c.ch c.ln)) && z5a c.ch c.ch 0
theorem z1t {R : G9} (hR : ExtR R) {T : Tab} {c : Cf} {k1 k2 : Option Nat} (hl : Len c.ch.length) : ∀ (ys : List Int) (k : Nat), c.ch.drop k = ys -> k <= c.ch.length ->
  (z5a c.ch ys k = false -> R .ret [(2, .b false)] [] T) ->
  (z5a c.ch ys k = true -> R (.exit 1) [(1, .lp 1 0), (51, .fz c.ch.length (qdp c.ch) k1), (52, .i .i64 c.ch.length), (53, .i .i64 c.ch.length), (54, .b false)] [(1, c.cells k1 k2)] T) ->
  AW prog qgn R [(1, .lp 1 0), (51, .fz c.ch.length (qdp c.ch) k1), (52, .i .i64 c.ch.length), (53, .i .i64 k)] [(1, c.cells k1 k2)] T := by
 intro ys
 induction ys with
 | nil =>
  intro k hk hle h1 h2
  have hk' : c.ch.length = k := by have := List.drop_eq_nil_iff.1 hk; omega
  refine V1 hR ?_
  simp -implicitDefEqProofs -dsimp only [q9v, go_sem, seval, hk', Int.lt_irrefl]
  rw [hk'] at h2
  exact h2 rfl
 | cons y ys ih =>
  intro k hk hle h1 h2
  have hlt : k < c.ch.length := by
   have : (c.ch.drop k).length = ys.length + 1 := by rw [hk]; rfl
   rw [List.length_drop] at this; omega
  have hy : c.ch[k]? = some y := by
   have : (c.ch.drop k)[0]? = some y := by rw [hk]; rfl
   simpa using this
  have hl' := hl
  unfold Len at hl
  refine V1 hR ?_
  simp -implicitDefEqProofs -dsimp only [q9v, go_sem, seval, Int.ofNat_lt, hlt, Int.natCast_nonneg, Int.toNat_natCast, qo5, hy, ↓J0 _ _ N1, ↓J0 _ _ J7]
  refine cpn (G0 y) ?_
  simp -implicitDefEqProofs -dsimp only [go_sem, seval]
  simp only [z5a] at h1 h2
  refine K0 (fun h => ?_) (fun h => ?_)
  ·have h : srv y = false := by simpa using h
   simp -implicitDefEqProofs -dsimp only [h, go_sem, seval]
   exact h1 (by simp [h])
  ·have h : srv y = true := by simpa using h
   simp only [h, Bool.true_and] at h1 h2
   simp -implicitDefEqProofs -dsimp only [h, go_sem, seval, ↓J0 _ _ J7, Cf.cells, Int.natCast_nonneg, Int.toNat_natCast, hle, Nat.zero_le, qy4]
   refine cpn (U5 (c.ch.take k) y k _ (by rw [List.length_take]; omega) (by unfold Len; omega)) ?_
   simp -implicitDefEqProofs -dsimp only [go_sem, seval]
   refine K0 (fun h => ?_) (fun h => ?_)
   ·simp -implicitDefEqProofs -dsimp only [h, go_sem, seval]
    exact h1 (by simp [h])
   ·simp only [h, Bool.not_false, Bool.true_and] at h1 h2
    simp -implicitDefEqProofs -dsimp only [h, go_sem, seval]
    rw [O8 (by omega)]
    exact ih (k + 1) (by rw [<- List.drop_drop, hk]; rfl) hlt h1 h2
theorem qbn (c : Cf) (k1 k2 : Option Nat) (hl : Len c.ch.length) : PCalls prog q6e [.agg (c.cells k1 k2)] (.b c.right) := by
 refine K6 U1 qqc (by simp) fun T => ?_
 have hf0 : 0 < c.fu.length -> (qa7 c.fu)[0]? = some (.b ((c.fu[0]?).getD false)) := fun h => by
  have := qub c.fu 0
  rw [List.drop_zero] at this
  rw [this, List.getElem?_eq_getElem h]; rfl
 have hlt : (0 : Int) < (c.fu.length : Int) -> 0 < c.fu.length := fun h => by omega
 unfold qih
 simp -implicitDefEqProofs -dsimp only [go_sem, seval, Cf.cells]
 (first | (apply K0 <;> intro h_1 <;> simp -implicitDefEqProofs -dsimp only [go_sem, seval, Cf.cells, ↓J0 _ _ N1, ↓J0 _ _ J7, h_1]) | (refine CallK.pure (G0 _) (J1 ?_); simp -implicitDefEqProofs -dsimp only [go_sem, seval, Cf.cells, ↓J0 _ _ N1, ↓J0 _ _ J7]; have h_1 := trivial) | (refine CallK.pure (U5 c.ch _ _ _ rfl hl) (J1 ?_); simp -implicitDefEqProofs -dsimp only [go_sem, seval, Cf.cells, ↓J0 _ _ N1, ↓J0 _ _ J7]; have h_1 := trivial) | (have h_1 := trivial)) <;>
  (first | (apply K0 <;> intro h_2 <;> simp -implicitDefEqProofs -dsimp only [go_sem, seval, Cf.cells, ↓J0 _ _ N1, ↓J0 _ _ J7, h_1, h_2]) | (refine CallK.pure (G0 _) (J1 ?_); simp -implicitDefEqProofs -dsimp only [go_sem, seval, Cf.cells, ↓J0 _ _ N1, ↓J0 _ _ J7, h_1]; have h_2 := trivial) | (refine CallK.pure (U5 c.ch _ _ _ rfl hl) (J1 ?_); simp -implicitDefEqProofs -dsimp only [go_sem, seval, Cf.cells, ↓J0 _ _ N1, ↓J0 _ _ J7, h_1]; have h_2 := trivial) | (have h_2 := trivial)) <;>
  (first | (apply K0 <;> intro h_3 <;> simp -implicitDefEqProofs -dsimp only [go_sem, seval, Cf.cells, ↓J0 _ _ N1, ↓J0 _ _ J7, h_1, h_2, h_3]) | (refine CallK.pure (G0 _) (J1 ?_); simp -implicitDefEqProofs -dsimp only [go_sem, seval, Cf.cells, ↓J0 _ _ N1, ↓J0 _ _ J7, h_1, h_2]; have h_3 := trivial) | (refine CallK.pure (U5 c.ch _ _ _ rfl hl) (J1 ?_); simp -implicitDefEqProofs -dsimp only [go_sem, seval, Cf.cells, ↓J0 _ _ N1, ↓J0 _ _ J7, h_1, h_2]; have h_3 := trivial) | (have h_3 := trivial)) <;>
  (first | (apply K0 <;> intro h_4 <;> simp -implicitDefEqProofs -dsimp only [go_sem, seval, Cf.cells, ↓J0 _ _ N1, ↓J0 _ _ J7, h_1, h_2, h_3, h_4]) | (refine CallK.pure (G0 _) (J1 ?_); simp -implicitDefEqProofs -dsimp only [go_sem, seval, Cf.cells, ↓J0 _ _ N1, ↓J0 _ _ J7, h_1, h_2, h_3]; have h_4 := trivial) | (refine CallK.pure (U5 c.ch _ _ _ rfl hl) (J1 ?_); simp -implicitDefEqProofs -dsimp only [go_sem, seval, Cf.cells, ↓J0 _ _ N1, ↓J0 _ _ J7, h_1, h_2, h_3]; have h_4 := trivial) | (have h_4 := trivial)) <;>
  (first | (apply K0 <;> intro h_5 <;> simp -implicitDefEqProofs -dsimp only [go_sem, seval, Cf.cells, ↓J0 _ _ N1, ↓J0 _ _ J7, h_1, h_2, h_3, h_4, h_5]) | (refine CallK.pure (G0 _) (J1 ?_); simp -implicitDefEqProofs -dsimp only [go_sem, seval, Cf.cells, ↓J0 _ _ N1, ↓J0 _ _ J7, h_1, h_2, h_3, h_4]; have h_5 := trivial) | (refine CallK.pure (U5 c.ch _ _ _ rfl hl) (J1 ?_); simp -implicitDefEqProofs -dsimp only [go_sem, seval, Cf.cells, ↓J0 _ _ N1, ↓J0 _ _ J7, h_1, h_2, h_3, h_4]; have h_5 := trivial) | (have h_5 := trivial)) <;>
  (first | (apply K0 <;> intro h_6 <;> simp -implicitDefEqProofs -dsimp only [go_sem, seval, Cf.cells, ↓J0 _ _ N1, ↓J0 _ _ J7, h_1, h_2, h_3, h_4, h_5, h_6]) | (refine CallK.pure (G0 _) (J1 ?_); simp -implicitDefEqProofs -dsimp only [go_sem, seval, Cf.cells, ↓J0 _ _ N1, ↓J0 _ _ J7, h_1, h_2, h_3, h_4, h_5]; have h_6 := trivial) | (refine CallK.pure (U5 c.ch _ _ _ rfl hl) (J1 ?_); simp -implicitDefEqProofs -dsimp only [go_sem, seval, Cf.cells, ↓J0 _ _ N1, ↓J0 _ _ J7, h_1, h_2, h_3, h_4, h_5]; have h_6 := trivial) | (have h_6 := trivial))
 all_goals first
  | (refine J9 ?_; simp only [Cf.right, *, Bool.not_true, Bool.not_false, Bool.true_and, Bool.false_and, Bool.and_false, Bool.and_true]; done)
  | skip
 have hpos : (0 : Int) < (c.fu.length : Int) := by
  simp at h_4 h_6
  have := List.length_pos_iff.2 h_4
  omega
 simp -implicitDefEqProofs -dsimp only [go_sem, seval, hpos, hf0 (hlt hpos), h_1, h_2, h_3, h_4, h_5, h_6]
 (first | (apply K0 <;> intro h_7 <;> simp -implicitDefEqProofs -dsimp only [go_sem, seval, Cf.cells, ↓J0 _ _ N1, ↓J0 _ _ J7, h_1, h_2, h_3, h_4, h_5, h_6, h_7]) | (refine CallK.pure (G0 _) (J1 ?_); simp -implicitDefEqProofs -dsimp only [go_sem, seval, Cf.cells, ↓J0 _ _ N1, ↓J0 _ _ J7, h_1, h_2, h_3, h_4, h_5, h_6]; have h_7 := trivial) | (refine CallK.pure (U5 c.ch _ _ _ rfl hl) (J1 ?_); simp -implicitDefEqProofs -dsimp only [go_sem, seval, Cf.cells, ↓J0 _ _ N1, ↓J0 _ _ J7, h_1, h_2, h_3, h_4, h_5, h_6]; have h_7 := trivial) | (have h_7 := trivial)) <;>
  (first | (apply K0 <;> intro h_8 <;> simp -implicitDefEqProofs -dsimp only [go_sem, seval, Cf.cells, ↓J0 _ _ N1, ↓J0 _ _ J7, h_1, h_2, h_3, h_4, h_5, h_6, h_7, h_8]) | (refine CallK.pure (G0 _) (J1 ?_); simp -implicitDefEqProofs -dsimp only [go_sem, seval, Cf.cells, ↓J0 _ _ N1, ↓J0 _ _ J7, h_1, h_2, h_3, h_4, h_5, h_6, h_7]; have h_8 := trivial) | (refine CallK.pure (U5 c.ch _ _ _ rfl hl) (J1 ?_); simp -implicitDefEqProofs -dsimp only [go_sem, seval, Cf.cells, ↓J0 _ _ N1, ↓J0 _ _ J7, h_1, h_2, h_3, h_4, h_5, h_6, h_7]; have h_8 := trivial) | (have h_8 := trivial)) <;>
  (first | (apply K0 <;> intro h_9 <;> simp -implicitDefEqProofs -dsimp only [go_sem, seval, Cf.cells, ↓J0 _ _ N1, ↓J0 _ _ J7, h_1, h_2, h_3, h_4, h_5, h_6, h_7, h_8, h_9]) | (refine CallK.pure (G0 _) (J1 ?_); simp -implicitDefEqProofs -dsimp only [go_sem, seval, Cf.cells, ↓J0 _ _ N1, ↓J0 _ _ J7, h_1, h_2, h_3, h_4, h_5, h_6, h_7, h_8]; have h_9 := trivial) | (refine CallK.pure (U5 c.ch _ _ _ rfl hl) (J1 ?_); simp -implicitDefEqProofs -dsimp only [go_sem, seval, Cf.cells, ↓J0 _ _ N1, ↓J0 _ _ J7, h_1, h_2, h_3, h_4, h_5, h_6, h_7, h_8]; have h_9 := trivial) | (have h_9 := trivial)) <;>
  (first | (apply K0 <;> intro h_10 <;> simp -implicitDefEqProofs -dsimp only [go_sem, seval, Cf.cells, ↓J0 _ _ N1, ↓J0 _ _ J7, h_1, h_2, h_3, h_4, h_5, h_6, h_7, h_8, h_9, h_10]) | (refine CallK.pure (G0 _) (J1 ?_); simp -implicitDefEqProofs -dsimp only [go_sem, seval, Cf.cells, ↓J0 _ _ N1, ↓J0 _ _ J7, h_1, h_2, h_3, h_4, h_5, h_6, h_7, h_8, h_9]; have h_10 := trivial) | (refine CallK.pure (U5 c.ch _ _ _ rfl hl) (J1 ?_); simp -implicitDefEqProofs -dsimp only [go_sem, seval, Cf.cells, ↓J0 _ _ N1, ↓J0 _ _ J7, h_1, h_2, h_3, h_4, h_5, h_6, h_7, h_8, h_9]; have h_10 := trivial) | (have h_10 := trivial)) <;>
  (first | (apply K0 <;> intro h_11 <;> simp -implicitDefEqProofs -dsimp only [go_sem, seval, Cf.cells, ↓J0 _ _ N1, ↓J0 _ _ J7, h_1, h_2, h_3, h_4, h_5, h_6, h_7, h_8, h_9, h_10, h_11]) | (refine CallK.pure (G0 _) (J1 ?_); simp -implicitDefEqProofs -dsimp only [go_sem, seval, Cf.cells, ↓J0 _ _ N1, ↓J0 _ _ J7, h_1, h_2, h_3, h_4, h_5, h_6, h_7, h_8, h_9, h_10]; have h_11 := trivial) | (refine CallK.pure (U5 c.ch _ _ _ rfl hl) (J1 ?_); simp -implicitDefEqProofs -dsimp only [go_sem, seval, Cf.cells, ↓J0 _ _ N1, ↓J0 _ _ J7, h_1, h_2, h_3, h_4, h_5, h_6, h_7, h_8, h_9, h_10]; have h_11 := trivial) | (have h_11 := trivial)) <;>
  (first | (apply K0 <;> intro h_12 <;> simp -implicitDefEqProofs -dsimp only [go_sem, seval, Cf.cells, ↓J0 _ _ N1, ↓J0 _ _ J7, h_1, h_2, h_3, h_4, h_5, h_6, h_7, h_8, h_9, h_10, h_11, h_12]) | (refine CallK.pure (G0 _) (J1 ?_); simp -implicitDefEqProofs -dsimp only [go_sem, seval, Cf.cells, ↓J0 _ _ N1, ↓J0 _ _ J7, h_1, h_2, h_3, h_4, h_5, h_6, h_7, h_8, h_9, h_10, h_11]; have h_12 := trivial) | (refine CallK.pure (U5 c.ch _ _ _ rfl hl) (J1 ?_); simp -implicitDefEqProofs -dsimp only [go_sem, seval, Cf.cells, ↓J0 _ _ N1, ↓J0 _ _ J7, h_1, h_2, h_3, h_4, h_5, h_6, h_7, h_8, h_9, h_10, h_11]; have h_12 := trivial) | (have h_12 := trivial)) <;>
  (first | (apply K0 <;> intro h_13 <;> simp -implicitDefEqProofs -dsimp only [go_sem, seval, Cf.cells, ↓J0 _ _ N1, ↓J0 _ _ J7, h_1, h_2, h_3, h_4, h_5, h_6, h_7, h_8, h_9, h_10, h_11, h_12, h_13]) | (refine CallK.pure (G0 _) (J1 ?_); simp -implicitDefEqProofs -dsimp only [go_sem, seval, Cf.cells, ↓J0 _ _ N1, ↓J0 _ _ J7, h_1, h_2, h_3, h_4, h_5, h_6, h_7, h_8, h_9, h_10, h_11, h_12]; have h_13 := trivial) | (refine CallK.pure (U5 c.ch _ _ _ rfl hl) (J1 ?_); simp -implicitDefEqProofs -dsimp only [go_sem, seval, Cf.cells, ↓J0 _ _ N1, ↓J0 _ _ J7, h_1, h_2, h_3, h_4, h_5, h_6, h_7, h_8, h_9, h_10, h_11, h_12]; have h_13 := trivial) | (have h_13 := trivial))
 all_goals first
  | (refine J9 ?_; simp only [Cf.right, *, Bool.not_true, Bool.not_false, Bool.true_and, Bool.false_and, Bool.and_false, Bool.and_true, Bool.or_true, Bool.true_or, Bool.false_or, Bool.or_false]; done)
  | skip
 all_goals
  refine z1t (c := c) (k1 := k1) (k2 := k2) (by repeat' (first | exact O6 _ _ | assumption | apply O5 | apply N4 | apply V8)) hl c.ch 0 rfl (by omega) (fun hn => ?_) (fun hn => ?_) <;> simp -implicitDefEqProofs -dsimp only [go_sem, seval] <;> refine J9 ?_ <;>
   simp only [Cf.right, *, Bool.not_true, Bool.not_false, Bool.true_and, Bool.false_and, Bool.and_false, Bool.and_true, Bool.or_true, Bool.true_or, Bool.false_or, Bool.or_false]
end Go.Aw
