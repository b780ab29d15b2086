import Derived.Test.YtnkagdjmjakeiaaGreatDoorAwD
import Derived.Test.YtnkagdjmjakeiaaGreatDoorV22T16A
namespace Go.Aw
set_option linter.all false
open Go
open Go.Proofs.Tryz (prog)
set_option linter.unusedSimpArgs false
def mem (l : List (Int × Bool)) : List AV := l.flatMap fun m => [.i .i64 m.1, .b m.2]
theorem q5g (l : List (Int × Bool)) : (mem l).length = l.length * 2 := by
 induction l with
 | nil => rfl
 | cons a l ih => simp [mem] at ih ⊢; omega
theorem Q5 (m : Int × Bool) (l : List (Int × Bool)) : mem (m :: l) = .i .i64 m.1 :: .b m.2 :: mem l := rfl
theorem Y7 (l m : List (Int × Bool)) : mem (l ++ m) = mem l ++ mem m := by simp [mem]
theorem qfd {l : List (Int × Bool)} {k : Nat} {m : Int × Bool} (h : l[k]? = some m) : (mem l).drop (k * 2) = .i .i64 m.1 :: .b m.2 :: mem (l.drop (k + 1)) := by
 induction l generalizing k with
 | nil => simp at h
 | cons a l ih =>
  cases k with
  | zero => simp at h; subst h; simp [Q5]
  | succ k =>
   simp at h
   rw [Q5, Nat.add_mul]
   simpa using ih h
structure Rf where
 ep : Int
 sh : Int
 l : List (Int × Bool)
 ln : Int
def Rf.cells (c : Rf) (k : Option Nat) : List AV := [.i .u64 c.ep, .i .i64 c.sh, .fz c.l.length (mem c.l) k, .i .i64 c.ln]
theorem qvn {R : U6} (hR : ExtR R) {T : Tab} {v : Int} {cap : Option Nat} {xs : List (Int × Bool)} (hl : Len xs.length) : ∀ (ys : List (Int × Bool)) (k : Nat), xs.drop k = ys -> k <= xs.length ->
  (∀ j, ixF v (ys.map (·.1)) k = some j -> R .ret [(4, .i .i64 j)] [] T) ->
  (ixF v (ys.map (·.1)) k = none -> R (.exit 0) [(1, .i .i64 v), (8, .fz xs.length (mem xs) cap), (9, .i .i64 xs.length), (10, .i .i64 xs.length), (11, .b false)] [] T) ->
  AW prog q58 R [(1, .i .i64 v), (8, .fz xs.length (mem xs) cap), (9, .i .i64 xs.length), (10, .i .i64 k)] [] T := by
 intro ys
 induction ys with
 | nil =>
  intro k hk hle h1 h2
  have hk' := I0 hk hle
  refine U8 hR ?_
  unfold q24
  simp -implicitDefEqProofs -dsimp only [go_sem, seval, hk', Int.lt_irrefl]
  rw [hk'] at h2
  exact h2 rfl
 | cons y ys ih =>
  intro k hk hle h1 h2
  obtain ⟨hlt, hy, hk'⟩ := q0b hk
  unfold Len at hl
  refine U8 hR ?_
  unfold q24
  simp -implicitDefEqProofs -dsimp only [go_sem, seval, Int.ofNat_lt, hlt, Int.natCast_nonneg, Int.toNat_natCast, qfd hy]
  simp only [ixF, List.map_cons] at h1 h2
  refine J4 (fun h => ?_) (fun h => ?_) <;> simp -implicitDefEqProofs -dsimp only [go_sem, seval, h]
  ·exact h1 k (by rw [if_pos (of_decide_eq_true h).symm])
  ·rw [O0 (by omega)]
   rw [if_neg (fun e => of_decide_eq_false h e.symm)] at h1 h2
   exact ih (k + 1) hk' hlt h1 h2
theorem q3k (c : Rf) (k : Option Nat) (v : Int) (hl : Len c.l.length) : Q4 prog Q9 [.agg (c.cells k), .i .i64 v] (.i .i64 (ixI v (c.l.map (·.1)))) := by
 refine K8 O1 qcc (by simp) fun T => ?_
 unfold q5t
 simp -implicitDefEqProofs -dsimp only [go_sem, seval, Rf.cells]
 refine qvn (by repeat' (first | exact N8 _ _ | assumption | apply N7 | apply N0 | apply V0)) hl c.l 0 rfl (by omega) (fun j hj => ?_) (fun h => ?_) <;> simp -implicitDefEqProofs -dsimp only [go_sem, seval] <;> refine J9 ?_ <;> simp [ixI, *]
def qjl (xs : List (Int × Bool)) (ln : Int) : List (Int × Bool) -> Nat -> Bool
 | [], _ => true
 | y :: ys, k => !decide (y.1 < 0) && !decide (7 < y.1) && !(!decide (ixI y.1 (xs.map (·.1)) = (k : Int))) && !decide (y.1 = ln) && qjl xs ln ys (k + 1)
def Rf.right (c : Rf) : Bool :=
 !decide (c.ep = 0) && !decide (c.sh < 0) && !decide (3 < c.sh) && !decide ((c.l.length : Int) = 0) && !decide (8 < (c.l.length : Int)) &&
  !(!((c.l[0]?).getD (0, false)).2) && !decide (c.ln < -1) && !decide (7 < c.ln) && qjl c.l c.ln c.l 0
set_option maxHeartbeats 4000000 in
theorem qr3 {R : U6} (hR : ExtR R) {T : Tab} {c : Rf} {k1 : Option Nat} (hl : Len c.l.length) : ∀ (ys : List (Int × Bool)) (k : Nat), c.l.drop k = ys -> k <= c.l.length ->
  (qjl c.l c.ln ys k = false -> R .ret [(2, .b false)] [] T) ->
  (qjl c.l c.ln ys k = true -> R (.exit 0) [(1, .lp 1 0), (49, .fz c.l.length (mem c.l) k1), (50, .i .i64 c.l.length), (51, .i .i64 c.l.length), (52, .b false)] [(1, c.cells k1)] T) ->
  AW prog q4r R [(1, .lp 1 0), (49, .fz c.l.length (mem c.l) k1), (50, .i .i64 c.l.length), (51, .i .i64 k)] [(1, c.cells k1)] T := by
 intro ys
 induction ys with
 | nil =>
  intro k hk hle h1 h2
  have hk' := I0 hk hle
  refine U8 hR ?_
  unfold q1m
  simp -implicitDefEqProofs -dsimp only [go_sem, seval, hk', Int.lt_irrefl]
  rw [hk'] at h2
  exact h2 rfl
 | cons y ys ih =>
  intro k hk hle h1 h2
  obtain ⟨hlt, hy, hk'⟩ := q0b hk
  have hl' := hl
  unfold Len at hl
  refine U8 hR ?_
  unfold q1m
  simp -implicitDefEqProofs -dsimp only [go_sem, seval, Int.ofNat_lt, hlt, Int.natCast_nonneg, Int.toNat_natCast, qfd hy]
  simp only [qjl] at h1 h2
  (first | (apply J4 <;> intro h_1 <;> simp -implicitDefEqProofs -dsimp only [go_sem, seval, Rf.cells, ↓J0 _ _ J6, h_1]) | (refine CallK.pure (q3k c k1 _ hl') (J3 ?_); simp -implicitDefEqProofs -dsimp only [go_sem, seval, Rf.cells, ↓J0 _ _ J6]; have h_1 := trivial) | (have h_1 := trivial)) <;>
  (first | (apply J4 <;> intro h_2 <;> simp -implicitDefEqProofs -dsimp only [go_sem, seval, Rf.cells, ↓J0 _ _ J6, h_1, h_2]) | (refine CallK.pure (q3k c k1 _ hl') (J3 ?_); simp -implicitDefEqProofs -dsimp only [go_sem, seval, Rf.cells, ↓J0 _ _ J6, h_1]; have h_2 := trivial) | (have h_2 := trivial)) <;>
  (first | (apply J4 <;> intro h_3 <;> simp -implicitDefEqProofs -dsimp only [go_sem, seval, Rf.cells, ↓J0 _ _ J6, h_1, h_2, h_3]) | (refine CallK.pure (q3k c k1 _ hl') (J3 ?_); simp -implicitDefEqProofs -dsimp only [go_sem, seval, Rf.cells, ↓J0 _ _ J6, h_1, h_2]; have h_3 := trivial) | (have h_3 := trivial)) <;>
  (first | (apply J4 <;> intro h_4 <;> simp -implicitDefEqProofs -dsimp only [go_sem, seval, Rf.cells, ↓J0 _ _ J6, h_1, h_2, h_3, h_4]) | (refine CallK.pure (q3k c k1 _ hl') (J3 ?_); simp -implicitDefEqProofs -dsimp only [go_sem, seval, Rf.cells, ↓J0 _ _ J6, h_1, h_2, h_3]; have h_4 := trivial) | (have h_4 := trivial)) <;>
  (first | (apply J4 <;> intro h_5 <;> simp -implicitDefEqProofs -dsimp only [go_sem, seval, Rf.cells, ↓J0 _ _ J6, h_1, h_2, h_3, h_4, h_5]) | (refine CallK.pure (q3k c k1 _ hl') (J3 ?_); simp -implicitDefEqProofs -dsimp only [go_sem, seval, Rf.cells, ↓J0 _ _ J6, h_1, h_2, h_3, h_4]; have h_5 := trivial) | (have h_5 := trivial)) <;>
  (first | (apply J4 <;> intro h_6 <;> simp -implicitDefEqProofs -dsimp only [go_sem, seval, Rf.cells, ↓J0 _ _ J6, h_1, h_2, h_3, h_4, h_5, h_6]) | (refine CallK.pure (q3k c k1 _ hl') (J3 ?_); simp -implicitDefEqProofs -dsimp only [go_sem, seval, Rf.cells, ↓J0 _ _ J6, h_1, h_2, h_3, h_4, h_5]; have h_6 := trivial) | (have h_6 := trivial))
  all_goals first
   | (exact h1 (by simp only [h_1, h_2, h_3, h_4, h_5, h_6, Bool.not_true, Bool.not_false, Bool.true_and, Bool.false_and, Bool.and_false, Bool.and_true]))
   | skip
  rw [O0 (by omega)]
  simp only [h_1, h_2, h_4, h_5, Bool.not_true, Bool.not_false, Bool.true_and, Bool.false_and, Bool.and_false, Bool.and_true] at h1 h2
  exact ih (k + 1) hk' hlt h1 h2
set_option maxHeartbeats 4000000 in
theorem q63 (c : Rf) (k1 : Option Nat) (hl : Len c.l.length) : Q4 prog G7 [.agg (c.cells k1)] (.b c.right) := by
 refine K8 O1 qb5 (by simp) fun T => ?_
 unfold q59
 simp -implicitDefEqProofs -dsimp only [go_sem, seval, Rf.cells]
 (first | (apply J4 <;> intro h_1 <;> simp -implicitDefEqProofs -dsimp only [go_sem, seval, Rf.cells, h_1]) | (have h_1 := trivial)) <;>
  (first | (apply J4 <;> intro h_2 <;> simp -implicitDefEqProofs -dsimp only [go_sem, seval, Rf.cells, h_1, h_2]) | (have h_2 := trivial)) <;>
  (first | (apply J4 <;> intro h_3 <;> simp -implicitDefEqProofs -dsimp only [go_sem, seval, Rf.cells, h_1, h_2, h_3]) | (have h_3 := trivial)) <;>
  (first | (apply J4 <;> intro h_4 <;> simp -implicitDefEqProofs -dsimp only [go_sem, seval, Rf.cells, h_1, h_2, h_3, h_4]) | (have h_4 := trivial)) <;>
  (first | (apply J4 <;> intro h_5 <;> simp -implicitDefEqProofs -dsimp only [go_sem, seval, Rf.cells, h_1, h_2, h_3, h_4, h_5]) | (have h_5 := trivial))
 all_goals first
  | (refine J9 ?_; simp only [Rf.right, *, Bool.not_true, Bool.not_false, Bool.true_and, Bool.false_and, Bool.and_false, Bool.and_true]; done)
  | skip
 have hpos : 0 < c.l.length := by
  simp at h_4
  exact List.length_pos_iff.2 h_4
 have hpos' : (0 : Int) < (c.l.length : Int) := by omega
 have hm := qfd (k := 0) (List.getElem?_eq_getElem hpos)
 rw [Nat.zero_mul, List.drop_zero] at hm
 have h0 : c.l[0]? = some c.l[0] := List.getElem?_eq_getElem hpos
 have hm1 : (List.drop 1 (mem c.l))[0]? = some (.b c.l[0].2) := by rw [hm]; rfl
 clear hm
 simp -implicitDefEqProofs -dsimp only [go_sem, seval, hpos', hm1, h_1, h_2, h_3, h_4, h_5]
 (first | (apply J4 <;> intro h_6 <;> simp -implicitDefEqProofs -dsimp only [go_sem, seval, Rf.cells, hpos', hm1, h_1, h_2, h_3, h_4, h_5, h_6]) | (have h_6 := trivial)) <;>
  (first | (apply J4 <;> intro h_7 <;> simp -implicitDefEqProofs -dsimp only [go_sem, seval, Rf.cells, hpos', hm1, h_1, h_2, h_3, h_4, h_5, h_6, h_7]) | (have h_7 := trivial)) <;>
  (first | (apply J4 <;> intro h_8 <;> simp -implicitDefEqProofs -dsimp only [go_sem, seval, Rf.cells, hpos', hm1, h_1, h_2, h_3, h_4, h_5, h_6, h_7, h_8]) | (have h_8 := trivial)) <;>
  (first | (apply J4 <;> intro h_9 <;> simp -implicitDefEqProofs -dsimp only [go_sem, seval, Rf.cells, hpos', hm1, h_1, h_2, h_3, h_4, h_5, h_6, h_7, h_8, h_9]) | (have h_9 := trivial)) <;>
  (first | (apply J4 <;> intro h_10 <;> simp -implicitDefEqProofs -dsimp only [go_sem, seval, Rf.cells, hpos', hm1, h_1, h_2, h_3, h_4, h_5, h_6, h_7, h_8, h_9, h_10]) | (have h_10 := trivial))
 all_goals first
  | (refine J9 ?_; simp only [Rf.right, *, Option.getD_some, Bool.not_true, Bool.not_false, Bool.true_and, Bool.false_and, Bool.and_false, Bool.and_true]; done)
  | skip
 refine qr3 (c := c) (k1 := k1) (by repeat' (first | exact N8 _ _ | assumption | apply N7 | apply N0 | apply V0)) hl c.l 0 rfl (by omega) (fun hn => ?_) (fun hn => ?_) <;> simp -implicitDefEqProofs -dsimp only [go_sem, seval] <;> refine J9 ?_ <;>
   simp only [Rf.right, *, Option.getD_some, Bool.not_true, Bool.not_false, Bool.true_and, Bool.false_and, Bool.and_false, Bool.and_true, Bool.or_true, Bool.true_or, Bool.false_or, Bool.or_false]
end Go.Aw
namespace Go.Aw
open Go
open Go.Proofs.Tryz (prog)
set_option linter.all false
theorem Wks.cf {a b c : AV} {n m : Nat} {x y : List AV} {k1 k2 : Option Nat} : Wks [a, b, .fz n x k1, .fz m y k2, c] [a, b, .fz n x none, .fz m y none, c] :=
 ⟨.refl _, .refl _, .fz, .fz, .refl _, trivial⟩
end Go.Aw
namespace Go.Aw
open Go
open Go.Proofs.Tryz (prog)
set_option linter.all false
def q7y (fu : List Bool) : List Int -> Nat -> List (Int × Bool)
 | [], _ => []
 | y :: ys, k => (y, (fu[k]?).getD false) :: q7y fu ys (k + 1)
def Cf.plain (c : Cf) : Rf := ⟨c.ep, c.sh, q7y c.fu c.ch 0, c.ln⟩
theorem qe7 (fu : List Bool) : ∀ (l : List Int) (k : Nat), (q7y fu l k).length = l.length
 | [], _ => rfl
 | _ :: l, k => by simp [q7y, qe7 fu l (k + 1)]
end Go.Aw
