import Derived.Test.YtnkagdjmjakeiaaGreatDoorV22T16L
namespace Go.Aw
open Go
open Go.Proofs.Tryz (prog)
set_option linter.all false
set_option maxHeartbeats 4000000
def rf0 : Rf := ⟨0, 0, [], 0⟩
def Rf.ret (r : Rf × Int) : AV := .tup [.agg (r.1.cells none), .i .i64 r.2]
theorem Wks.rf {a b c : AV} {n : Nat} {x : List AV} {k1 : Option Nat} : Wks [a, b, .fz n x k1, c] [a, b, .fz n x none, c] := ⟨.refl _, .refl _, .fz, .refl _, trivial⟩
theorem qrr {r : Rf × Int} {k : Option Nat} : Wk (.tup [.agg (r.1.cells k), .i .i64 r.2]) (Rf.ret r) := Wk.tup ⟨Wk.agg Wks.rf, .refl _, trivial⟩
theorem q5e (e : Int) : Wk (.tup [.agg (rf0.cells (some 0)), .i .i64 e]) (Rf.ret (rf0, e)) := qrr (r := (rf0, e))
theorem qa8 {T T' : Tab} {l : List Ow} (h : Owns T l T') (e : Int) : qel (.tup [.agg (rf0.cells (some 0)), .i .i64 e]) (fun v T' => v = Rf.ret (rf0, e) /\ T' = T) T' :=
 q7l h fun S _ => q5e e
theorem qg1 {T T' : Tab} {v1 : AV} {l : List Ow} {r : Rf × Int} {ep sh ln e : Int} {ms : List (Int × Bool)} {n : Nat} (h : Owns T l T') (hr : r = (⟨ep, sh, ms, ln⟩, e)) (h1 : ⟨2, v1, n, mem ms⟩ ∈ l)
  (hn : ms.length = n) : qel (.tup [.agg [.i .u64 ep, .i .i64 sh, v1, .i .i64 ln], .i .i64 e]) (fun v T' => v = Rf.ret r /\ T' = T) T' := by
 subst hn; subst hr
 refine q7l h fun S hS => ?_
 obtain ⟨c1, e1⟩ := hS _ h1
 simp only at e1
 simp only [qoc, qi1, List.map_cons, List.map_nil, e1, qqs]
 exact Wk.tup ⟨Wk.agg Wks.rf, .refl _, trivial⟩
theorem Owns.two {T T' : Tab} {z n : Nat} {v : AV} {xs : List AV} {l : List Ow} (h : Owns T (⟨z, v, n, xs⟩ :: l) T') :
  (v = .fz 0 [] (some 0) /\ n = 0) \/ (∃ id, v = .sl id 0 n none /\ T' id = .row z xs) := by
 obtain ⟨T1, h1, hx, h2⟩ := h
 rcases h2 with ⟨e1, e2, _⟩ | ⟨id, e1, e2, rfl⟩
 ·exact .inl ⟨e1, e2⟩
 ·exact .inr ⟨id, e1, T1.put_same id _⟩
def Rf.may (c : Rf) (n ep : Int) : Bool := c.right && decide (0 <= n) && decide (n <= 7) && decide (c.ep < ep)
theorem qff (c : Rf) (k : Option Nat) (n ep : Int) (hl : Len c.l.length) : Q4 prog Z8 [.agg (c.cells k), .i .i64 n, .i .u64 ep] (.b (c.may n ep)) := by
 refine K8 O1 qdx (by simp) fun T => ?_
 unfold q6w
 simp -implicitDefEqProofs -dsimp only [go_sem, seval, Rf.cells, ↓J0 _ _ K9]
 (first | (apply J4 <;> intro h_1 <;> simp -implicitDefEqProofs -dsimp only [go_sem, seval, Rf.cells, ↓J0 _ _ K9, h_1]) | (refine CallK.pure (q63 c k hl) (J3 ?_); simp -implicitDefEqProofs -dsimp only [go_sem, seval, Rf.cells, ↓J0 _ _ K9]; have h_1 := trivial) | (have h_1 := trivial)) <;>
  (first | (apply J4 <;> intro h_2 <;> simp -implicitDefEqProofs -dsimp only [go_sem, seval, Rf.cells, ↓J0 _ _ K9, h_1, h_2]) | (refine CallK.pure (q63 c k hl) (J3 ?_); simp -implicitDefEqProofs -dsimp only [go_sem, seval, Rf.cells, ↓J0 _ _ K9, h_1]; have h_2 := trivial) | (have h_2 := trivial)) <;>
  (first | (apply J4 <;> intro h_3 <;> simp -implicitDefEqProofs -dsimp only [go_sem, seval, Rf.cells, ↓J0 _ _ K9, h_1, h_2, h_3]) | (refine CallK.pure (q63 c k hl) (J3 ?_); simp -implicitDefEqProofs -dsimp only [go_sem, seval, Rf.cells, ↓J0 _ _ K9, h_1, h_2]; have h_3 := trivial) | (have h_3 := trivial)) <;>
  (first | (apply J4 <;> intro h_4 <;> simp -implicitDefEqProofs -dsimp only [go_sem, seval, Rf.cells, ↓J0 _ _ K9, h_1, h_2, h_3, h_4]) | (refine CallK.pure (q63 c k hl) (J3 ?_); simp -implicitDefEqProofs -dsimp only [go_sem, seval, Rf.cells, ↓J0 _ _ K9, h_1, h_2, h_3]; have h_4 := trivial) | (have h_4 := trivial)) <;>
  (first | (apply J4 <;> intro h_5 <;> simp -implicitDefEqProofs -dsimp only [go_sem, seval, Rf.cells, ↓J0 _ _ K9, h_1, h_2, h_3, h_4, h_5]) | (refine CallK.pure (q63 c k hl) (J3 ?_); simp -implicitDefEqProofs -dsimp only [go_sem, seval, Rf.cells, ↓J0 _ _ K9, h_1, h_2, h_3, h_4]; have h_5 := trivial) | (have h_5 := trivial)) <;>
  (first | (apply J4 <;> intro h_6 <;> simp -implicitDefEqProofs -dsimp only [go_sem, seval, Rf.cells, ↓J0 _ _ K9, h_1, h_2, h_3, h_4, h_5, h_6]) | (refine CallK.pure (q63 c k hl) (J3 ?_); simp -implicitDefEqProofs -dsimp only [go_sem, seval, Rf.cells, ↓J0 _ _ K9, h_1, h_2, h_3, h_4, h_5]; have h_6 := trivial) | (have h_6 := trivial))
 all_goals
  refine J9 ?_
  simp only [Rf.may, *, Bool.true_and, Bool.false_and, Bool.and_true, Bool.and_false]
def Rf.rest (c : Rf) (n : Int) : List (Int × Bool) := c.l.filter fun m => !decide (m.1 = n)
def Rf.remove (c : Rf) (n ep : Int) : Rf × Int :=
 if c.may n ep = false then (rf0, 1) else
 if c.ln = n then (⟨ep, c.sh, c.rest n, -1⟩, 0) else
 if ixI n (c.l.map (·.1)) < 0 then (rf0, 6) else
 if (c.rest n).length = 0 \/ (((c.rest n)[0]?).getD (0, false)).2 = false then (rf0, 10) else (⟨ep, c.sh, c.rest n, c.ln⟩, 0)
theorem qp6 {R : U6} (hR : ExtR R) {T : Tab} {c : Rf} {n ep : Int} {k1 : Option Nat} (hl : c.l.length < 1000000000) : ∀ (ys : List (Int × Bool)) (k : Nat), c.l.drop k = ys -> k <= c.l.length -> ∀ (v : AV) (T1 : Tab) (acc : List (Int × Bool)),
  acc.length <= k -> Owns T [⟨2, v, acc.length, mem acc⟩] T1 ->
  (∀ v T1 ms, ms = acc ++ ys.filter (fun m => !decide (m.1 = n)) -> Owns T [⟨2, v, ms.length, mem ms⟩] T1 ->
   R (.exit 0) [(1, .i .i64 n), (2, .i .u64 ep), (3, .lp 3 0), (6, .lp 6 0), (8, .lp 8 0), (18, .fz c.l.length (mem c.l) k1), (19, .i .i64 c.l.length), (20, .i .i64 c.l.length), (21, .b false)]
    [(3, c.cells k1), (6, [.i .u64 0, .i .i64 0, .fz 0 [] (some 0), .i .i64 0]), (8, [.i .u64 ep, .i .i64 c.sh, v, .i .i64 c.ln])] T1) ->
  AW prog q03 R [(1, .i .i64 n), (2, .i .u64 ep), (3, .lp 3 0), (6, .lp 6 0), (8, .lp 8 0), (18, .fz c.l.length (mem c.l) k1), (19, .i .i64 c.l.length), (20, .i .i64 k)]
    [(3, c.cells k1), (6, [.i .u64 0, .i .i64 0, .fz 0 [] (some 0), .i .i64 0]), (8, [.i .u64 ep, .i .i64 c.sh, v, .i .i64 c.ln])] T1 := by
 intro ys
 induction ys with
 | nil =>
  intro k hk hle v T1 acc hacc how h2
  have hk' := I0 hk hle
  refine O4 (l := q03) rfl hR ?_
  unfold q17
  simp -implicitDefEqProofs -dsimp only [go_sem, seval, hk', Int.lt_irrefl]
  have := h2 v T1 acc (by simp) how
  rw [hk'] at this
  exact this
 | cons y ys ih =>
  intro k hk hle v T1 acc hacc how h2
  obtain ⟨hlt, hy, hk'⟩ := q0b hk
  obtain ⟨p1, p2, p3, p4, p5, p6⟩ := how.form (List.mem_cons_self ..)
  simp only at p1 p2 p3 p4 p5 p6
  refine O4 (l := q03) rfl hR ?_
  unfold q17
  simp -implicitDefEqProofs -dsimp only [go_sem, seval, Int.ofNat_lt, hlt, Int.natCast_nonneg, Int.toNat_natCast, qfd hy, p1, p2, p3, p4, p5, p6, Rf.cells]
  refine J4 (fun h => ?_) (fun h => ?_)
  ·have d : ¬ y.1 = n := by simpa using h
   simp -implicitDefEqProofs -dsimp only [go_sem, seval, h, p1, p2, p3, p4, p5, p6]
   refine how.app (m := 1) (news := mem [y]) (by simp [N2, mem]) rfl (by simp only; omega) (by simp only; omega) fun v' T2 how' => ?_
   refine J3 ?_
   obtain ⟨q1, q2, q3, q4, q5, q6⟩ := how'.form (List.mem_cons_self ..)
   simp only at q1 q2 q3 q4 q5 q6
   simp -implicitDefEqProofs -dsimp only [go_sem, seval, q1, q2, q3, q4, q5, q6]
   rw [O0 (by omega)]
   refine ih (k + 1) hk' hlt v' T2 (acc ++ [y]) (by simp; omega) (by simpa [Y7] using how') fun v'' T3 ms hm h'' => h2 v'' T3 ms ?_ h''
   rw [hm, List.filter_cons, if_pos (by simp [d])]
   simp
  ·have d : y.1 = n := by simpa using h
   simp -implicitDefEqProofs -dsimp only [go_sem, seval, h, p1, p2, p3, p4, p5, p6]
   rw [O0 (by omega)]
   refine ih (k + 1) hk' hlt v T1 acc (by omega) how fun v'' T3 ms hm h'' => h2 v'' T3 ms ?_ h''
   rw [hm, List.filter_cons, if_neg (by simp [d])]
theorem qik (c : Rf) (k : Option Nat) (n ep : Int) (hl : c.l.length < 1000000000) : Q4 prog Z2 [.agg (c.cells k), .i .i64 n, .i .u64 ep] (Rf.ret (c.remove n ep)) := by
 refine K8 O1 q9p (by simp) fun T => ?_
 unfold q4n
 have hL : Len c.l.length := by unfold Len; omega
 simp -implicitDefEqProofs -dsimp only [go_sem, seval, Rf.cells]
 refine qp6 (T := T) (c := c) (n := n) (ep := ep) (k1 := k) (by repeat' (first | exact N8 _ _ | assumption | apply N7 | apply N0 | apply V0)) hl c.l 0 rfl (by omega) _ T [] (by simp) ⟨T, rfl, .nil T 2⟩ (fun v1 T1 ms hms how => ?_)
 have hms : ms = c.rest n := by rw [hms]; rfl
 subst hms
 obtain ⟨p1, p2, p3, p4, p5, p6⟩ := how.form (List.mem_cons_self ..)
 simp only at p1 p2 p3 p4 p5 p6
 simp -implicitDefEqProofs -dsimp only [go_sem, seval, Rf.cells, p1, p2, p3, p4, p5, p6, ↓J0 _ _ K2]
 refine cpn (qff c k n ep hL) ?_
 cases hm : c.may n ep with
 | false =>
  simp -implicitDefEqProofs -dsimp only [go_sem, seval, Rf.cells, p1, p2, p3, p4, p5, p6]
  rw [Rf.remove, if_pos hm]
  exact qa8 how 1
 | true =>
  simp -implicitDefEqProofs -dsimp only [go_sem, seval, Rf.cells, p1, p2, p3, p4, p5, p6]
  refine J4 (fun h1 => ?_) (fun h1 => ?_)
  ·simp -implicitDefEqProofs -dsimp only [go_sem, seval, Rf.cells, h1, p1, p2, p3, p4, p5, p6]
   refine qg1 how ?_ (List.mem_cons_self ..) rfl
   rw [Rf.remove, if_neg (by simp [hm]), if_pos (of_decide_eq_true h1)]
  ·have d1 := of_decide_eq_false h1
   simp -implicitDefEqProofs -dsimp only [go_sem, seval, Rf.cells, h1, p1, p2, p3, p4, p5, p6, ↓J0 _ _ J6]
   refine cpn (q3k c k n hL) ?_
   simp -implicitDefEqProofs -dsimp only [go_sem, seval, Rf.cells, h1, p1, p2, p3, p4, p5, p6]
   refine J4 (fun h2 => ?_) (fun h2 => ?_)
   ·have d2 := of_decide_eq_true h2
    simp -implicitDefEqProofs -dsimp only [go_sem, seval, Rf.cells, h1, h2, p1, p2, p3, p4, p5, p6]
    rw [Rf.remove, if_neg (by simp [hm]), if_neg d1, if_pos d2]
    exact qa8 how 6
   ·have d2 := of_decide_eq_false h2
    simp -implicitDefEqProofs -dsimp only [go_sem, seval, Rf.cells, h1, h2, p1, p2, p3, p4, p5, p6]
    have fail : ((c.rest n).length = 0 \/ (((c.rest n)[0]?).getD (0, false)).2 = false) -> c.remove n ep = (rf0, 10) := fun h => by
     rw [Rf.remove, if_neg (by simp [hm]), if_neg d1, if_neg d2, if_pos h]
    have good : ¬ ((c.rest n).length = 0 \/ (((c.rest n)[0]?).getD (0, false)).2 = false) -> c.remove n ep = (⟨ep, c.sh, c.rest n, c.ln⟩, 0) := fun h => by
     rw [Rf.remove, if_neg (by simp [hm]), if_neg d1, if_neg d2, if_neg h]
    have how' := how
    rcases how.two with ⟨rfl, en⟩ | ⟨id, rfl, hrow⟩
    ·have e0 : c.rest n = [] := List.length_eq_zero_iff.1 en
     simp -implicitDefEqProofs -dsimp only [go_sem, seval, Rf.cells, decide_true, show ((0 : Nat) : Int) = 0 from rfl]
     rw [fail (.inl en)]
     exact qa8 how 10
    ·simp -implicitDefEqProofs -dsimp only [go_sem, seval, Rf.cells]
     refine J4 (fun h3 => ?_) (fun h3 => ?_)
     ·have d3 := of_decide_eq_true h3
      simp -implicitDefEqProofs -dsimp only [go_sem, seval, Rf.cells, h3]
      rw [fail (.inl (by omega))]
      exact qa8 how 10
     ·have d3 := of_decide_eq_false h3
      have d4 : 0 < (c.rest n).length := by omega
      have d5 : (0 : Int) < ((c.rest n).length : Int) := by omega
      obtain ⟨m0, ms, hms⟩ : ∃ m0 ms, c.rest n = m0 :: ms := by
       cases hc : c.rest n with
       | nil => simp [hc] at d4
       | cons a b => exact ⟨a, b, rfl⟩
      have hrow' : T1 id = .row 2 (.i .i64 m0.1 :: .b m0.2 :: mem ms) := by rw [hrow, hms]; rfl
      simp -implicitDefEqProofs -dsimp only [go_sem, seval, Rf.cells, h3, d5, hrow']
      refine J4 (fun h4 => ?_) (fun h4 => ?_)
      ·simp -implicitDefEqProofs -dsimp only [go_sem, seval, Rf.cells, h3, h4]
       rw [fail (.inr (by rw [hms]; simpa using h4))]
       exact qa8 how 10
      ·simp -implicitDefEqProofs -dsimp only [go_sem, seval, Rf.cells, h3, h4]
       refine qg1 how ?_ (List.mem_cons_self ..) rfl
       rw [good]
       rintro (h | h)
       ·omega
       ·rw [hms] at h
        simp at h h4
        rw [h] at h4; cases h4
def Rf.learn (c : Rf) (n ep : Int) : Rf × Int :=
 if c.may n ep = false then (rf0, 1) else
 if 0 <= ixI n (c.l.map (·.1)) \/ c.ln = n then (rf0, 7) else
 if 0 <= c.ln then (rf0, 10) else (⟨ep, c.sh, c.l, n⟩, 0)
theorem qrs (c : Rf) (k : Option Nat) (n ep : Int) (hl : c.l.length < 1000000000) : Q4 prog q0k [.agg (c.cells k), .i .i64 n, .i .u64 ep] (Rf.ret (c.learn n ep)) := by
 refine K8 O1 qav (by simp) fun T => ?_
 unfold q53
 have hL : Len c.l.length := by unfold Len; omega
 simp -implicitDefEqProofs -dsimp only [go_sem, seval, Rf.cells, ↓J0 _ _ K2]
 (first | (apply J4 <;> intro h_1 <;> simp -implicitDefEqProofs -dsimp only [go_sem, seval, Rf.cells, ↓J0 _ _ K2, ↓J0 _ _ J6, h_1]) | (refine CallK.pure (qff c k n ep hL) (J3 ?_); simp -implicitDefEqProofs -dsimp only [go_sem, seval, Rf.cells, ↓J0 _ _ K2, ↓J0 _ _ J6]; have h_1 := trivial) | (refine CallK.pure (q3k c k n hL) (J3 ?_); simp -implicitDefEqProofs -dsimp only [go_sem, seval, Rf.cells, ↓J0 _ _ K2, ↓J0 _ _ J6]; have h_1 := trivial) | (have h_1 := trivial)) <;>
  (first | (apply J4 <;> intro h_2 <;> simp -implicitDefEqProofs -dsimp only [go_sem, seval, Rf.cells, ↓J0 _ _ K2, ↓J0 _ _ J6, h_1, h_2]) | (refine CallK.pure (qff c k n ep hL) (J3 ?_); simp -implicitDefEqProofs -dsimp only [go_sem, seval, Rf.cells, ↓J0 _ _ K2, ↓J0 _ _ J6, h_1]; have h_2 := trivial) | (refine CallK.pure (q3k c k n hL) (J3 ?_); simp -implicitDefEqProofs -dsimp only [go_sem, seval, Rf.cells, ↓J0 _ _ K2, ↓J0 _ _ J6, h_1]; have h_2 := trivial) | (have h_2 := trivial)) <;>
  (first | (apply J4 <;> intro h_3 <;> simp -implicitDefEqProofs -dsimp only [go_sem, seval, Rf.cells, ↓J0 _ _ K2, ↓J0 _ _ J6, h_1, h_2, h_3]) | (refine CallK.pure (qff c k n ep hL) (J3 ?_); simp -implicitDefEqProofs -dsimp only [go_sem, seval, Rf.cells, ↓J0 _ _ K2, ↓J0 _ _ J6, h_1, h_2]; have h_3 := trivial) | (refine CallK.pure (q3k c k n hL) (J3 ?_); simp -implicitDefEqProofs -dsimp only [go_sem, seval, Rf.cells, ↓J0 _ _ K2, ↓J0 _ _ J6, h_1, h_2]; have h_3 := trivial) | (have h_3 := trivial)) <;>
  (first | (apply J4 <;> intro h_4 <;> simp -implicitDefEqProofs -dsimp only [go_sem, seval, Rf.cells, ↓J0 _ _ K2, ↓J0 _ _ J6, h_1, h_2, h_3, h_4]) | (refine CallK.pure (qff c k n ep hL) (J3 ?_); simp -implicitDefEqProofs -dsimp only [go_sem, seval, Rf.cells, ↓J0 _ _ K2, ↓J0 _ _ J6, h_1, h_2, h_3]; have h_4 := trivial) | (refine CallK.pure (q3k c k n hL) (J3 ?_); simp -implicitDefEqProofs -dsimp only [go_sem, seval, Rf.cells, ↓J0 _ _ K2, ↓J0 _ _ J6, h_1, h_2, h_3]; have h_4 := trivial) | (have h_4 := trivial)) <;>
  (first | (apply J4 <;> intro h_5 <;> simp -implicitDefEqProofs -dsimp only [go_sem, seval, Rf.cells, ↓J0 _ _ K2, ↓J0 _ _ J6, h_1, h_2, h_3, h_4, h_5]) | (refine CallK.pure (qff c k n ep hL) (J3 ?_); simp -implicitDefEqProofs -dsimp only [go_sem, seval, Rf.cells, ↓J0 _ _ K2, ↓J0 _ _ J6, h_1, h_2, h_3, h_4]; have h_5 := trivial) | (refine CallK.pure (q3k c k n hL) (J3 ?_); simp -implicitDefEqProofs -dsimp only [go_sem, seval, Rf.cells, ↓J0 _ _ K2, ↓J0 _ _ J6, h_1, h_2, h_3, h_4]; have h_5 := trivial) | (have h_5 := trivial)) <;>
  (first | (apply J4 <;> intro h_6 <;> simp -implicitDefEqProofs -dsimp only [go_sem, seval, Rf.cells, ↓J0 _ _ K2, ↓J0 _ _ J6, h_1, h_2, h_3, h_4, h_5, h_6]) | (refine CallK.pure (qff c k n ep hL) (J3 ?_); simp -implicitDefEqProofs -dsimp only [go_sem, seval, Rf.cells, ↓J0 _ _ K2, ↓J0 _ _ J6, h_1, h_2, h_3, h_4, h_5]; have h_6 := trivial) | (refine CallK.pure (q3k c k n hL) (J3 ?_); simp -implicitDefEqProofs -dsimp only [go_sem, seval, Rf.cells, ↓J0 _ _ K2, ↓J0 _ _ J6, h_1, h_2, h_3, h_4, h_5]; have h_6 := trivial) | (have h_6 := trivial))
 all_goals
  first
   | (have e : c.learn n ep = (rf0, 1) := by
       unfold Rf.learn; repeat' split
       all_goals first | rfl | (exfalso; simp_all; done) | (exfalso; simp_all; omega)
      rw [e]; exact q3l (q5e 1))
   | (have e : c.learn n ep = (rf0, 7) := by
       unfold Rf.learn; repeat' split
       all_goals first | rfl | (exfalso; simp_all; done) | (exfalso; simp_all; omega)
      rw [e]; exact q3l (q5e 7))
   | (have e : c.learn n ep = (rf0, 10) := by
       unfold Rf.learn; repeat' split
       all_goals first | rfl | (exfalso; simp_all; done) | (exfalso; simp_all; omega)
      rw [e]; exact q3l (q5e 10))
   | (have e : c.learn n ep = (⟨ep, c.sh, c.l, n⟩, 0) := by
       unfold Rf.learn; repeat' split
       all_goals first | rfl | (exfalso; simp_all; done) | (exfalso; simp_all; omega)
      rw [e]; exact q3l (qrr (r := (⟨ep, c.sh, c.l, n⟩, 0))))
def Rf.promote (c : Rf) (n ep : Int) : Rf × Int :=
 if c.may n ep = false then (rf0, 1) else
 if ¬ c.ln = n then (rf0, 6) else (⟨ep, c.sh, c.l ++ [(n, false)], -1⟩, 0)
theorem qrt (c : Rf) {T : Tab} {k : Option Nat} : N2 T 2 (.fz c.l.length (mem c.l) k) = some (mem c.l) := by simp [N2, q5g]
theorem Rf.right_len {c : Rf} (h : c.right = true) : 0 < c.l.length /\ c.l.length <= 8 := by
 simp only [Rf.right, Bool.and_eq_true, Bool.not_eq_true', decide_eq_false_iff_not, Bool.not_eq_false', decide_eq_true_eq] at h
 omega
theorem qn0 (c : Rf) (k : Option Nat) (n ep : Int) (hl : c.l.length < 1000000000) : Q4 prog q02 [.agg (c.cells k), .i .i64 n, .i .u64 ep] (Rf.ret (c.promote n ep)) := by
 refine K8 O1 q90 (by simp) fun T => ?_
 unfold q4b
 have hL : Len c.l.length := by unfold Len; omega
 simp -implicitDefEqProofs -dsimp only [go_sem, seval, Rf.cells, ↓J0 _ _ K2]
 refine cpn (qff c k n ep hL) ?_
 cases hm : c.may n ep with
 | false =>
  simp -implicitDefEqProofs -dsimp only [go_sem, seval, Rf.cells]
  rw [Rf.promote, if_pos hm]
  exact q3l (q5e 1)
 | true =>
  have hr : c.right = true := by simp only [Rf.may, Bool.and_eq_true] at hm; exact hm.1.1.1
  have hlen := Rf.right_len hr
  simp -implicitDefEqProofs -dsimp only [go_sem, seval, Rf.cells]
  refine J4 (fun h1 => ?_) (fun h1 => ?_)
  ·have d1 : ¬ c.ln = n := by simpa using h1
   simp -implicitDefEqProofs -dsimp only [go_sem, seval, Rf.cells, h1]
   rw [Rf.promote, if_neg (by simp [hm]), if_pos d1]
   exact q3l (q5e 6)
  ·have d1 : c.ln = n := by simpa using h1
   simp -implicitDefEqProofs -dsimp only [go_sem, seval, Rf.cells, h1]
   refine (Owns.one (Own.nil T 2)).app (m := c.l.length) (news := mem c.l) (qrt c) rfl (by simp only; omega) (by simp only; omega) fun v T1 how => ?_
   refine J3 ?_
   obtain ⟨p1, p2, p3, p4, p5, p6⟩ := how.form (List.mem_cons_self ..)
   simp only at p1 p2 p3 p4 p5 p6
   simp -implicitDefEqProofs -dsimp only [go_sem, seval, Rf.cells, p1, p2, p3, p4, p5, p6]
   refine how.app (m := 1) (news := mem [(n, false)]) (by simp [N2, mem]) rfl (by simp only; omega) (by simp only; omega) fun v' T2 how' => ?_
   refine J3 ?_
   obtain ⟨q1, q2, q3, q4, q5, q6⟩ := how'.form (List.mem_cons_self ..)
   simp only at q1 q2 q3 q4 q5 q6
   simp -implicitDefEqProofs -dsimp only [go_sem, seval, Rf.cells, q1, q2, q3, q4, q5, q6]
   simp only [List.nil_append, <- Y7] at how'
   refine qg1 how' ?_ (List.mem_cons_self ..) (by simp)
   rw [Rf.promote, if_neg (by simp [hm]), if_neg (by simp [d1])]
def Rf.mark (c : Rf) (n : Int) : Rf × Int :=
 if (c.right && decide (0 <= n) && decide (n <= 7)) = false then (rf0, 1) else
 if ixI n (c.l.map (·.1)) < 0 then (rf0, 6) else
 if ((c.l[(ixI n (c.l.map (·.1))).toNat]?).getD (0, false)).2 = true then (rf0, 7) else
 (⟨c.ep, c.sh, c.l.set (ixI n (c.l.map (·.1))).toNat (((c.l[(ixI n (c.l.map (·.1))).toNat]?).getD (0, false)).1, true), c.ln⟩, 0)
theorem qru : ∀ (l : List (Int × Bool)) (k : Nat) (m : Int × Bool), l[k]? = some m -> N4 (mem l) (k * 2 + 1) [.b true] = mem (l.set k (m.1, true))
 | [], k, m, h => by simp at h
 | a :: l, 0, m, h => by
  simp at h; subst h
  simp [N4, Q5]
 | a :: l, k + 1, m, h => by
  have := qru l k m (by simpa using h)
  unfold N4 at this ⊢
  rw [Q5, List.set_cons_succ, Q5, <- this, show (k + 1) * 2 + 1 = (k * 2 + 1) + 2 by omega]
  simp [List.take_succ_cons]
theorem qu2 (c : Rf) (k0 : Option Nat) (n : Int) (hl : c.l.length < 1000000000) : Q4 prog q0z [.agg (c.cells k0), .i .i64 n] (Rf.ret (c.mark n)) := by
 refine K8 O1 qc1 (by simp) fun T => ?_
 unfold q5p
 have hL : Len c.l.length := by unfold Len; omega
 have hix := qnl n (c.l.map (·.1))
 rw [List.length_map] at hix
 simp -implicitDefEqProofs -dsimp only [go_sem, seval, Rf.cells, ↓J0 _ _ J6]
 refine cpn (q3k c k0 n hL) ?_
 simp -implicitDefEqProofs -dsimp only [go_sem, seval, Rf.cells, ↓J0 _ _ K9]
 refine cpn (q63 c k0 hL) ?_
 have fail : (c.right && decide (0 <= n) && decide (n <= 7)) = false -> qel (.tup [.agg (rf0.cells (some 0)), .i .i64 1]) (fun v T' => v = Rf.ret (c.mark n) /\ T' = T) T := fun h => by
  rw [Rf.mark, if_pos h]; exact q3l (q5e 1)
 cases hr : c.right with
 | false =>
  simp -implicitDefEqProofs -dsimp only [go_sem, seval, Rf.cells]
  exact fail (by simp [hr])
 | true =>
  simp -implicitDefEqProofs -dsimp only [go_sem, seval, Rf.cells]
  refine J4 (fun h1 => ?_) (fun h1 => ?_)
  ·simp -implicitDefEqProofs -dsimp only [go_sem, seval, Rf.cells, h1]
   exact fail (by have := of_decide_eq_true h1; simp; omega)
  ·simp -implicitDefEqProofs -dsimp only [go_sem, seval, Rf.cells, h1]
   refine J4 (fun h2 => ?_) (fun h2 => ?_)
   ·simp -implicitDefEqProofs -dsimp only [go_sem, seval, Rf.cells, h2]
    exact fail (by have := of_decide_eq_true h2; simp; omega)
   ·have hrs : (c.right && decide (0 <= n) && decide (n <= 7)) = true := by
     have := of_decide_eq_false h1
     have := of_decide_eq_false h2
     simp [hr]; omega
    simp -implicitDefEqProofs -dsimp only [go_sem, seval, Rf.cells, h2]
    refine J4 (fun h3 => ?_) (fun h3 => ?_)
    ·simp -implicitDefEqProofs -dsimp only [go_sem, seval, Rf.cells, h3]
     rw [Rf.mark, if_neg (by simp [hrs]), if_pos (of_decide_eq_true h3)]
     exact q3l (q5e 6)
    ·have d3 := of_decide_eq_false h3
     obtain ⟨k, hk⟩ : ∃ k : Nat, ixI n (c.l.map (·.1)) = k := ⟨(ixI n (c.l.map (·.1))).toNat, by omega⟩
     rw [hk] at h3 d3 hix
     rw [hk]
     have hlt : k < c.l.length := by omega
     have hg : c.l[k]? = some c.l[k] := List.getElem?_eq_getElem hlt
     have e1 : (k : Int) < (c.l.length : Int) := by omega
     have hm : c.mark n = if c.l[k].2 = true then (rf0, 7) else (⟨c.ep, c.sh, c.l.set k (c.l[k].1, true), c.ln⟩, 0) := by
      rw [Rf.mark, if_neg (by simp [hrs]), hk, if_neg d3, Int.toNat_natCast, hg]; rfl
     simp -implicitDefEqProofs -dsimp only [go_sem, seval, Rf.cells, h3, e1, qfd hg, Int.natCast_nonneg, Int.toNat_natCast]
     refine J4 (fun h4 => ?_) (fun h4 => ?_)
     ·simp -implicitDefEqProofs -dsimp only [go_sem, seval, Rf.cells, h4]
      rw [hm, if_pos h4]
      exact q3l (q5e 7)
     ·simp -implicitDefEqProofs -dsimp only [go_sem, seval, Rf.cells, h4]
      rw [hm, if_neg (by simp [h4])]
      refine (Owns.one (Own.nil T 2)).app (m := c.l.length) (news := mem c.l) (qrt c) rfl (by simp only; omega) (by simp only; omega) fun v T1 how => ?_
      refine J3 ?_
      simp only [Nat.zero_add, List.nil_append] at how
      obtain ⟨id, rfl, i1, i2, i3⟩ := how.upd (by omega)
      simp -implicitDefEqProofs -dsimp only [go_sem, seval, Rf.cells, e1, Int.natCast_nonneg, Int.toNat_natCast]
      refine V6 i1 rfl rfl (by rw [q5g]; omega) ?_
      rw [show (AV.b true).cells = [AV.b true] from rfl, qru _ _ _ hg]
      refine J3 ?_
      have how2 := i3 c.l.length (mem (c.l.set k (c.l[k].1, true))) (by simp [q5g])
      simp -implicitDefEqProofs -dsimp only [go_sem, seval]
      exact qg1 how2 rfl (List.mem_cons_self ..) (by simp)
end Go.Aw
