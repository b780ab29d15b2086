import Derived.Test.YtmicojcojlgefaaGreatAwMore5
import Derived.Test.YtmicojcojlgefaaGreatZ29R28Z
import Derived.Test.YtmicojcojlgefaaGreatZ29M17O
import Derived.Test.YtmicojcojlgefaaGreatZ29M17M
import Derived.Test.YtmicojcojlgefaaGreatZ29RK
import Derived.Test.YtmicojcojlgefaaGreatZ29V28X
namespace Go.Aw
open Go
open Go.Proofs.Tryz (prog)
set_option linter.all false
set_option maxHeartbeats 8000000
set_option maxRecDepth 8000
theorem qoh {n : Nat} {xs : List AV} {cap : Option Nat} (hx : xs.length = n * 2) (hn : n <= 1000000000) : PCalls prog Y1 [.fz n xs cap] (.fz n xs none) := by
 refine K5 Q7 q8x (by simp) fun T => ?_
 unfold q31
 have fin : ∀ v T', Own T 2 v n xs T' -> qnz v (fun r T'' => r = .fz n xs none /\ T'' = T) T' := fun v T' h => by
  refine q4i (l := [⟨2, v, n, xs⟩]) ⟨T, rfl, h⟩ fun S hS => ?_
  obtain ⟨c1, e2⟩ := hS _ (List.mem_cons_self ..)
  have : qrh T' S v = qn7 T' S v := by rcases h.2 with ⟨h, _⟩ | ⟨j, h, _⟩ <;> (rw [h]; rfl)
  rw [this, e2]
  exact .fz
 have main : ∀ K : AV -> Tab -> Prop, (∀ v T', Own T 2 v n xs T' -> K v T') -> q4z 2 24 T (.fz 0 [] (some 0)) (.fz n xs cap) K := fun K hK =>
  (Own.nil T 2).app (m := n) (news := xs) (by simp [Z0, hx]) rfl (by omega) (by omega) (by simpa using hK)
 simp -implicitDefEqProofs -dsimp only [go_sem, seval, qwt]
 split
 ·refine main _ fun v T' h => ?_
  refine J1 ?_
  obtain ⟨q1, q2, q3, q4, q5, q6⟩ := h.form
  simp -implicitDefEqProofs -dsimp only [go_sem, seval, q1]
  exact fin v T' h
 ·rename_i h0
  have e : n = 0 := by omega
  subst e
  have e : xs = [] := by simpa using hx
  subst e
  intro b
  refine J2 (fun h => ?_) (fun h => ?_) <;> simp -implicitDefEqProofs -dsimp only [go_sem, seval]
  ·exact fin _ _ (Own.nil T 2)
  ·refine main _ fun v T' h => ?_
   refine J1 ?_
   obtain ⟨q1, q2, q3, q4, q5, q6⟩ := h.form
   simp -implicitDefEqProofs -dsimp only [go_sem, seval, q1]
   exact fin v T' h
theorem qn4 {n : Nat} {xs : List AV} {cap : Option Nat} (hx : xs.length = n * 3) (hn : n <= 1000000000) : PCalls prog V2 [.fz n xs cap] (.fz n xs none) := by
 refine K5 Q7 q7r (by simp) fun T => ?_
 unfold q27
 have fin : ∀ v T', Own T 3 v n xs T' -> qnz v (fun r T'' => r = .fz n xs none /\ T'' = T) T' := fun v T' h => by
  refine q4i (l := [⟨3, v, n, xs⟩]) ⟨T, rfl, h⟩ fun S hS => ?_
  obtain ⟨c1, e2⟩ := hS _ (List.mem_cons_self ..)
  have : qrh T' S v = qn7 T' S v := by rcases h.2 with ⟨h, _⟩ | ⟨j, h, _⟩ <;> (rw [h]; rfl)
  rw [this, e2]
  exact .fz
 have main : ∀ K : AV -> Tab -> Prop, (∀ v T', Own T 3 v n xs T' -> K v T') -> q4z 3 40 T (.fz 0 [] (some 0)) (.fz n xs cap) K := fun K hK =>
  (Own.nil T 3).app (m := n) (news := xs) (by simp [Z0, hx]) rfl (by omega) (by omega) (by simpa using hK)
 simp -implicitDefEqProofs -dsimp only [go_sem, seval, qwt]
 split
 ·refine main _ fun v T' h => ?_
  refine J1 ?_
  obtain ⟨q1, q2, q3, q4, q5, q6⟩ := h.form
  simp -implicitDefEqProofs -dsimp only [go_sem, seval, q1]
  exact fin v T' h
 ·rename_i h0
  have e : n = 0 := by omega
  subst e
  have e : xs = [] := by simpa using hx
  subst e
  intro b
  refine J2 (fun h => ?_) (fun h => ?_) <;> simp -implicitDefEqProofs -dsimp only [go_sem, seval]
  ·exact fin _ _ (Own.nil T 3)
  ·refine main _ fun v T' h => ?_
   refine J1 ?_
   obtain ⟨q1, q2, q3, q4, q5, q6⟩ := h.form
   simp -implicitDefEqProofs -dsimp only [go_sem, seval, q1]
   exact fin v T' h
structure Cp where
 k : Int
 key : Bs
 v : Bs
 rs : List Rd
 ws : List Wt
def Cp.cells (o : Cp) : List AV := [.i .i64 o.k, .s o.key, .s o.v, .fz o.rs.length (o.rs.flatMap rdC) none, .fz o.ws.length (o.ws.flatMap wtC) none]
def Cp.our (o : Cp) : Cp := { o with rs := o.rs.take 10, ws := o.ws.take 10 }
structure Cp.Wide (o : Cp) : Prop where
 key : Len o.key.length
 v : Len o.v.length
 t : (⟨0, 0, false, o.rs, o.ws⟩ : Tx).Wide
structure Cp.Fine (o : Cp) : Prop where
 key : Len o.key.length
 v : Len o.v.length
 t : (⟨0, 0, false, o.rs, o.ws⟩ : Tx).Fine
def txn (o : Cp) (cl sq : Int) : Tx :=
 if o.k = 2 then ⟨cl, sq, true, [], [⟨o.key, o.v, false⟩]⟩ else if o.k = 3 then ⟨cl, sq, true, [], [⟨o.key, [], true⟩]⟩ else if o.k = 4 then ⟨cl, sq, false, o.rs, o.ws⟩ else ⟨0, 0, false, [], []⟩
theorem qie {o : Cp} (h : o.Fine) (cl sq : Int) : (txn o cl sq).Fine := by
 obtain ⟨h1, h2, h3, h4, h5, h6, h7⟩ := h
 unfold txn
 split
 ·exact ⟨(show (0 : Nat) < 1000000000 by decide), (show (1 : Nat) < 1000000000 by decide), fun _ h => (by cases h), fun r h => by simp only [List.mem_singleton] at h; subst h; exact h1, fun r h => by simp only [List.mem_singleton] at h; subst h; exact h2⟩
 split
 ·exact ⟨(show (0 : Nat) < 1000000000 by decide), (show (1 : Nat) < 1000000000 by decide), fun _ h => (by cases h), fun r h => by simp only [List.mem_singleton] at h; subst h; exact h1, fun r h => by simp only [List.mem_singleton] at h; subst h; exact (show (0 : Nat) < 9223372036854775808 by decide)⟩
 split
 ·exact ⟨h3, h4, h5, h6, h7⟩
 ·exact ⟨by decide, by decide, fun _ h => (by cases h), fun _ h => (by cases h), fun _ h => (by cases h)⟩
theorem opk (k : Int) : k = 2 \/ k = 3 \/ k = 4 \/ (decide (k = 2) = false /\ decide (k = 3) = false /\ decide (k = 4) = false) := by
 simp only [decide_eq_false_iff_not]; omega
theorem Wks.tx0 {a b c : AV} {n m : Nat} {xs ys : List AV} {p q : Option Nat} : Wks [a, b, c, .fz n xs p, .fz m ys q] [a, b, c, .fz n xs none, .fz m ys none] := ⟨.refl _, .refl _, .refl _, .fz, .fz, trivial⟩
theorem z1i (o : Cp) (cl sq : Int) (h : o.Fine) : PCalls prog q4j [.agg o.cells, .agg [.i .i64 cl, .i .u64 sq]] (.agg ((txn o cl sq).cells none none)) := by
 refine K5 Q7 qq1 (by simp) fun T => ?_
 have c1 := qoh (n := o.rs.length) (xs := o.rs.flatMap rdC) (cap := none) (K8 q7n o.rs) (by have := h.t.r; simp only at this; omega)
 have c2 := qn4 (n := o.ws.length) (xs := o.ws.flatMap wtC) (cap := none) (K8 q5n o.ws) (by have := h.t.w; simp only at this; omega)
 obtain ⟨k, key, v, rs, ws⟩ := o
 simp only at c1 c2
 unfold qhn
 rcases opk k with rfl | rfl | rfl | ⟨h2, h3, h4⟩
 ·simp -implicitDefEqProofs -dsimp only [go_sem, seval, Cp.cells, decide_true]
  refine q80 ?_ rfl
  exact Wk.agg Wks.tx0
 ·simp -implicitDefEqProofs -dsimp only [go_sem, seval, Cp.cells, decide_true, decide_false]
  refine q80 ?_ rfl
  exact Wk.agg Wks.tx0
 ·simp -implicitDefEqProofs -dsimp only [go_sem, seval, Cp.cells, decide_true, decide_false, ↓J0 _ _ q32]
  refine cpn c1 ?_
  simp -implicitDefEqProofs -dsimp only [go_sem, seval, ↓J0 _ _ q28]
  refine cpn c2 ?_
  simp -implicitDefEqProofs -dsimp only [go_sem, seval]
  refine q80 ?_ rfl
  exact Wk.agg Wks.tx0
 ·simp -implicitDefEqProofs -dsimp only [go_sem, seval, Cp.cells, h2, h3, h4]
  refine q80 ?_ rfl
  have e : txn ⟨k, key, v, rs, ws⟩ cl sq = ⟨0, 0, false, [], []⟩ := by
   unfold txn
   rw [if_neg (of_decide_eq_false h2), if_neg (of_decide_eq_false h3), if_neg (of_decide_eq_false h4)]
  rw [e]
  exact Wk.agg Wks.tx0
theorem z1j (o : Cp) (cl sq : Int) : PCalls prog q3j [.agg o.cells, .agg [.i .i64 cl, .i .u64 sq]] (.agg ((txn o cl sq).cells none none)) := by
 refine K5 Q7 qml (by simp) fun T => ?_
 obtain ⟨k, key, v, rs, ws⟩ := o
 unfold qec
 rcases opk k with rfl | rfl | rfl | ⟨h2, h3, h4⟩
 ·simp -implicitDefEqProofs -dsimp only [go_sem, seval, Cp.cells, decide_true]
  refine q80 ?_ rfl
  exact Wk.agg Wks.tx0
 ·simp -implicitDefEqProofs -dsimp only [go_sem, seval, Cp.cells, decide_true, decide_false]
  refine q80 ?_ rfl
  exact Wk.agg Wks.tx0
 ·simp -implicitDefEqProofs -dsimp only [go_sem, seval, Cp.cells, decide_true, decide_false]
  refine q80 ?_ rfl
  exact Wk.agg Wks.tx0
 ·simp -implicitDefEqProofs -dsimp only [go_sem, seval, Cp.cells, h2, h3, h4]
  refine q80 ?_ rfl
  have e : txn ⟨k, key, v, rs, ws⟩ cl sq = ⟨0, 0, false, [], []⟩ := by
   unfold txn
   rw [if_neg (of_decide_eq_false h2), if_neg (of_decide_eq_false h3), if_neg (of_decide_eq_false h4)]
  rw [e]
  exact Wk.agg Wks.tx0
def qut (o : Cp) : Bool := if o.k = 1 then qdh o.key else qgd (txn o 0 1)
theorem z6q (o : Cp) (h : o.Fine) : PCalls prog qe2 [.agg o.cells] (.b (qut o)) := by
 refine K5 Q7 qtt (by simp) fun T => ?_
 have c1 := qn1 o.key h.key
 have c2 := z1i o 0 1 h
 have c3 := qge (txn o 0 1) none none (qie h 0 1)
 unfold qut
 simp only [Cp.cells] at c2
 unfold qo3
 by_cases h1 : o.k = 1
 ·rw [if_pos h1]
  have d : decide (o.k = 1) = true := decide_eq_true h1
  simp -implicitDefEqProofs -dsimp only [go_sem, seval, Cp.cells, d, ↓J0 _ _ qea]
  refine cpn c1 ?_
  simp -implicitDefEqProofs -dsimp only [go_sem, seval]
  exact K1 rfl
 ·rw [if_neg h1]
  have d : decide (o.k = 1) = false := decide_eq_false h1
  generalize txn o 0 1 = t at *
  simp -implicitDefEqProofs -dsimp only [go_sem, seval, Cp.cells, d, ↓J0 _ _ qcw]
  refine cpn c2 ?_
  simp -implicitDefEqProofs -dsimp only [go_sem, seval, ↓J0 _ _ V7]
  refine cpn c3 ?_
  simp -implicitDefEqProofs -dsimp only [go_sem, seval]
  exact K1 rfl
theorem z6r (o : Cp) (h : o.Fine) : PCalls prog q6m [.agg o.cells] (.b (qut o)) := by
 refine K5 Q7 qmf (by simp) fun T => ?_
 have hsq : 0 <= (txn o 0 1).sq := by unfold txn; split <;> (try split) <;> (try split) <;> first | exact (by decide : (0 : Int) <= 1) | exact (by decide : (0 : Int) <= 0)
 have c1 := qic o.key h.key
 have c2 := z1j o 0 1
 have c3 := qei (txn o 0 1) none none (qie h 0 1) hsq
 unfold qut
 simp only [Cp.cells] at c2
 unfold qe8
 by_cases h1 : o.k = 1
 ·rw [if_pos h1]
  have d : decide (o.k = 1) = true := decide_eq_true h1
  simp -implicitDefEqProofs -dsimp only [go_sem, seval, Cp.cells, d, ↓J0 _ _ q4e]
  refine cpn c1 ?_
  simp -implicitDefEqProofs -dsimp only [go_sem, seval]
  exact K1 rfl
 ·rw [if_neg h1]
  have d : decide (o.k = 1) = false := decide_eq_false h1
  generalize txn o 0 1 = t at *
  simp -implicitDefEqProofs -dsimp only [go_sem, seval, Cp.cells, d, ↓J0 _ _ qed]
  refine cpn c2 ?_
  simp -implicitDefEqProofs -dsimp only [go_sem, seval, ↓J0 _ _ q2y]
  refine cpn c3 ?_
  simp -implicitDefEqProofs -dsimp only [go_sem, seval]
  exact K1 rfl
theorem z3w (o : Cp) (h : o.Wide) : PCalls prog q51 [.agg o.cells] (.agg o.our.cells) := by
 refine K5 Q7 qkn (by simp) fun T => ?_
 have c1 := qqg ⟨0, 0, false, o.rs, o.ws⟩ none none h.t
 simp only [Tx.cells, Tx.our] at c1
 unfold qcn
 simp -implicitDefEqProofs -dsimp only [go_sem, seval, Cp.cells, ↓J0 _ _ q74]
 refine cpn c1 ?_
 simp -implicitDefEqProofs -dsimp only [go_sem, seval]
 exact K1 rfl
theorem Cp.Wide.our {o : Cp} (h : o.Wide) : o.our.Fine := ⟨h.key, h.v, h.t.our⟩
theorem z1k (o : Cp) (h : o.Fine) : PCalls prog q41 [.agg o.cells] (.agg o.cells) := by
 refine K5 Q7 qip (by simp) fun T => ?_
 have hf : (⟨4, [], [], o.rs, o.ws⟩ : Cp).Fine := ⟨(show (0 : Nat) < 9223372036854775808 by decide), (show (0 : Nat) < 9223372036854775808 by decide), h.t⟩
 have c1 := z1i ⟨4, [], [], o.rs, o.ws⟩ 0 0 hf
 have e : txn ⟨4, [], [], o.rs, o.ws⟩ 0 0 = ⟨0, 0, false, o.rs, o.ws⟩ := rfl
 rw [e] at c1
 have c2 := qln ⟨0, 0, false, o.rs, o.ws⟩ none none h.t
 simp only [Tx.cells, Cp.cells] at c1 c2
 unfold qbg
 simp -implicitDefEqProofs -dsimp only [go_sem, seval, Cp.cells, ↓J0 _ _ qcw]
 refine cpn c1 ?_
 simp -implicitDefEqProofs -dsimp only [go_sem, seval, ↓J0 _ _ q5e]
 refine cpn c2 ?_
 simp -implicitDefEqProofs -dsimp only [go_sem, seval]
 exact K1 rfl
end Go.Aw
