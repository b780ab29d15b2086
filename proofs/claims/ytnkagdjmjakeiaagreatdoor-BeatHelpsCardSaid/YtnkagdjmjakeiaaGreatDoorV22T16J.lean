import Derived.Test.YtnkagdjmjakeiaaGreatDoorV22B22N
import Derived.Test.YtnkagdjmjakeiaaGreatDoorV22T16I
namespace Go.Aw
open Go
open Go.Proofs.Tryz (prog)
set_option linter.all false
set_option maxHeartbeats 4000000
theorem qam {lim : Int} {n : Nat} (hn : n < 8) (h1 : 1 <= lim) : ∀ (es : List Ev) (l : List Wr) (w : Wr) (c : Int), l.length = 8 -> l[n]? = some w -> 0 <= c -> w.g = min c (lim + 1) ->
  ∃ w', (es.foldl (q6p lim) l)[n]? = some w' /\ (w'.x, w'.h) = es.foldl (qg4 n) (w.x, w.h) /\ w'.g = min (es.foldl (qho n) c) (lim + 1)
 | [], l, w, c, hl, hw, hc, hg => ⟨w, hw, rfl, hg⟩
 | e :: es, l, w, c, hl, hw, hc, hg => by
  have hs : qe7 (n : Int) = true := by simp [qe7]; omega
  simp only [List.foldl_cons]
  by_cases k0 : e.k = 0
  ·have e1 : q6p lim l e = l.map (q2f lim) := by unfold q6p; rw [if_pos k0]
   have e2 : qg4 n (w.x, w.h) e = (w.x, w.h) := by unfold qg4; rw [if_neg (fun h => by omega)]
   have e3 : qho n c e = c + 1 := by unfold qho; rw [if_neg (fun h => by omega), if_pos k0]
   rw [e1, e2, e3]
   have e4 : ((q2f lim w).x, (q2f lim w).h) = (w.x, w.h) := by unfold q2f; split <;> rfl
   rw [<- e4]
   refine qam hn h1 es _ (q2f lim w) (c + 1) (by rw [List.length_map]; exact hl) (by rw [List.getElem?_map, hw]; rfl) (by omega) ?_
   unfold q2f; split
   ·simp only; omega
   ·omega
  by_cases k1 : e.k = 1
  ·have e1 : q6p lim l e = q4s l e.n e.x := by unfold q6p; rw [if_neg k0, if_pos k1]
   by_cases kn : e.n = n
   ·have e2 : qg4 n (w.x, w.h) e = (e.x, true) := by unfold qg4; rw [if_pos ⟨k1, kn, by omega, by omega⟩]
    have e3 : qho n c e = 0 := by unfold qho; rw [if_pos ⟨k1, kn⟩]
    rw [e1, e2, e3, q4s, kn, hs, if_pos rfl, Int.toNat_natCast]
    exact qam hn h1 es _ ⟨e.x, true, 0⟩ 0 (by rw [List.length_set]; exact hl) (by rw [List.getElem?_set_self (by omega)]) (by omega) (by simp only; omega)
   ·have e2 : qg4 n (w.x, w.h) e = (w.x, w.h) := by unfold qg4; rw [if_neg (fun h => kn h.2.1)]
    have e3 : qho n c e = c := by unfold qho; rw [if_neg (fun h => kn h.2), if_neg k0]
    rw [e1, e2, e3]
    refine qam hn h1 es _ w c ?_ ?_ hc hg
    ·unfold q4s; split
     ·rw [List.length_set]; exact hl
     ·exact hl
    ·unfold q4s; split
     ·rename_i hse
      have := qdh hse
      rw [List.getElem?_set_ne (by omega)]; exact hw
     ·exact hw
  ·have e1 : q6p lim l e = l := by unfold q6p; rw [if_neg k0, if_neg k1]
   have e2 : qg4 n (w.x, w.h) e = (w.x, w.h) := by unfold qg4; rw [if_neg (fun h => k1 h.1)]
   have e3 : qho n c e = c := by unfold qho; rw [if_neg (fun h => k1 h.1), if_neg k0]
   rw [e1, e2, e3]
   exact qam hn h1 es l w c hl hw hc hg
theorem qvi (m n : Int) (es : List Ev) : qg3 (G2 m) (qbv (G2 m) es) n = qra n m es := by
 rcases hs : qe7 n with _ | _
 ·simp [qg3, qra, hs]
 have hn := qdh hs
 obtain ⟨k, rfl⟩ : ∃ k : Nat, n = k := ⟨n.toNat, by omega⟩
 obtain ⟨w', h1, _, h3⟩ := qam (lim := G2 m) (n := k) (by omega) (q7h m).1 es qhn wr0 0 rfl (by rw [qhn, List.getElem?_replicate, if_pos (by omega)]) (by omega) (by have := q7h m; simp only [wr0]; omega)
 simp only [qg3, qra, hs, if_true, Int.toNat_natCast, qbv, h1, Bool.true_and]
 rw [decide_eq_decide, h3]; omega
end Go.Aw
namespace Go.Aw
open Go
open Go.Proofs.Tryz (prog)
set_option linter.all false
set_option maxHeartbeats 4000000
theorem qhc {α : Type} {f : α -> List AV} {z : Nat} (hf : ∀ x, (f x).length = z) : ∀ (l : List α) (k : Nat), (l.flatMap f).take (k * z) = (l.take k).flatMap f
 | l, 0 => by simp
 | [], k + 1 => by simp
 | a :: l, k + 1 => by
  rw [List.flatMap_cons, List.take_succ_cons, List.flatMap_cons, <- qhc hf l k, show (k + 1) * z = (f a).length + k * z by rw [hf, Nat.add_mul]; omega, List.take_length_add_append]
def q4t (es : List Ev) : List Ev := es.take 60
theorem qp3 (es : List Ev) (cap : Option Nat) (hl : Len es.length) : U4 prog I4 [.fz es.length (es.flatMap evC) cap] (.fz (q4t es).length ((q4t es).flatMap evC) none) := by
 refine K9 O2 q7x (by simp) fun T => ?_
 unfold q3m
 simp -implicitDefEqProofs -dsimp only [go_sem, seval]
 refine J8 (fun h => ?_) (fun h => ?_)
 ·have h' := of_decide_eq_true h
  have h60 : 60 <= es.length := by omega
  simp -implicitDefEqProofs -dsimp only [go_sem, seval, h, h60]
  have e1 : (q4t es).length = 60 := by unfold q4t; rw [List.length_take]; omega
  have e2 : (es.flatMap evC).take 360 = (q4t es).flatMap evC := qhc qdj es 60
  rw [e1, e2]
  refine Q3 ?_ rfl
  exact Wk.fz
 ·have h' := of_decide_eq_false h
  have e : q4t es = es := List.take_of_length_le (by omega)
  simp -implicitDefEqProofs -dsimp only [go_sem, seval, h]
  rw [e]
  refine Q3 ?_ rfl
  exact Wk.fz
def b7 : Be := ⟨0, 7, false, 0⟩
end Go.Aw
namespace Go.Aw
open Go
open Go.Proofs.Tryz (prog)
set_option linter.all false
set_option maxHeartbeats 4000000
theorem qew (fu : List Bool) : ∀ (l : List Int) (k : Nat), (qeu fu l k).map (·.1) = l
 | [], _ => rfl
 | _ :: l, k => by simp [qeu, qew fu l (k + 1)]
theorem Cf.plain_fst (c : Cf) : c.plain.l.map (·.1) = c.ch := qew _ _ _
theorem Cf.plain_len (c : Cf) : c.plain.l.length = c.ch.length := qaj _ _ _
theorem qn5 (v : Int) : ∀ (a b : List Int) (k : Nat), ixF v (a ++ b) k = match ixF v a k with | some j => some j | none => ixF v b (k + a.length)
 | [], b, k => by simp [ixF]
 | x :: a, b, k => by
  simp only [List.cons_append, ixF]
  by_cases h : v = x
  ·simp [h]
  ·simp only [h, if_false, qn5 v a b (k + 1), List.length_cons]
   rw [show k + 1 + a.length = k + (a.length + 1) by omega]
theorem qbe (xs : List Int) (v : Int) : ctn xs v = decide (v ∈ xs) := by
 have : ∀ (l : List Int) (k : Nat), (ixF v l k = none) ↔ v ∉ l := by
  intro l
  induction l with
  | nil => intro k; simp [ixF]
  | cons x l ih =>
   intro k
   simp only [ixF, List.mem_cons, not_or]
   by_cases h : v = x
   ·simp [h]
   ·simp [h, ih (k + 1)]
 have h := this xs 0
 unfold ctn ixI
 cases e : ixF v xs 0 with
 | none => simp only [e, true_iff] at h; simp [h]
 | some j => simp only [e] at h; simp at h; simp [h]
theorem qvj {xs ys : List Int} {y : Int} {k : Nat} (h : xs.drop k = y :: ys) : (ixI y xs = (k : Int)) ↔ ctn (xs.take k) y = false := by
 have hk : k < xs.length := (q1e h).1
 have e : xs = xs.take k ++ y :: ys := by rw [<- h]; exact (List.take_append_drop k xs).symm
 have hl : (xs.take k).length = k := by rw [List.length_take]; omega
 have h1 : ixF y xs 0 = match ixF y (xs.take k) 0 with | some j => some j | none => some k := by
  conv => lhs; rw [e]
  rw [qn5]
  cases ixF y (xs.take k) 0 with
  | none => simp [ixF, hl]
  | some j => rfl
 unfold ctn ixI
 rw [h1]
 cases h2 : ixF y (xs.take k) 0 with
 | none => simp
 | some j =>
  have := qn0 h2
  simp only [hl] at this
  simp
  omega
theorem qn6 {xs : List Int} : ∀ (ys : List Int) (k : Nat), qla xs ys k = true -> ∀ y ∈ ys, 0 <= y /\ y < 8
 | [], _, _, y, hy => by cases hy
 | x :: ys, k, h, y, hy => by
  simp only [qla, Bool.and_eq_true, srv, decide_eq_true_eq] at h
  rcases List.mem_cons.1 hy with rfl | hy
  ·exact h.1.1
  ·exact qn6 ys (k + 1) h.2 y hy
end Go.Aw
