import Derived.Test.YtnkagdjmjakeiaaGreatDoorV22B22N
namespace Go.Aw
open Go
open Go.Proofs.Tryz (prog)
set_option linter.all false
set_option maxHeartbeats 4000000
theorem qai {lim : Int} {n : Nat} (hn : n < 8) (h1 : 1 <= lim) : ∀ (es : List Ev) (l : List Wr) (w : Wr) (c : Int), l.length = 8 -> l[n]? = some w -> 0 <= c -> w.g = min c (lim + 1) ->
  ∃ w', (es.foldl (q99 lim) l)[n]? = some w' /\ (w'.x, w'.h) = es.foldl (q9a n) (w.x, w.h) /\ w'.g = min (es.foldl (qlk n) c) (lim + 1)
 | [], l, w, c, hl, hw, hc, hg => ⟨w, hw, rfl, hg⟩
 | e :: es, l, w, c, hl, hw, hc, hg => by
  have hs : qhe (n : Int) = true := by simp [qhe]; omega
  simp only [List.foldl_cons]
  by_cases k0 : e.k = 0
  ·have e1 : q99 lim l e = l.map (q3r lim) := by unfold q99; rw [if_pos k0]
   have e2 : q9a n (w.x, w.h) e = (w.x, w.h) := by unfold q9a; rw [if_neg (fun h => by omega)]
   have e3 : qlk n c e = c + 1 := by unfold qlk; rw [if_neg (fun h => by omega), if_pos k0]
   rw [e1, e2, e3]
   have e4 : ((q3r lim w).x, (q3r lim w).h) = (w.x, w.h) := by unfold q3r; split <;> rfl
   rw [<- e4]
   refine qai hn h1 es _ (q3r lim w) (c + 1) (by rw [List.length_map]; exact hl) (by rw [List.getElem?_map, hw]; rfl) (by omega) ?_
   unfold q3r; split
   ·simp only; omega
   ·omega
  by_cases k1 : e.k = 1
  ·have e1 : q99 lim l e = q70 l e.n e.x := by unfold q99; rw [if_neg k0, if_pos k1]
   by_cases kn : e.n = n
   ·have e2 : q9a n (w.x, w.h) e = (e.x, true) := by unfold q9a; rw [if_pos ⟨k1, kn, by omega, by omega⟩]
    have e3 : qlk n c e = 0 := by unfold qlk; rw [if_pos ⟨k1, kn⟩]
    rw [e1, e2, e3, q70, kn, hs, if_pos rfl, Int.toNat_natCast]
    exact qai hn h1 es _ ⟨e.x, true, 0⟩ 0 (by rw [List.length_set]; exact hl) (by rw [List.getElem?_set_self (by omega)]) (by omega) (by simp only; omega)
   ·have e2 : q9a n (w.x, w.h) e = (w.x, w.h) := by unfold q9a; rw [if_neg (fun h => kn h.2.1)]
    have e3 : qlk n c e = c := by unfold qlk; rw [if_neg (fun h => kn h.2), if_neg k0]
    rw [e1, e2, e3]
    refine qai hn h1 es _ w c ?_ ?_ hc hg
    ·unfold q70; split
     ·rw [List.length_set]; exact hl
     ·exact hl
    ·unfold q70; split
     ·rename_i hse
      have := qew hse
      rw [List.getElem?_set_ne (by omega)]; exact hw
     ·exact hw
  ·have e1 : q99 lim l e = l := by unfold q99; rw [if_neg k0, if_neg k1]
   have e2 : q9a n (w.x, w.h) e = (w.x, w.h) := by unfold q9a; rw [if_neg (fun h => k1 h.1)]
   have e3 : qlk n c e = c := by unfold qlk; rw [if_neg (fun h => k1 h.1), if_neg k0]
   rw [e1, e2, e3]
   exact qai hn h1 es l w c hl hw hc hg
theorem qnq {n : Int} (h : qhe n = false) : ∀ (es : List Ev) (r : Be × Bool), es.foldl (q9a n) r = r
 | [], r => rfl
 | e :: es, r => by
  have e2 : q9a n r e = r := by
   unfold q9a; rw [if_neg (fun h2 => ?_)]
   simp [qhe] at h
   have := h h2.2.2.1
   omega
  rw [List.foldl_cons, e2, qnq h es]
theorem qvu (m n : Int) (es : List Ev) : q4v (U2 (K7 m) es) n = es.foldl (q9a n) (Be.nil, false) := by
 rcases hs : qhe n with _ | _
 ·rw [qnq hs]; simp [q4v, hs]
 have hn := qew hs
 obtain ⟨k, rfl⟩ : ∃ k : Nat, n = k := ⟨n.toNat, by omega⟩
 obtain ⟨w', h1, h2, _⟩ := qai (lim := K7 m) (n := k) (by omega) (q64 m).1 es qk5 wr0 0 rfl (by rw [qk5, List.getElem?_replicate, if_pos (by omega)]) (by omega) (by have := q64 m; simp only [wr0]; omega)
 simp only [q4v, hs, if_true, Int.toNat_natCast, U2, h1, h2]; rfl
theorem z0a (m n : Int) (es : List Ev) : qjr (K7 m) (U2 (K7 m) es) n = qvs n m es := by
 rcases hs : qhe n with _ | _
 ·simp [qjr, qvs, hs]
 have hn := qew hs
 obtain ⟨k, rfl⟩ : ∃ k : Nat, n = k := ⟨n.toNat, by omega⟩
 obtain ⟨w', h1, _, h3⟩ := qai (lim := K7 m) (n := k) (by omega) (q64 m).1 es qk5 wr0 0 rfl (by rw [qk5, List.getElem?_replicate, if_pos (by omega)]) (by omega) (by have := q64 m; simp only [wr0]; omega)
 simp only [qjr, qvs, hs, if_true, Int.toNat_natCast, U2, h1, Bool.true_and]
 rw [decide_eq_decide, h3]; omega
end Go.Aw
namespace Go.Aw
open Go
open Go.Proofs.Tryz (prog)
set_option linter.all false
set_option maxHeartbeats 4000000
theorem ql2 {α : Type} {f : α -> List AV} {z : Nat} (hf : ∀ x, (f x).length = z) : ∀ (l : List α) (k : Nat), (l.flatMap f).take (k * z) = (l.take k).flatMap f
 | l, 0 => by simp
 | [], k + 1 => by simp
 | a :: l, k + 1 => by
  rw [List.flatMap_cons, List.take_succ_cons, List.flatMap_cons, <- ql2 hf l k, show (k + 1) * z = (f a).length + k * z by rw [hf, Nat.add_mul]; omega, List.take_length_add_append]
def q8x (es : List Ev) : List Ev := es.take 60
theorem qtf (es : List Ev) (cap : Option Nat) (hl : Len es.length) : Q4 prog q0i [.fz es.length (es.flatMap evC) cap] (.fz (q8x es).length ((q8x es).flatMap evC) none) := by
 refine K8 O1 qap (by simp) fun T => ?_
 unfold q51
 simp -implicitDefEqProofs -dsimp only [go_sem, seval]
 refine J4 (fun h => ?_) (fun h => ?_)
 ·have h' := of_decide_eq_true h
  have h60 : 60 <= es.length := by omega
  simp -implicitDefEqProofs -dsimp only [go_sem, seval, h, h60]
  have e1 : (q8x es).length = 60 := by unfold q8x; rw [List.length_take]; omega
  have e2 : (es.flatMap evC).take 360 = (q8x es).flatMap evC := ql2 qcv es 60
  rw [e1, e2]
  refine O6 ?_ rfl
  exact Wk.fz
 ·have h' := of_decide_eq_false h
  have e : q8x es = es := List.take_of_length_le (by omega)
  simp -implicitDefEqProofs -dsimp only [go_sem, seval, h]
  rw [e]
  refine O6 ?_ rfl
  exact Wk.fz
def b7 : Be := ⟨0, 7, false, 0⟩
end Go.Aw
