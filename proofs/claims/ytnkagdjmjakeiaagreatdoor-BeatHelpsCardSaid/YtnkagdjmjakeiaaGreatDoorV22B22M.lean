import Derived.Test.YtnkagdjmjakeiaaGreatDoorV22T16I
import Derived.Test.YtnkagdjmjakeiaaGreatDoorAwD
namespace Go.Aw
open Go
open Go.Proofs.Tryz (prog)
set_option linter.all false
set_option maxHeartbeats 4000000
theorem qoy {α : Type} {f : α -> List AV} {z : Nat} (hf : ∀ x, (f x).length = z) {l : List α} {k : Nat} {x : α} (h : k < l.length) : N6 (l.flatMap f) (k * z) (f x) = (l.set k x).flatMap f := by
 induction l generalizing k with
 | nil => simp at h
 | cons a l ih =>
  cases k with
  | zero =>
   simp only [N6, List.flatMap_cons, Nat.zero_mul, List.take_zero, List.nil_append, List.set_cons_zero, Nat.zero_add, hf]
   rw [List.drop_append_of_le_length (by rw [hf]; omega), List.drop_of_length_le (by rw [hf]; omega), List.nil_append]
  | succ k =>
   have := ih (k := k) (by simpa using h)
   simp only [N6, hf] at this ⊢
   rw [show (k + 1) * z = (f a).length + k * z by rw [hf, Nat.add_mul]; omega, List.flatMap_cons, List.set_cons_succ, List.flatMap_cons, <- this]
   rw [List.take_length_add_append, Nat.add_assoc, List.drop_length_add_append]
   simp only [List.append_assoc]
structure Be where
 a : Int
 b : Int
 c : Bool
 d : Int
deriving DecidableEq
def Be.cells (x : Be) : List AV := [.i .i64 x.a, .i .u64 x.b, .b x.c, .i .i64 x.d]
def Be.nil : Be := ⟨0, 0, false, 0⟩
structure Wr where
 x : Be
 h : Bool
 g : Int
deriving DecidableEq
def wrC (w : Wr) : List AV := [.i .i64 w.x.a, .i .u64 w.x.b, .b w.x.c, .i .i64 w.x.d, .b w.h, .i .i64 w.g]
theorem q9i (w : Wr) : (wrC w).length = 6 := rfl
def waC (lim : Int) (l : List Wr) : List AV := .i .i64 lim :: l.flatMap wrC
theorem qit {lim : Int} {l : List Wr} : (waC lim l).length = l.length * 6 + 1 := by simp only [waC, List.length_cons, q5s q9i]
theorem qg2 {lim : Int} {l : List Wr} {k : Nat} {w : Wr} (h : l[k]? = some w) : (waC lim l).drop (1 + k * 6) = wrC w ++ (l.drop (k + 1)).flatMap wrC := by
 rw [Nat.add_comm, waC, List.drop_succ_cons]; exact qfg q9i h
theorem qiu {lim : Int} {l : List Wr} {k : Nat} {w : Wr} (h : l[k]? = some w) (j : Nat) (hj : j < 6) : (waC lim l)[1 + k * 6 + j]? = (wrC w)[j]? := by
 have := congrArg (fun l : List AV => l[j]?) (qg2 (lim := lim) h)
 simp only [List.getElem?_drop] at this
 rw [this, List.getElem?_append_left (by rw [q9i]; exact hj)]
theorem qn3 {lim : Int} {l : List Wr} {k : Nat} {w : Wr} (h : k < l.length) : N6 (waC lim l) (1 + k * 6) (wrC w) = waC lim (l.set k w) := by
 have := qoy q9i (x := w) h
 simp only [waC, N6, q9i] at this ⊢
 rw [<- this, show 1 + k * 6 = k * 6 + 1 by omega, List.take_succ_cons, show k * 6 + 1 + 6 = k * 6 + 6 + 1 by omega, List.drop_succ_cons]
 rfl
theorem qr8 {lim : Int} {l : List Wr} {k : Nat} {w : Wr} (h : l[k]? = some w) (g : Int) : N6 (waC lim l) (1 + k * 6 + 5) [.i .i64 g] = waC lim (l.set k { w with g := g }) := by
 have hk : k < l.length := (List.getElem?_eq_some_iff.1 h).1
 rw [<- qn3 hk]
 have hd := qg2 (lim := lim) h
 simp only [N6, List.length_cons, List.length_nil, Nat.zero_add, q9i]
 have e1 : (waC lim l).take (1 + k * 6 + 5) = (waC lim l).take (1 + k * 6) ++ (wrC w).take 5 := by
  rw [List.take_add, hd, List.take_append_of_le_length (by rw [q9i]; omega)]
 rw [e1, show 1 + k * 6 + 5 + 1 = 1 + k * 6 + 6 by omega]
 simp [wrC]
def qe7 (n : Int) : Bool := decide (0 <= n) && decide (n < 8)
theorem qbd (n : Int) : U4 prog q19 [.i .i64 n] (.b (qe7 n)) := by
 refine K9 O2 qfr (by simp) fun T => ?_
 unfold qaa
 simp -implicitDefEqProofs -dsimp only [go_sem, seval, decide_true, decide_false]
 (first | (apply J8 <;> intro h_1 <;> simp -implicitDefEqProofs -dsimp only [go_sem, seval, decide_true, decide_false, h_1]) | (have h_1 := trivial)) <;>
  (first | (apply J8 <;> intro h_2 <;> simp -implicitDefEqProofs -dsimp only [go_sem, seval, decide_true, decide_false, h_1, h_2]) | (have h_2 := trivial)) <;>
  (first | (apply J8 <;> intro h_3 <;> simp -implicitDefEqProofs -dsimp only [go_sem, seval, decide_true, decide_false, h_1, h_2, h_3]) | (have h_3 := trivial))
 all_goals
  refine K0 ?_
  first | (simp_all [qe7]; done) | (simp_all [qe7]; omega)
def G2 (n : Int) : Int := if 1000 < (if 1 > n then 1 else n) then 1000 else if 1 > n then 1 else n
theorem q7h (n : Int) : 1 <= G2 n /\ G2 n <= 1000 := by
 unfold G2; split <;> split <;> omega
structure WOk (lim : Int) (l : List Wr) : Prop where
 n : l.length = 8
 l1 : 1 <= lim
 l2 : lim <= 1000
 g : ∀ w ∈ l, 0 <= w.g /\ w.g <= lim + 1
def Wt (T : Tab) (id : Nat) (lim : Int) (l : List Wr) : Prop := T id = .row 49 (waC lim l)
def wr0 : Wr := ⟨Be.nil, false, 0⟩
def qhn : List Wr := List.replicate 8 wr0
theorem qy5 (n : Int) : WOk (G2 n) qhn := ⟨rfl, (q7h n).1, (q7h n).2, fun w hw => by
 have := List.eq_of_mem_replicate hw; subst this
 have := q7h n
 simp only [wr0]; omega⟩
theorem qn4 {T : Tab} (n : Int) : ACalls prog q59 [.i .i64 n] T (fun r T' => ∃ id, r = .ptr id 0 /\ T id = .unused /\ T' = T.put id (.row 49 (waC (G2 n) qhn))) := by
 refine K6 O2 qkm (by simp) ?_
 unfold qes
 simp -implicitDefEqProofs -dsimp only [go_sem, seval]
 refine fun id hid => J5 ?_
 simp -implicitDefEqProofs -dsimp only [go_sem, seval]
 exact q1z _ (fun _ => .inr (.inl rfl)) ⟨id, rfl, hid, rfl⟩
theorem e8 : ((8 : Nat) : Int) = 8 := rfl
theorem qal {α : Type} {x : α} : ∀ {l : List α} {k : Nat}, l[k]? = some x -> l.set k x = l
 | [], k, h => by simp at h
 | a :: l, 0, h => by simp at h; subst h; rfl
 | a :: l, k + 1, h => by rw [List.set_cons_succ, qal (by simpa using h)]
def q9j (l : List Wr) (n : Int) : Be × Bool := match (if qe7 n then l[n.toNat]? else none) with
 | some w => (w.x, w.h)
 | none => (Be.nil, false)
def beR (r : Be × Bool) : AV := .tup [.agg r.1.cells, .b r.2]
theorem qdh {n : Int} (h : qe7 n = true) : 0 <= n /\ n < 8 := by simpa [qe7] using h
theorem qjn {T : Tab} {id : Nat} {lim : Int} {l : List Wr} (hT : Wt T id lim l) (hl : WOk lim l) (n : Int) : ACalls prog q02 [.ptr id 0, .i .i64 n] T (fun r T' => r = beR (q9j l n) /\ T' = T) := by
 unfold Wt at hT
 refine K6 O2 qb9 (by simp) ?_
 unfold q5f
 simp -implicitDefEqProofs -dsimp only [go_sem, seval, ↓U9, q0w, true_and, ↓J1 _ _ q65]
 refine cpn (qbd n) ?_
 rcases hs : qe7 n with _ | _
 ·simp -implicitDefEqProofs -dsimp only [go_sem, seval, Bool.not_false]
  refine K0 ?_
  simp [q9j, hs, beR, Be.cells, Be.nil]
 have hn := qdh hs
 obtain ⟨k, rfl⟩ : ∃ k : Nat, n = k := ⟨n.toNat, by omega⟩
 obtain ⟨w, hw⟩ : ∃ w, l[k]? = some w := ⟨_, List.getElem?_eq_getElem (by have := hl.n; omega)⟩
 have hlen : 1 + k * 6 + 4 <= (waC lim l).length := by rw [qit, hl.n]; omega
 have hd := qg2 (lim := lim) hw
 have h4 := qiu (lim := lim) hw 4 (by omega)
 have hn8 : (k : Int) < 8 := hn.2
 simp only [wrC] at hd h4
 simp -implicitDefEqProofs -dsimp only [go_sem, seval, Bool.not_true, hT, Int.natCast_nonneg, e8, hn8, Int.toNat_natCast, hlen, hd, h4, List.cons_append, List.nil_append]
 refine K0 ?_
 simp only [q9j, hs, if_true, Int.toNat_natCast, hw, beR, Be.cells]
def q4s (l : List Wr) (n : Int) (b : Be) : List Wr := if qe7 n then l.set n.toNat ⟨b, true, 0⟩ else l
theorem qdi {T : Tab} {id : Nat} {lim : Int} {l : List Wr} (hT : Wt T id lim l) (hl : WOk lim l) (n : Int) (b : Be) : ACalls prog Y7 [.ptr id 0, .i .i64 n, .agg b.cells] T
  (fun r T' => r = .i .i64 (if qe7 n = true then 0 else 1) /\ T' = T.put id (.row 49 (waC lim (q4s l n b)))) := by
 unfold Wt at hT
 refine K6 O2 qa6 (by simp) ?_
 unfold q4o
 simp -implicitDefEqProofs -dsimp only [go_sem, seval, Be.cells, ↓J1 _ _ q65]
 refine cpn (qbd n) ?_
 rcases hs : qe7 n with _ | _
 ·simp -implicitDefEqProofs -dsimp only [go_sem, seval, Bool.not_false]
  refine Q3 (.refl _) ?_
  simp only [q4s, hs, Bool.false_eq_true, if_false]
  exact (Tab.put_self hT).symm
 have hn := qdh hs
 obtain ⟨k, rfl⟩ : ∃ k : Nat, n = k := ⟨n.toNat, by omega⟩
 have hk : k < l.length := by have := hl.n; omega
 have hlen : 1 + k * 6 + 6 <= (waC lim l).length := by rw [qit, hl.n]; omega
 have hn8 : (k : Int) < 8 := hn.2
 simp -implicitDefEqProofs -dsimp only [go_sem, seval, Bool.not_true, hT, Int.natCast_nonneg, e8, hn8, Int.toNat_natCast]
 refine q3i hT rfl rfl (by simpa using hlen) ?_
 refine J5 ?_
 simp -implicitDefEqProofs -dsimp only [go_sem, seval]
 refine Q3 (.refl _) ?_
 simp only [q4s, hs, if_true, Int.toNat_natCast]
 rw [<- qn3 hk]; rfl
def qg3 (lim : Int) (l : List Wr) (n : Int) : Bool := match (if qe7 n then l[n.toNat]? else none) with
 | some w => decide (lim < w.g)
 | none => false
theorem q7i {T : Tab} {id : Nat} {lim : Int} {l : List Wr} (hT : Wt T id lim l) (hl : WOk lim l) (n : Int) : ACalls prog U0 [.ptr id 0, .i .i64 n] T (fun r T' => r = .b (qg3 lim l n) /\ T' = T) := by
 unfold Wt at hT
 refine K6 O2 q7a (by simp) ?_
 unfold q3d
 simp -implicitDefEqProofs -dsimp only [go_sem, seval, ↓U9, q0w, true_and, Bool.not_false, ↓J1 _ _ q65]
 refine cpn (qbd n) ?_
 rcases hs : qe7 n with _ | _
 ·simp -implicitDefEqProofs -dsimp only [go_sem, seval]
  refine K0 ?_
  simp [qg3, hs]
 have hn := qdh hs
 obtain ⟨k, rfl⟩ : ∃ k : Nat, n = k := ⟨n.toNat, by omega⟩
 obtain ⟨w, hw⟩ : ∃ w, l[k]? = some w := ⟨_, List.getElem?_eq_getElem (by have := hl.n; omega)⟩
 have h5 := qiu (lim := lim) hw 5 (by omega)
 have h0 : (waC lim l)[0]? = some (.i .i64 lim) := rfl
 have hn8 : (k : Int) < 8 := hn.2
 simp only [wrC] at h5
 simp -implicitDefEqProofs -dsimp only [go_sem, seval, hT, Int.natCast_nonneg, e8, hn8, Int.toNat_natCast, h5, h0]
 refine K0 ?_
 simp only [qg3, hs, if_true, Int.toNat_natCast, hw]
def q2f (lim : Int) (w : Wr) : Wr := if w.g <= lim then { w with g := w.g + 1 } else w
theorem qoz {R : Y5} (hR : ExtR R) {id : Nat} {lim : Int} {l : List Wr} (hl : WOk lim l) : ∀ (m k : Nat), k + m = 8 -> ∀ (T : Tab), T id = .row 49 (waC lim ((l.take k).map (q2f lim) ++ l.drop k)) ->
  R (.exit 0) [(0, .ptr id 0), (5, .i .i64 8), (6, .b false)] [] (T.put id (.row 49 (waC lim (l.map (q2f lim))))) ->
  AW prog q2p R [(0, .ptr id 0), (5, .i .i64 k)] [] T := by
 intro m
 induction m with
 | zero =>
  intro k hk T hT h2
  have : k = 8 := by omega
  subst this
  rw [List.take_of_length_le (by have := hl.n; omega), List.drop_of_length_le (by have := hl.n; omega), List.append_nil] at hT
  rw [Tab.put_self hT] at h2
  refine G9 hR ?_
  unfold q23
  simp -implicitDefEqProofs -dsimp only [go_sem, seval, e8]
  exact h2
 | succ m ih =>
  intro k hk T hT h2
  obtain ⟨w, hw⟩ : ∃ w, l[k]? = some w := ⟨_, List.getElem?_eq_getElem (by have := hl.n; omega)⟩
  have hlt : (k : Int) < 8 := by omega
  have hw2 : ((l.take k).map (q2f lim) ++ l.drop k)[k]? = some w := by
   rw [List.getElem?_append_right (by simp [Nat.min_le_left])]
   simp only [List.length_map, List.length_take, List.getElem?_drop]
   rw [show k + (k - min k l.length) = k by have := hl.n; omega, hw]
  have h5 := qiu (lim := lim) hw2 5 (by omega)
  have h0 : (waC lim ((l.take k).map (q2f lim) ++ l.drop k))[0]? = some (.i .i64 lim) := rfl
  have hg := hl.g w (List.mem_of_getElem? hw)
  have hl2 := hl.l2
  have hws : IntKind.i64.wrap ((k : Int) + 1) = ((k + 1 : Nat) : Int) := Q0 (by omega)
  have hwg : IntKind.i64.wrap (w.g + 1) = w.g + 1 := q2k (by unfold I64; omega)
  have hnext : ((l.take k).map (q2f lim) ++ l.drop k).set k (q2f lim w) = (l.take (k + 1)).map (q2f lim) ++ l.drop (k + 1) := by
   have hk8 : k < l.length := (List.getElem?_eq_some_iff.1 hw).1
   have e : l.drop k = w :: l.drop (k + 1) := by rw [List.drop_eq_getElem_cons hk8]; congr 1; exact (List.getElem?_eq_some_iff.1 hw).2
   rw [e, List.set_append_right _ _ (by simp [Nat.min_le_left]), q6z hw, List.map_append]
   simp only [List.length_map, List.length_take]
   rw [show k - min k l.length = 0 by omega, List.set_cons_zero]; simp
  simp only [wrC] at h5
  refine Q7 (l := q2p) rfl hR ?_
  unfold q23
  simp -implicitDefEqProofs -dsimp only [go_sem, seval, hlt, hT, Int.natCast_nonneg, e8, Int.toNat_natCast, h5, h0]
  refine J8 (fun h => ?_) (fun h => ?_)
  ·have e : q2f lim w = { w with g := w.g + 1 } := by unfold q2f; rw [if_pos (of_decide_eq_true h)]
   have hlen : 1 + k * 6 + 5 + 1 <= (waC lim ((l.take k).map (q2f lim) ++ l.drop k)).length := by
    rw [qit]; simp only [List.length_append, List.length_map, List.length_take, List.length_drop]; have := hl.n; omega
   simp -implicitDefEqProofs -dsimp only [go_sem, seval, h, hlt, hT, Int.natCast_nonneg, e8, Int.toNat_natCast, h5, h0, hwg]
   refine q3i hT rfl rfl (by simpa using hlen) ?_
   refine J5 ?_
   simp -implicitDefEqProofs -dsimp only [go_sem, seval, hws]
   refine ih (k + 1) (by omega) _ ?_ ?_
   ·rw [Tab.put_same]
    have := qr8 (lim := lim) hw2 (w.g + 1)
    rw [<- hnext, e, <- this]; rfl
   ·rw [Tab.put_put]; exact h2
  ·have e : q2f lim w = w := by unfold q2f; rw [if_neg (of_decide_eq_false h)]
   simp -implicitDefEqProofs -dsimp only [go_sem, seval, h, hws]
   refine ih (k + 1) (by omega) _ ?_ h2
   rw [hT, <- hnext, e]
   congr 2
   exact (qal hw2).symm
theorem qjo {T : Tab} {id : Nat} {lim : Int} {l : List Wr} (hT : Wt T id lim l) (hl : WOk lim l) : ACalls prog q00 [.ptr id 0] T (fun r T' => r = .tup [] /\ T' = T.put id (.row 49 (waC lim (l.map (q2f lim))))) := by
 unfold Wt at hT
 refine K6 O2 qb5 (by simp) ?_
 unfold q5c
 simp -implicitDefEqProofs -dsimp only [go_sem, seval]
 refine qoz (by repeat' (first | exact O6 _ _ | assumption | apply O5 | apply N2 | apply Z8)) hl 8 0 rfl T (by simpa using hT) ?_
 simp -implicitDefEqProofs -dsimp only [go_sem, seval]
 exact Q3 (.refl _) rfl
end Go.Aw
