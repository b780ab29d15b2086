import Derived.Test.YtchdmofoaokpjaaGreatDoorM30N17E12O
namespace Go.Aw
open Go
open Go.Proofs.Tryz (prog)
set_option linter.all false
set_option maxHeartbeats 4000000
def Tx.our (t : Tx) : Tx := { t with rs := t.rs.take 10, ws := t.ws.take 10 }
def zTx : List AV := [.i .i64 0, .i .u64 0, .b false, .fz 0 [] (some 0), .fz 0 [] (some 0)]
theorem Wks.tx {a b c : AV} {n m : Nat} {x y : List AV} {k1 k2 : Option Nat} : Wks [a, b, c, .fz n x k1, .fz m y k2] [a, b, c, .fz n x none, .fz m y none] :=
 ⟨.refl _, .refl _, .refl _, .fz, .fz, trivial⟩
theorem qvz {R : G9} (hR : ExtR R) {T : Tab} {xs : List Rd} {cap : Option Nat} {a b c v0 : AV} {tc : List AV} (hl : xs.length < 9223372036854775808) (ha : a.plain = true /\ b.plain = true /\ c.plain = true) (hv0 : v0.plain = true /\ v0.isOne = true /\ v0.sto = true /\ v0.cells = [v0] /\ v0.isLp = false /\ ∀ k, v0.offLp k = v0) : ∀ (ys : List Rd) (k : Nat), xs.drop k = ys -> k <= xs.length -> ∀ (v : AV) (T1 : Tab),
  Own T 2 v ((xs.take k).take 10).length (((xs.take k).take 10).flatMap rdC) T1 ->
  (∀ v T1, Own T 2 v (xs.take 10).length ((xs.take 10).flatMap rdC) T1 -> R (.exit 0) [(1, .lp 1 0), (2, .lp 2 0), (3, .lp 3 0), (14, .fz xs.length (xs.flatMap rdC) cap), (15, .i .i64 xs.length), (16, .i .i64 xs.length), (17, .b false)] [(1, tc), (2, zTx), (3, [a, b, c, v, v0])] T1) ->
  AW prog q48 R [(1, .lp 1 0), (2, .lp 2 0), (3, .lp 3 0), (14, .fz xs.length (xs.flatMap rdC) cap), (15, .i .i64 xs.length), (16, .i .i64 k)] [(1, tc), (2, zTx), (3, [a, b, c, v, v0])] T1 := by
 obtain ⟨a1, a2, a3⟩ := ha
 obtain ⟨q1, q2, q3, q4, q5, q6⟩ := hv0
 intro ys
 induction ys with
 | nil =>
  intro k hk hle v T1 ho h2
  have hk' := V6 hk hle
  refine V1 hR ?_
  unfold q3o
  obtain ⟨p1, p2, p3, p4, p5, p6⟩ := ho.form
  simp -implicitDefEqProofs -dsimp only [go_sem, seval, hk', Int.lt_irrefl, p1, p2, p3, p4, p5, p6]
  rw [List.take_of_length_le (by omega : xs.length <= k)] at ho
  have := h2 _ _ ho
  rw [hk'] at this
  exact this
 | cons y ys ih =>
  intro k hk hle v T1 ho h2
  obtain ⟨hlt, hy, hk'⟩ := Y6 hk
  obtain ⟨p1, p2, p3, p4, p5, p6⟩ := ho.form
  have hc := q08 qhh hy
  have hc5 : k * 2 + 2 <= (xs.flatMap rdC).length := by rw [Q5 qhh]; omega
  refine Q1 (l := q48) rfl hR ?_
  unfold q3o
  simp -implicitDefEqProofs -dsimp only [go_sem, seval, Int.ofNat_lt, hlt, Int.natCast_nonneg, Int.toNat_natCast, hc, hc5, rdC, List.cons_append, List.nil_append, a1, a2, a3, q1, q2, q3, q4, q5, q6, p1, p2, p3, p4, p5, p6]
  refine K0 (fun h => ?_) (fun h => ?_)
  ·have hk10 : k < 10 := by have := of_decide_eq_true h; omega
   have hlen : ((xs.take k).take 10).length = k := by simp; omega
   have ht : (xs.take k).take 10 = xs.take k := List.take_of_length_le (by simp; omega)
   have ht' : (xs.take (k + 1)).take 10 = xs.take k ++ [y] := by rw [List.take_of_length_le (by simp; omega)]; exact q1v hy
   simp -implicitDefEqProofs -dsimp only [go_sem, seval, h, a1, a2, a3, q1, q2, q3, q4, q5, q6, p1, p2, p3, p4, p5, p6]
   refine ho.app (m := 1) (news := [.s y.k, .i .u64 y.n]) rfl rfl (by rw [hlen]; omega) (by rw [hlen]; omega) fun v2 T2 ho => J1 ?_
   obtain ⟨p1, p2, p3, p4, p5, p6⟩ := ho.form
   simp -implicitDefEqProofs -dsimp only [go_sem, seval, a1, a2, a3, q1, q2, q3, q4, q5, q6, p1, p2, p3, p4, p5, p6]
   rw [O8 (by omega)]
   refine ih (k + 1) hk' hlt _ _ ?_ h2
   rw [ht', List.flatMap_append, List.length_append]
   rw [ht] at ho
   exact ho
  ·have hk10 : 10 <= k := by have := of_decide_eq_false h; omega
   have e : ∀ j, 10 <= j -> (xs.take j).take 10 = xs.take 10 := fun j hj => by rw [List.take_take, Nat.min_eq_left hj]
   simp -implicitDefEqProofs -dsimp only [go_sem, seval, h, a1, a2, a3, q1, q2, q3, q4, q5, q6, p1, p2, p3, p4, p5, p6]
   rw [O8 (by omega)]
   refine ih (k + 1) hk' hlt _ _ ?_ h2
   rw [e k hk10] at ho
   rw [e (k + 1) (by omega)]
   exact ho
theorem qw0 {R : G9} (hR : ExtR R) {T : Tab} {xs : List Wt} {cap : Option Nat} {a b c v0 : AV} {tc : List AV} (hl : xs.length < 9223372036854775808) (ha : a.plain = true /\ b.plain = true /\ c.plain = true) (hv0 : v0.plain = true /\ v0.isOne = true /\ v0.sto = true /\ v0.cells = [v0] /\ v0.isLp = false /\ ∀ k, v0.offLp k = v0) : ∀ (ys : List Wt) (k : Nat), xs.drop k = ys -> k <= xs.length -> ∀ (v : AV) (T1 : Tab),
  Own T 3 v ((xs.take k).take 10).length (((xs.take k).take 10).flatMap wtC) T1 ->
  (∀ v T1, Own T 3 v (xs.take 10).length ((xs.take 10).flatMap wtC) T1 -> R (.exit 2) [(2, .lp 2 0), (3, .lp 3 0), (35, .fz xs.length (xs.flatMap wtC) cap), (36, .i .i64 xs.length), (37, .i .i64 xs.length), (38, .b false)] [(2, zTx), (3, [a, b, c, v0, v])] T1) ->
  AW prog q49 R [(2, .lp 2 0), (3, .lp 3 0), (35, .fz xs.length (xs.flatMap wtC) cap), (36, .i .i64 xs.length), (37, .i .i64 k)] [(2, zTx), (3, [a, b, c, v0, v])] T1 := by
 obtain ⟨a1, a2, a3⟩ := ha
 obtain ⟨q1, q2, q3, q4, q5, q6⟩ := hv0
 intro ys
 induction ys with
 | nil =>
  intro k hk hle v T1 ho h2
  have hk' := V6 hk hle
  refine V1 hR ?_
  unfold q3p
  obtain ⟨p1, p2, p3, p4, p5, p6⟩ := ho.form
  simp -implicitDefEqProofs -dsimp only [go_sem, seval, hk', Int.lt_irrefl, p1, p2, p3, p4, p5, p6]
  rw [List.take_of_length_le (by omega : xs.length <= k)] at ho
  have := h2 _ _ ho
  rw [hk'] at this
  exact this
 | cons y ys ih =>
  intro k hk hle v T1 ho h2
  obtain ⟨hlt, hy, hk'⟩ := Y6 hk
  obtain ⟨p1, p2, p3, p4, p5, p6⟩ := ho.form
  have hc := q08 qd4 hy
  have hc5 : k * 3 + 3 <= (xs.flatMap wtC).length := by rw [Q5 qd4]; omega
  refine Q1 (l := q49) rfl hR ?_
  unfold q3p
  simp -implicitDefEqProofs -dsimp only [go_sem, seval, Int.ofNat_lt, hlt, Int.natCast_nonneg, Int.toNat_natCast, hc, hc5, wtC, List.cons_append, List.nil_append, a1, a2, a3, q1, q2, q3, q4, q5, q6, p1, p2, p3, p4, p5, p6]
  refine K0 (fun h => ?_) (fun h => ?_)
  ·have hk10 : k < 10 := by have := of_decide_eq_true h; omega
   have hlen : ((xs.take k).take 10).length = k := by simp; omega
   have ht : (xs.take k).take 10 = xs.take k := List.take_of_length_le (by simp; omega)
   have ht' : (xs.take (k + 1)).take 10 = xs.take k ++ [y] := by rw [List.take_of_length_le (by simp; omega)]; exact q1v hy
   simp -implicitDefEqProofs -dsimp only [go_sem, seval, h, a1, a2, a3, q1, q2, q3, q4, q5, q6, p1, p2, p3, p4, p5, p6]
   refine ho.app (m := 1) (news := [.s y.k, .s y.v, .b y.g]) rfl rfl (by rw [hlen]; omega) (by rw [hlen]; omega) fun v2 T2 ho => J1 ?_
   obtain ⟨p1, p2, p3, p4, p5, p6⟩ := ho.form
   simp -implicitDefEqProofs -dsimp only [go_sem, seval, a1, a2, a3, q1, q2, q3, q4, q5, q6, p1, p2, p3, p4, p5, p6]
   rw [O8 (by omega)]
   refine ih (k + 1) hk' hlt _ _ ?_ h2
   rw [ht', List.flatMap_append, List.length_append]
   rw [ht] at ho
   exact ho
  ·have hk10 : 10 <= k := by have := of_decide_eq_false h; omega
   have e : ∀ j, 10 <= j -> (xs.take j).take 10 = xs.take 10 := fun j hj => by rw [List.take_take, Nat.min_eq_left hj]
   simp -implicitDefEqProofs -dsimp only [go_sem, seval, h, a1, a2, a3, q1, q2, q3, q4, q5, q6, p1, p2, p3, p4, p5, p6]
   rw [O8 (by omega)]
   refine ih (k + 1) hk' hlt _ _ ?_ h2
   rw [e k hk10] at ho
   rw [e (k + 1) (by omega)]
   exact ho
structure Tx.Wide (t : Tx) : Prop where
 r : t.rs.length < 9223372036854775808
 w : t.ws.length < 9223372036854775808
 rk : ∀ r ∈ t.rs, Len r.k.length
 wk : ∀ r ∈ t.ws, Len r.k.length
 wv : ∀ r ∈ t.ws, Len r.v.length
theorem Tx.Wide.our {t : Tx} (h : t.Wide) : t.our.Fine :=
 ⟨by simp only [Tx.our, List.length_take]; omega, by simp only [Tx.our, List.length_take]; omega, fun r hr => h.rk r (List.mem_of_mem_take hr), fun r hr => h.wk r (List.mem_of_mem_take hr), fun r hr => h.wv r (List.mem_of_mem_take hr)⟩
theorem qqn (t : Tx) (k1 k2 : Option Nat) (hf : t.Wide) : PCalls prog q1b [.agg (t.cells k1 k2)] (.agg (t.our.cells none none)) := by
 refine K6 U1 qcm (by simp) fun T => ?_
 unfold q7n
 simp -implicitDefEqProofs -dsimp only [go_sem, seval, Tx.cells]
 refine qvz (T := T) (by repeat' (first | exact O6 _ _ | assumption | apply O5 | apply N4 | apply V8)) hf.r ⟨rfl, rfl, rfl⟩ ⟨rfl, rfl, rfl, rfl, rfl, fun _ => rfl⟩ t.rs 0 rfl (by omega) _ _ (.nil ..) (fun v1 T1 o1 => ?_)
 obtain ⟨p1, p2, p3, p4, p5, p6⟩ := o1.form
 simp -implicitDefEqProofs -dsimp only [go_sem, seval, zTx, p1, p2, p3, p4, p5, p6]
 refine qw0 (T := T1) (tc := []) (by repeat' (first | exact O6 _ _ | assumption | apply O5 | apply N4 | apply V8)) hf.w ⟨rfl, rfl, rfl⟩ o1.form t.ws 0 rfl (by omega) _ _ (.nil ..) (fun v2 T2 o2 => ?_)
 obtain ⟨q1, q2, q3, q4, q5, q6⟩ := o2.form
 simp -implicitDefEqProofs -dsimp only [go_sem, seval, zTx, p1, p2, p3, p4, p5, p6, q1, q2, q3, q4, q5, q6]
 have how : Owns T [⟨3, v2, (t.ws.take 10).length, (t.ws.take 10).flatMap wtC⟩, ⟨2, v1, (t.rs.take 10).length, (t.rs.take 10).flatMap rdC⟩] T2 := ⟨T1, ⟨T, rfl, o1⟩, o2⟩
 refine q33 how fun S hS => ?_
 obtain ⟨c1, e1⟩ := hS _ (List.mem_cons_of_mem _ (List.mem_cons_self ..))
 obtain ⟨c2, e2⟩ := hS _ (List.mem_cons_self ..)
 simp only at e1 e2
 simp only [qm5, q99, List.map_cons, List.map_nil, e1, e2, qbs, qch]
 exact Wk.agg Wks.tx
end Go.Aw
