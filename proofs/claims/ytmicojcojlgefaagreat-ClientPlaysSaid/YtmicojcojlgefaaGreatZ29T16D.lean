import Derived.Test.YtmicojcojlgefaaGreatZ29T16B
namespace Go.Aw
open Go
open Go.Proofs.Tryz (prog)
set_option linter.all false
def qu7 (l : List (Int × Bool)) : List Int := (l.take 10).map (·.1)
def qu8 (l : List (Int × Bool)) : List Bool := (l.take 10).map (·.2)
def Rf.ours (c : Rf) : Cf := ⟨c.ep, c.sh, qu7 c.l, qu8 c.l, c.ln⟩
theorem z5u {R : Y5} (hR : ExtR R) {T : Tab} {c : Rf} {k1 : Option Nat} (hl : Len c.l.length) : ∀ (ys : List (Int × Bool)) (k : Nat), c.l.drop k = ys -> k <= c.l.length -> ∀ (v1 v2 : AV) (T1 : Tab),
  Owns T [⟨1, v1, ((c.l.take k).take 10).length, q9k (qu7 (c.l.take k))⟩, ⟨1, v2, ((c.l.take k).take 10).length, q34 (qu8 (c.l.take k))⟩] T1 ->
  (∀ v1 v2 T1, Owns T [⟨1, v1, (c.l.take 10).length, q9k (qu7 c.l)⟩, ⟨1, v2, (c.l.take 10).length, q34 (qu8 c.l)⟩] T1 ->
   R (.exit 0) [(2, .lp 2 0), (3, .lp 3 0), (14, .fz c.l.length (mem c.l) k1), (15, .i .i64 c.l.length), (16, .i .i64 c.l.length), (17, .b false)]
    [(2, [.i .u64 0, .i .i64 0, .fz 0 [] (some 0), .fz 0 [] (some 0), .i .i64 0]), (3, [.i .u64 c.ep, .i .i64 c.sh, v1, v2, .i .i64 c.ln])] T1) ->
  AW prog q8j R [(2, .lp 2 0), (3, .lp 3 0), (14, .fz c.l.length (mem c.l) k1), (15, .i .i64 c.l.length), (16, .i .i64 k)]
    [(2, [.i .u64 0, .i .i64 0, .fz 0 [] (some 0), .fz 0 [] (some 0), .i .i64 0]), (3, [.i .u64 c.ep, .i .i64 c.sh, v1, v2, .i .i64 c.ln])] T1 := by
 intro ys
 induction ys with
 | nil =>
  intro k hk hle v1 v2 T1 how h2
  have hk' := O9 hk hle
  refine Q2 hR ?_
  unfold q78
  have ht : c.l.take k = c.l := List.take_of_length_le (by omega)
  rw [ht] at how
  simp -implicitDefEqProofs -dsimp only [go_sem, seval, hk', Int.lt_irrefl]
  have := h2 v1 v2 T1 how
  rw [hk'] at this
  exact this
 | cons y ys ih =>
  intro k hk hle v1 v2 T1 how h2
  obtain ⟨hlt, hy, hk'⟩ := Q5 hk
  have hl' := hl
  unfold Len at hl
  obtain ⟨p1, p2, p3, p4, p5, p6⟩ := how.form (List.mem_cons_self ..)
  obtain ⟨q1, q2, q3, q4, q5, q6⟩ := how.form (List.mem_cons_of_mem _ (List.mem_cons_self ..))
  simp only at p1 p2 p3 p4 p5 p6 q1 q2 q3 q4 q5 q6
  refine O2 (l := q8j) rfl hR ?_
  unfold q78
  simp -implicitDefEqProofs -dsimp only [go_sem, seval, Int.ofNat_lt, hlt, Int.natCast_nonneg, Int.toNat_natCast, qru hy, p1, p2, p3, p4, p5, p6, q1, q2, q3, q4, q5, q6]
  refine J2 (fun h => ?_) (fun h => ?_) <;> simp -implicitDefEqProofs -dsimp only [go_sem, seval, h, p1, p2, p3, p4, p5, p6, q1, q2, q3, q4, q5, q6]
  ·have hk10 : k < 10 := by have := of_decide_eq_true h; omega
   have hlen : ((c.l.take k).take 10).length = k := by simp; omega
   have hlen' : ((c.l.take (k + 1)).take 10).length = k + 1 := by simp; omega
   have ht : (c.l.take k).take 10 = c.l.take k := List.take_of_length_le (by simp; omega)
   have ht' : (c.l.take (k + 1)).take 10 = c.l.take k ++ [y] := by rw [List.take_of_length_le (by simp; omega)]; exact Z9 hy
   refine how.app (m := 1) (news := q9k [y.1]) (by simp [Z0, q9k]) rfl (by simp only [hlen]; omega) (by simp only [hlen]; omega) fun v1' T2 how => J1 ?_
   obtain ⟨p1, p2, p3, p4, p5, p6⟩ := how.form (List.mem_cons_self ..)
   simp only at p1 p2 p3 p4 p5 p6
   simp -implicitDefEqProofs -dsimp only [go_sem, seval, p1, p2, p3, p4, p5, p6, q1, q2, q3, q4, q5, q6]
   refine how.swap.app (m := 1) (news := q34 [y.2]) (by simp [Z0, q34]) rfl (by simp only [hlen]; omega) (by simp only [hlen]; omega) fun v2' T3 how => J1 ?_
   obtain ⟨q1, q2, q3, q4, q5, q6⟩ := how.form (List.mem_cons_self ..)
   simp only at q1 q2 q3 q4 q5 q6
   simp -implicitDefEqProofs -dsimp only [go_sem, seval, p1, p2, p3, p4, p5, p6, q1, q2, q3, q4, q5, q6]
   rw [K9 (by omega)]
   refine ih (k + 1) hk' hlt _ _ _ ?_ h2
   simpa [qu7, qu8, ht, ht', hlen, hlen', qpu, qo0] using how.swap
  ·have hk10 : 10 <= k := by have := of_decide_eq_false h; omega
   have e : ∀ j, 10 <= j -> (c.l.take j).take 10 = c.l.take 10 := fun j hj => by rw [List.take_take, Nat.min_eq_left hj]
   rw [K9 (by omega)]
   refine ih (k + 1) hk' hlt _ _ _ ?_ h2
   simpa [qu7, qu8, e k hk10, e (k + 1) (by omega)] using how
theorem Wks.cf {a b c : AV} {n m : Nat} {x y : List AV} {k1 k2 : Option Nat} : Wks [a, b, .fz n x k1, .fz m y k2, c] [a, b, .fz n x none, .fz m y none, c] :=
 ⟨.refl _, .refl _, .fz, .fz, .refl _, trivial⟩
theorem z5v (c : Rf) (k : Option Nat) (hl : Len c.l.length) : PCalls prog q54 [.agg (c.cells k)] (.agg (c.ours.cells none none)) := by
 refine K5 Q7 ql2 (by simp) fun T => ?_
 unfold qcy
 simp -implicitDefEqProofs -dsimp only [go_sem, seval, Rf.cells]
 refine z5u (T := T) (c := c) (k1 := k) (by repeat' (first | exact N5 _ _ | assumption | apply N4 | apply K7 | apply U1)) hl c.l 0 rfl (by omega) _ _ T ?_ (fun v1 v2 T1 how => ?_)
 ·exact ⟨T, ⟨T, rfl, .nil T 1⟩, .nil T 1⟩
 ·obtain ⟨p1, p2, p3, p4, p5, p6⟩ := how.form (List.mem_cons_self ..)
  obtain ⟨q1, q2, q3, q4, q5, q6⟩ := how.form (List.mem_cons_of_mem _ (List.mem_cons_self ..))
  simp only at p1 p2 p3 p4 p5 p6 q1 q2 q3 q4 q5 q6
  simp -implicitDefEqProofs -dsimp only [go_sem, seval, p1, p2, p3, p4, p5, p6, q1, q2, q3, q4, q5, q6]
  refine q4i how fun S hS => ?_
  obtain ⟨c1, e1⟩ := hS _ (List.mem_cons_self ..)
  obtain ⟨c2, e2⟩ := hS _ (List.mem_cons_of_mem _ (List.mem_cons_self ..))
  simp only at e1 e2
  simp only [qrh, qns, List.map_cons, List.map_nil, e1, e2, qo1]
  refine Wk.agg ?_
  have hn : (c.l.take 10).length = (qu7 c.l).length := by simp [qu7]
  have hn' : (c.l.take 10).length = (qu8 c.l).length := by simp [qu8]
  rw [hn] at *
  simp only [Rf.ours, Cf.cells]
  rw [hn] at hn'
  rw [<- hn']
  exact Wks.cf
end Go.Aw
namespace Go.Aw
open Go
open Go.Proofs.Tryz (prog)
set_option linter.all false
def qc5 (fu : List Bool) : List Int -> Nat -> List (Int × Bool)
 | [], _ => []
 | y :: ys, k => (y, (fu[k]?).getD false) :: qc5 fu ys (k + 1)
def Cf.plain (c : Cf) : Rf := ⟨c.ep, c.sh, qc5 c.fu c.ch 0, c.ln⟩
theorem qcb (fu : List Bool) : ∀ (l : List Int) (k : Nat), (qc5 fu l k).length = l.length
 | [], _ => rfl
 | _ :: l, k => by simp [qc5, qcb fu l (k + 1)]
theorem z2z {R : Y5} (hR : ExtR R) {T : Tab} {c : Cf} {k1 k2 : Option Nat} (hl : c.ch.length < 1000000000) : ∀ (ys : List Int) (k : Nat), c.ch.drop k = ys -> k <= c.ch.length -> ∀ (v : AV) (T1 : Tab) (acc : List (Int × Bool)),
  acc.length = k -> Owns T [⟨2, v, k, mem acc⟩] T1 ->
  (∀ v T1, Owns T [⟨2, v, c.ch.length, mem (acc ++ qc5 c.fu ys k)⟩] T1 ->
   R (.exit 0) [(1, .lp 1 0), (2, .lp 2 0), (3, .lp 3 0), (14, .fz c.ch.length (q9k c.ch) k1), (15, .i .i64 c.ch.length), (16, .i .i64 c.ch.length), (17, .b false)]
    [(1, c.cells k1 k2), (2, [.i .u64 0, .i .i64 0, .fz 0 [] (some 0), .i .i64 0]), (3, [.i .u64 c.ep, .i .i64 c.sh, v, .i .i64 c.ln])] T1) ->
  AW prog q23 R [(1, .lp 1 0), (2, .lp 2 0), (3, .lp 3 0), (14, .fz c.ch.length (q9k c.ch) k1), (15, .i .i64 c.ch.length), (16, .i .i64 k)]
    [(1, c.cells k1 k2), (2, [.i .u64 0, .i .i64 0, .fz 0 [] (some 0), .i .i64 0]), (3, [.i .u64 c.ep, .i .i64 c.sh, v, .i .i64 c.ln])] T1 := by
 intro ys
 induction ys with
 | nil =>
  intro k hk hle v T1 acc hacc how h2
  have hk' := O9 hk hle
  refine O2 (l := q23) rfl hR ?_
  unfold q64
  simp -implicitDefEqProofs -dsimp only [go_sem, seval, hk', Int.lt_irrefl]
  have := h2 v T1 (by rw [hk']; simpa [qc5] using how)
  rw [hk'] at this
  exact this
 | cons y ys ih =>
  intro k hk hle v T1 acc hacc how h2
  obtain ⟨hlt, hy, hk'⟩ := Q5 hk
  obtain ⟨p1, p2, p3, p4, p5, p6⟩ := how.form (List.mem_cons_self ..)
  simp only at p1 p2 p3 p4 p5 p6
  refine O2 (l := q23) rfl hR ?_
  unfold q64
  simp -implicitDefEqProofs -dsimp only [go_sem, seval, Int.ofNat_lt, hlt, Int.natCast_nonneg, Int.toNat_natCast, qnh, hy, p1, p2, p3, p4, p5, p6, Cf.cells]
  have fin : ∀ (b : Bool), (c.fu[k]?).getD false = b -> ∀ K : AV -> Tab -> Prop, (∀ v' T2, Owns T [⟨2, v', k + 1, mem (acc ++ [(y, b)])⟩] T2 -> K v' T2) ->
    q4z 2 16 T1 v (.fz 1 [.i .i64 y, .b b] (some 1)) K := fun b hb K hK => by
   refine how.app (m := 1) (news := mem [(y, b)]) (by simp [Z0, mem]) rfl (by simp only; omega) (by simp only; omega) fun v' T2 h' => hK v' T2 ?_
   simpa [q2e] using h'
  have next : ∀ (b : Bool), (c.fu[k]?).getD false = b -> ∀ v' T2, Owns T [⟨2, v', k + 1, mem (acc ++ [(y, b)])⟩] T2 ->
    AW prog q23 R [(1, .lp 1 0), (2, .lp 2 0), (3, .lp 3 0), (14, .fz c.ch.length (q9k c.ch) k1), (15, .i .i64 c.ch.length), (16, .i .i64 ((k + 1 : Nat) : Int))]
     [(1, c.cells k1 k2), (2, [.i .u64 0, .i .i64 0, .fz 0 [] (some 0), .i .i64 0]), (3, [.i .u64 c.ep, .i .i64 c.sh, v', .i .i64 c.ln])] T2 := fun b hb v' T2 h' => by
   refine ih (k + 1) hk' hlt v' T2 (acc ++ [(y, b)]) (by simp [hacc]) h' fun v'' T3 h'' => h2 v'' T3 ?_
   simpa [qc5, hb] using h''
  refine J2 (fun h => ?_) (fun h => ?_)
  ·have hlt2 := of_decide_eq_true h
   have hb : c.fu[k]? = some c.fu[k] := List.getElem?_eq_getElem hlt2
   simp -implicitDefEqProofs -dsimp only [go_sem, seval, h, Cf.cells, Int.ofNat_lt, hlt2, Int.natCast_nonneg, Int.toNat_natCast, qwu, hb, p1, p2, p3, p4, p5, p6]
   refine fin c.fu[k] (by simp [hb]) _ fun v' T2 h' => ?_
   refine J1 ?_
   obtain ⟨q1, q2, q3, q4, q5, q6⟩ := h'.form (List.mem_cons_self ..)
   simp only at q1 q2 q3 q4 q5 q6
   simp -implicitDefEqProofs -dsimp only [go_sem, seval, q1, q2, q3, q4, q5, q6]
   rw [K9 (by omega)]
   exact next c.fu[k] (by simp [hb]) v' T2 h'
  ·have hlt2 := of_decide_eq_false h
   have hb : c.fu[k]? = none := by simp; omega
   simp -implicitDefEqProofs -dsimp only [go_sem, seval, h, p1, p2, p3, p4, p5, p6]
   refine fin false (by simp [hb]) _ fun v' T2 h' => ?_
   refine J1 ?_
   obtain ⟨q1, q2, q3, q4, q5, q6⟩ := h'.form (List.mem_cons_self ..)
   simp only at q1 q2 q3 q4 q5 q6
   simp -implicitDefEqProofs -dsimp only [go_sem, seval, q1, q2, q3, q4, q5, q6]
   rw [K9 (by omega)]
   exact next false (by simp [hb]) v' T2 h'
theorem z30 (c : Cf) (k1 k2 : Option Nat) (hl : c.ch.length < 1000000000) : PCalls prog q44 [.agg (c.cells k1 k2)] (.agg (c.plain.cells none)) := by
 refine K5 Q7 qiz (by simp) fun T => ?_
 unfold qbl
 simp -implicitDefEqProofs -dsimp only [go_sem, seval, Cf.cells]
 refine z2z (T := T) (c := c) (k1 := k1) (k2 := k2) (by repeat' (first | exact N5 _ _ | assumption | apply N4 | apply K7 | apply U1)) hl c.ch 0 rfl (by omega) _ T [] rfl ?_ (fun v1 T1 how => ?_)
 ·exact ⟨T, rfl, .nil T 2⟩
 ·obtain ⟨p1, p2, p3, p4, p5, p6⟩ := how.form (List.mem_cons_self ..)
  simp only at p1 p2 p3 p4 p5 p6
  simp -implicitDefEqProofs -dsimp only [go_sem, seval, p1, p2, p3, p4, p5, p6]
  refine q4i how fun S hS => ?_
  obtain ⟨c1, e1⟩ := hS _ (List.mem_cons_self ..)
  simp only at e1
  simp only [qrh, qns, List.map_cons, List.map_nil, e1, qo1]
  refine Wk.agg ?_
  simp only [Cf.plain, Rf.cells, qcb, List.nil_append]
  exact ⟨.refl _, .refl _, .fz, .refl _, trivial⟩
end Go.Aw
