import Derived.Test.YtmicojcojlgefaaGreatZ29M17H
namespace Go.Aw
open Go
open Go.Proofs.Tryz (prog)
set_option linter.all false
set_option maxHeartbeats 8000000
set_option maxRecDepth 8000
def qyk (f : Bs) : Bs -> Bs -> Bool
 | [], _ => false
 | b :: s, w => if decide ((b.toNat : Int) = 32) = true then (if decide (w = f) = true then true else qyk f s []) else qyk f s (w ++ [b])
def z77 (k : Int) : Bs :=
 if k = 1 then [115, 104, 97, 114, 100, 32, 101, 112, 111, 99, 104, 32, 110, 32, 102, 108, 97, 103] else if k = 2 then [110, 32, 99, 111, 110, 102, 115] else if k = 3 then [107, 110, 111, 119] else
 if k = 4 then [110, 32, 98, 97, 108, 108, 111, 116] else if k = 5 then [110, 32, 98, 97, 108, 108, 111, 116, 32, 118, 111, 116, 101, 115] else if k = 6 then [110, 32, 98, 97, 108, 108, 111, 116, 32, 118, 97, 108] else
 if k = 7 then [110, 32, 98, 97, 108, 108, 111, 116] else if k = 8 then [98, 97, 108, 108, 111, 116] else if k = 9 then [110, 32, 118, 97, 108] else if k = 10 then [110] else if k = 11 then [110, 32, 98, 97, 108, 108, 111, 116] else
 if k = 12 then [115, 104, 97, 114, 100, 32, 101, 112, 111, 99, 104, 32, 110, 32, 109, 32, 110, 117, 109, 32, 101, 110, 116, 114, 105, 101, 115] else if k = 13 then [115, 104, 97, 114, 100, 32, 101, 112, 111, 99, 104, 32, 110, 32, 102, 108, 97, 103] else
 if k = 14 then [115, 104, 97, 114, 100, 32, 101, 112, 111, 99, 104, 32, 110] else if k = 15 then [115, 104, 97, 114, 100, 32, 101, 112, 111, 99, 104, 32, 110, 32, 110, 111, 100, 101, 32, 105, 100, 32, 118, 97, 108] else
 if k = 16 then [115, 104, 97, 114, 100, 32, 110, 32, 105, 100, 32, 118, 97, 108] else if k = 17 then [115, 104, 97, 114, 100, 32, 116, 120, 110] else if k = 18 then [115, 104, 97, 114, 100, 32, 105, 100, 32, 99, 111, 100, 101] else
 if k = 19 then [105, 100, 32, 118, 97, 108] else if k = 20 then [116, 120, 110] else if k = 21 then [110, 32, 105, 100, 32, 118, 97, 108, 32, 110, 117, 109, 32, 99, 111, 100, 101] else []
def qai (k : Int) (f : Bs) : Bool := qf1 k && qyk f (z77 k ++ [32]) []
theorem zac {R : Y5} (hR : ExtR R) {T : Tab} {f s : Bs} (hl : s.length <= 1000) : ∀ (us : Bs) (k : Nat), s.drop k = us -> k <= s.length -> ∀ (w : Bs), w.length <= k ->
  (qyk f us w = true -> R .ret [(4, .b true)] [] T) ->
  (qyk f us w = false -> ∀ w', R (.exit 0) [(1, .s f), (6, .s s), (7, .s w'), (8, .i .i64 s.length), (24, .b false)] [] T) ->
  AW prog q9i R [(1, .s f), (6, .s s), (7, .s w), (8, .i .i64 k)] [] T := by
 intro us
 induction us with
 | nil =>
  intro k hk hle w hw h1 h2
  have hk' := O9 hk hle
  refine Q2 hR ?_
  unfold q8l
  simp -implicitDefEqProofs -dsimp only [go_sem, seval, hk', Int.lt_irrefl]
  rw [hk'] at h2
  exact h2 rfl w
 | cons y us ih =>
  intro k hk hle w hw h1 h2
  obtain ⟨hlt, hy, hk'⟩ := Q5 hk
  have hs : IntKind.i64.wrap ((k : Int) + 1) = ((k + 1 : Nat) : Int) := K9 (by omega)
  have hb : w.length + 1 <= 9223372036854775807 := by omega
  have hk1 : k <= k + 1 /\ k + 1 <= s.length := by omega
  have h01 : (0 : Int) <= ((k + 1 : Nat) : Int) := Int.natCast_nonneg _
  refine O2 (l := q9i) rfl hR ?_
  unfold q8l
  simp only [qyk] at h1 h2
  simp -implicitDefEqProofs -dsimp only [go_sem, seval, Int.ofNat_lt, hlt, Int.natCast_nonneg, Int.toNat_natCast, hy]
  apply J2 <;> intro h3
  ·simp -implicitDefEqProofs -dsimp only [go_sem, seval, h3]
   apply J2 <;> intro h4
   ·simp -implicitDefEqProofs -dsimp only [go_sem, seval, h4]
    exact h1 (by rw [if_pos h3, if_pos h4])
   ·rw [if_pos h3, if_neg (by rw [h4]; decide)] at h1 h2
    simp -implicitDefEqProofs -dsimp only [go_sem, seval, h4, hs]
    exact ih (k + 1) hk' hlt [] (Nat.zero_le _) h1 h2
  ·rw [if_neg (by rw [h3]; decide)] at h1 h2
   simp -implicitDefEqProofs -dsimp only [go_sem, seval, h3, hs, hb, hk1, h01, hk, Int.natCast_nonneg, Int.toNat_natCast, Nat.add_sub_cancel_left]
   exact ih (k + 1) hk' hlt (w ++ [y]) (by simp; omega) h1 h2
theorem z6k {k : Int} (h : qf1 k = true) : ((List.drop k.toNat ([.s [], .s [115, 104, 97, 114, 100, 32, 101, 112, 111, 99, 104, 32, 110, 32, 102, 108, 97, 103], .s [110, 32, 99, 111, 110, 102, 115], .s [107, 110, 111, 119], .s [110, 32, 98, 97, 108, 108, 111, 116], .s [110, 32, 98, 97, 108, 108, 111, 116, 32, 118, 111, 116, 101, 115], .s [110, 32, 98, 97, 108, 108, 111, 116, 32, 118, 97, 108], .s [110, 32, 98, 97, 108, 108, 111, 116], .s [98, 97, 108, 108, 111, 116], .s [110, 32, 118, 97, 108], .s [110], .s [110, 32, 98, 97, 108, 108, 111, 116], .s [115, 104, 97, 114, 100, 32, 101, 112, 111, 99, 104, 32, 110, 32, 109, 32, 110, 117, 109, 32, 101, 110, 116, 114, 105, 101, 115], .s [115, 104, 97, 114, 100, 32, 101, 112, 111, 99, 104, 32, 110, 32, 102, 108, 97, 103], .s [115, 104, 97, 114, 100, 32, 101, 112, 111, 99, 104, 32, 110], .s [115, 104, 97, 114, 100, 32, 101, 112, 111, 99, 104, 32, 110, 32, 110, 111, 100, 101, 32, 105, 100, 32, 118, 97, 108], .s [115, 104, 97, 114, 100, 32, 110, 32, 105, 100, 32, 118, 97, 108], .s [115, 104, 97, 114, 100, 32, 116, 120, 110], .s [115, 104, 97, 114, 100, 32, 105, 100, 32, 99, 111, 100, 101], .s [105, 100, 32, 118, 97, 108], .s [116, 120, 110], .s [110, 32, 105, 100, 32, 118, 97, 108, 32, 110, 117, 109, 32, 99, 111, 100, 101]] : List AV))[0]?) = some (.s (z77 k)) := by
 rcases qdz k with (rfl | rfl | rfl | rfl | rfl | rfl | rfl | rfl | rfl | rfl | rfl | rfl | rfl | rfl | rfl | rfl | rfl | rfl | rfl | rfl | rfl) | h2
 any_goals rfl
 rw [h] at h2; cases h2
theorem z6l (k : Int) : (z77 k).length <= 30 := by
 rcases qdz k with (rfl | rfl | rfl | rfl | rfl | rfl | rfl | rfl | rfl | rfl | rfl | rfl | rfl | rfl | rfl | rfl | rfl | rfl | rfl | rfl | rfl) | h
 any_goals (decide +kernel)
 simp only [qf1, decide_eq_false_iff_not] at h
 unfold z77
 repeat' rw [if_neg (by omega)]
 decide
theorem V9 (k : Int) (f : Bs) : PCalls prog O6 [.i .i64 k, .s f] (.b (qai k f)) := by
 refine K5 Q7 qmn (by simp) fun T => ?_
 unfold qee
 rcases h : qf1 k with _ | _
 ·have h' := h
  simp only [qf1, decide_eq_false_iff_not] at h'
  by_cases h1 : k < 1
  ·simp -implicitDefEqProofs -dsimp only [go_sem, seval, decide_eq_true h1]
   refine K1 ?_
   rw [qai, h]; rfl
  ·simp -implicitDefEqProofs -dsimp only [go_sem, seval, decide_eq_false h1, decide_eq_true (show 21 < k by omega)]
   refine K1 ?_
   rw [qai, h]; rfl
 ·have h' := h
  simp only [qf1, decide_eq_true_eq] at h'
  have hr := z6k h
  have hl := z6l k
  have hb : (z77 k).length + 1 <= 9223372036854775807 := by omega
  have h0 : 0 <= k /\ k < 22 := by omega
  have h00 : 0 <= k := by omega
  have h22 : k < ((22 : Nat) : Int) := by omega
  simp -implicitDefEqProofs -dsimp only [go_sem, seval, decide_eq_false (show ¬ k < 1 by omega), decide_eq_false (show ¬ 21 < k by omega), hr, hb, h0, h00, h22]
  refine zac (T := T) (by repeat' (first | exact N5 _ _ | assumption | apply N4 | apply K7 | apply U1)) (f := f) (s := z77 k ++ [32]) (by simp; omega) _ 0 rfl (Nat.zero_le _) [] (Nat.zero_le _) (fun h => ?_) (fun h w => ?_) <;> simp -implicitDefEqProofs -dsimp only [go_sem, seval] <;> (refine K1 ?_; rw [qai, show qf1 _ = true from ‹_›]; exact congrArg AV.b h.symm)
end Go.Aw
namespace Go.Aw
open Go
open Go.Proofs.Tryz (prog)
set_option linter.all false
set_option maxHeartbeats 8000000
set_option maxRecDepth 8000
def inF (is : Bool) (n m : Int) : Bool := if is then decide (0 <= n) && decide (n <= m) || decide (n = 0) else decide (n = 0)
theorem q1q (is : Bool) (n m : Int) : PCalls prog I1 [.b is, .i .i64 n, .i .i64 m] (.b (inF is n m)) := by
 refine K5 Q7 qhq (by simp) fun T => ?_
 unfold qaw
 simp -implicitDefEqProofs -dsimp only [go_sem, seval]
 (first | (apply J2 <;> intro h_1 <;> simp -implicitDefEqProofs -dsimp only [go_sem, seval, h_1]) | (have h_1 := trivial)) <;>
  (first | (apply J2 <;> intro h_2 <;> simp -implicitDefEqProofs -dsimp only [go_sem, seval, h_1, h_2]) | (have h_2 := trivial)) <;>
  (first | (apply J2 <;> intro h_3 <;> simp -implicitDefEqProofs -dsimp only [go_sem, seval, h_1, h_2, h_3]) | (have h_3 := trivial)) <;>
  (first | (apply J2 <;> intro h_4 <;> simp -implicitDefEqProofs -dsimp only [go_sem, seval, h_1, h_2, h_3, h_4]) | (have h_4 := trivial)) <;>
  (first | (apply J2 <;> intro h_5 <;> simp -implicitDefEqProofs -dsimp only [go_sem, seval, h_1, h_2, h_3, h_4, h_5]) | (have h_5 := trivial))
 all_goals (refine K1 ?_; simp_all [inF] <;> omega)
theorem q16 (r n : Int) : PCalls prog q21 [.agg [.i .u64 r, .i .i64 n]] (.b (qv1 n)) := by
 refine K5 Q7 qhs (by simp) fun T => ?_
 unfold qax
 simp -implicitDefEqProofs -dsimp only [go_sem, seval]
 (first | (apply J2 <;> intro h_1 <;> simp -implicitDefEqProofs -dsimp only [go_sem, seval, h_1]) | (have h_1 := trivial)) <;>
  (first | (apply J2 <;> intro h_2 <;> simp -implicitDefEqProofs -dsimp only [go_sem, seval, h_1, h_2]) | (have h_2 := trivial)) <;>
  (first | (apply J2 <;> intro h_3 <;> simp -implicitDefEqProofs -dsimp only [go_sem, seval, h_1, h_2, h_3]) | (have h_3 := trivial))
 all_goals (refine K1 ?_; have e : decide (n <= 4) = decide (n < 5) := by simp only [decide_eq_decide]; omega)
 all_goals (simp only [qv1, *, Bool.true_and, Bool.false_and])
def adR (k n : Int) : Bool := decide (0 <= n) && (decide (k = 1) && decide (n <= 4) || (decide (k = 2) && decide (n <= 7) || decide (k = 3) && decide (n <= 5)))
theorem zad (k n : Int) : adR k n = qqi k n := by
 unfold adR qqi z3l
 by_cases h1 : k = 1
 ·subst h1; simp; rw [Bool.eq_iff_iff]; simp; omega
 by_cases h2 : k = 2
 ·subst h2; simp; rw [Bool.eq_iff_iff]; simp; omega
 by_cases h3 : k = 3
 ·subst h3; simp; rw [Bool.eq_iff_iff]; simp; omega
 simp [h1, h2, h3]
theorem q1v (k n : Int) : PCalls prog q0x [.agg [.i .i64 k, .i .i64 n]] (.b (qqi k n)) := by
 rw [<- zad]
 refine K5 Q7 qfe (by simp) fun T => ?_
 unfold q9p
 simp -implicitDefEqProofs -dsimp only [go_sem, seval]
 (first | (apply J2 <;> intro h_1 <;> simp -implicitDefEqProofs -dsimp only [go_sem, seval, h_1]) | (have h_1 := trivial)) <;>
  (first | (apply J2 <;> intro h_2 <;> simp -implicitDefEqProofs -dsimp only [go_sem, seval, h_1, h_2]) | (have h_2 := trivial)) <;>
  (first | (apply J2 <;> intro h_3 <;> simp -implicitDefEqProofs -dsimp only [go_sem, seval, h_1, h_2, h_3]) | (have h_3 := trivial)) <;>
  (first | (apply J2 <;> intro h_4 <;> simp -implicitDefEqProofs -dsimp only [go_sem, seval, h_1, h_2, h_3, h_4]) | (have h_4 := trivial)) <;>
  (first | (apply J2 <;> intro h_5 <;> simp -implicitDefEqProofs -dsimp only [go_sem, seval, h_1, h_2, h_3, h_4, h_5]) | (have h_5 := trivial)) <;>
  (first | (apply J2 <;> intro h_6 <;> simp -implicitDefEqProofs -dsimp only [go_sem, seval, h_1, h_2, h_3, h_4, h_5, h_6]) | (have h_6 := trivial)) <;>
  (first | (apply J2 <;> intro h_7 <;> simp -implicitDefEqProofs -dsimp only [go_sem, seval, h_1, h_2, h_3, h_4, h_5, h_6, h_7]) | (have h_7 := trivial)) <;>
  (first | (apply J2 <;> intro h_8 <;> simp -implicitDefEqProofs -dsimp only [go_sem, seval, h_1, h_2, h_3, h_4, h_5, h_6, h_7, h_8]) | (have h_8 := trivial)) <;>
  (first | (apply J2 <;> intro h_9 <;> simp -implicitDefEqProofs -dsimp only [go_sem, seval, h_1, h_2, h_3, h_4, h_5, h_6, h_7, h_8, h_9]) | (have h_9 := trivial))
 all_goals (refine K1 ?_; simp only [adR, *, Bool.true_and, Bool.false_and, Bool.true_or, Bool.false_or, Bool.or_false])
theorem qwb (t : Tx) (k1 k2 k3 k4 : Option Nat) : PCalls prog q01 [.agg (t.cells k1 k2), .agg (zT.cells k3 k4)] (.b (txE t zT)) := by
 refine K5 Q7 qab (by simp) fun T => ?_
 have hx : txE t zT = (decide (t.cl = 0) && decide (t.sq = 0) && decide (t.pl = false) && decide ((t.rs.length : Int) = ((0 : Nat) : Int)) && decide ((t.ws.length : Int) = ((0 : Nat) : Int))) := by
  simp only [txE, zT, q3d]
  congr 2
  ·simp
  ·simp
 rw [hx]
 unfold q66
 simp -implicitDefEqProofs -dsimp only [go_sem, seval, Tx.cells, zT, U2, K6, Bool.and_true, List.flatMap_nil]
 (first | (apply J2 <;> intro h_1 <;> simp -implicitDefEqProofs -dsimp only [go_sem, seval, U2, K6, Bool.and_true, List.flatMap_nil, h_1]) | (have h_1 := trivial)) <;>
  (first | (apply J2 <;> intro h_2 <;> simp -implicitDefEqProofs -dsimp only [go_sem, seval, U2, K6, Bool.and_true, List.flatMap_nil, h_1, h_2]) | (have h_2 := trivial)) <;>
  (first | (apply J2 <;> intro h_3 <;> simp -implicitDefEqProofs -dsimp only [go_sem, seval, U2, K6, Bool.and_true, List.flatMap_nil, h_1, h_2, h_3]) | (have h_3 := trivial)) <;>
  (first | (apply J2 <;> intro h_4 <;> simp -implicitDefEqProofs -dsimp only [go_sem, seval, U2, K6, Bool.and_true, List.flatMap_nil, h_1, h_2, h_3, h_4]) | (have h_4 := trivial))
 any_goals (refine K1 ?_; (try simp only [Bool.not_eq_true', Bool.not_eq_false'] at *); simp only [*, Bool.true_and, Bool.and_true, Bool.false_and, Bool.and_false]; done)
 obtain ⟨cl, sq, pl, rs, ws⟩ := t
 (try simp only [Bool.not_eq_true', Bool.not_eq_false'] at *)
 have r0 : rs = [] := List.length_eq_zero_iff.1 (by have := of_decide_eq_true h_3; omega)
 have w0 : ws = [] := List.length_eq_zero_iff.1 (by have := of_decide_eq_true h_4; omega)
 subst r0; subst w0
 have h00 : ¬ ((0 : Int) < ((0 : Nat) : Int)) := by decide
 refine Q2 (by repeat' (first | exact N5 _ _ | assumption | apply N4 | apply K7 | apply U1)) ?_
 unfold q29
 simp -implicitDefEqProofs -dsimp only [go_sem, seval, h00]
 refine Q2 (by repeat' (first | exact N5 _ _ | assumption | apply N4 | apply K7 | apply U1)) ?_
 unfold q2a
 simp -implicitDefEqProofs -dsimp only [go_sem, seval, h00]
 refine K1 ?_
 simp only [*, Bool.true_and, Bool.and_true, Bool.false_and, Bool.and_false]
end Go.Aw
