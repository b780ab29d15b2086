import Derived.Test.YteiamcnjlpbihaaGreatDoorN17E12Q
import Derived.Test.YteiamcnjlpbihaaGreatDoorN17E12R
namespace Go.Aw
open Go
open Go.Proofs.Tryz (prog)
set_option linter.all false
set_option maxHeartbeats 4000000
structure En where
 ep : Int
 kd : Int
 t : Tx
 cl : Int
 sq : Int
 co : Int
def En.cells (e : En) (k1 k2 : Option Nat) : List AV :=
 [.i .u64 e.ep, .i .i64 e.kd, .i .i64 e.t.cl, .i .u64 e.t.sq, .b e.t.pl, .fz e.t.rs.length (e.t.rs.flatMap rdC) k1, .fz e.t.ws.length (e.t.ws.flatMap wtC) k2, .i .i64 e.cl, .i .u64 e.sq, .i .i64 e.co]
def En.our (e : En) : En := { e with t := e.t.our }
theorem z6a (e : En) (k1 k2 : Option Nat) (hf : e.t.Wide) : PCalls prog q5n [.agg (e.cells k1 k2)] (.agg (e.our.cells none none)) := by
 refine K7 U4 qli (by simp) fun T => ?_
 have h := qyc e.t k1 k2 hf
 simp only [Tx.cells] at h
 unfold qd6
 simp -implicitDefEqProofs -dsimp only [go_sem, seval, En.cells, ↓J0 _ _ qbg]
 refine cpn h ?_
 simp -implicitDefEqProofs -dsimp only [go_sem, seval]
 exact J9 rfl
theorem z3q (e : En) (k1 k2 : Option Nat) (hf : e.t.Fine) : PCalls prog q4n [.agg (e.cells k1 k2)] (.agg (e.cells none none)) := by
 refine K7 U4 qjw (by simp) fun T => ?_
 have h := qsl e.t k1 k2 hf
 simp only [Tx.cells] at h
 unfold qc4
 simp -implicitDefEqProofs -dsimp only [go_sem, seval, En.cells, ↓J0 _ _ qai]
 refine cpn h ?_
 simp -implicitDefEqProofs -dsimp only [go_sem, seval]
 exact J9 rfl
def qz6 (t : Tx) : Bool := decide (t.cl = 0) && decide (t.sq = 0) && !t.pl && decide ((t.rs.length : Int) + t.ws.length = 0)
theorem zcm (t : Tx) (k1 k2 : Option Nat) (hf : t.Fine) : PCalls prog q9d [.agg (t.cells k1 k2)] (.b (qz6 t)) := by
 refine K7 U4 qqr (by simp) fun T => ?_
 have h1 := hf.r
 have h2 := hf.w
 have w1 : IntKind.i64.wrap ((t.rs.length : Int) + t.ws.length) = (t.rs.length : Int) + t.ws.length := q32 (by unfold I64; omega)
 unfold qh7
 simp -implicitDefEqProofs -dsimp only [go_sem, seval, Tx.cells, w1, Y7, N6, Bool.and_true]
 (first | (apply J2 <;> intro h_1 <;> simp -implicitDefEqProofs -dsimp only [go_sem, seval, w1, decide_true, decide_false, h_1]) | (have h_1 := trivial)) <;>
  (first | (apply J2 <;> intro h_2 <;> simp -implicitDefEqProofs -dsimp only [go_sem, seval, w1, decide_true, decide_false, h_1, h_2]) | (have h_2 := trivial)) <;>
  (first | (apply J2 <;> intro h_3 <;> simp -implicitDefEqProofs -dsimp only [go_sem, seval, w1, decide_true, decide_false, h_1, h_2, h_3]) | (have h_3 := trivial)) <;>
  (first | (apply J2 <;> intro h_4 <;> simp -implicitDefEqProofs -dsimp only [go_sem, seval, w1, decide_true, decide_false, h_1, h_2, h_3, h_4]) | (have h_4 := trivial))
 all_goals
  refine J9 ?_
  simp only [qz6, *, Bool.not_true, Bool.not_false, Bool.true_and, Bool.false_and, Bool.and_false, Bool.and_true]
def zb4 (c : Int) : Bool := decide (c = 0) || (decide (c = 8) || decide (c = 11))
def qfu (e : En) : Bool :=
 !decide (e.ep = 0) && (if decide (e.kd = 1) then qqt e.t && (decide (e.cl = 0) && decide (e.sq = 0)) && decide (e.co = 0)
  else decide (e.kd = 2) && (qz6 e.t && qhl e.cl e.sq && zb4 e.co))
theorem qfq (e : En) (k1 k2 : Option Nat) (hf : e.t.Fine) : PCalls prog q87 [.agg (e.cells k1 k2)] (.b (qfu e)) := by
 refine K7 U4 qvy (by simp) fun T => ?_
 have c1 := qmk e.t k1 k2 hf
 have c2 := zcm e.t k1 k2 hf
 simp only [Tx.cells] at c1 c2
 unfold qoe
 rcases h1 : decide (e.ep = 0) with _ | _
 case true =>
  simp -implicitDefEqProofs -dsimp only [go_sem, seval, En.cells, h1]
  exact J9 (by rw [qfu, h1]; rfl)
 rcases h2 : decide (e.kd = 1) with _ | _
 case true =>
  simp -implicitDefEqProofs -dsimp only [go_sem, seval, En.cells, h1, h2, ↓J0 _ _ Z6]
  refine cpn c1 ?_
  rcases h3 : qqt e.t with _ | _
  ·simp -implicitDefEqProofs -dsimp only [go_sem, seval, h3, decide_true, decide_false]
   exact J9 (by simp only [qfu, h1, h2, h3, if_true, Bool.false_and, Bool.and_false])
  rcases h4 : (decide (e.cl = 0) && decide (e.sq = 0)) with _ | _
  ·simp -implicitDefEqProofs -dsimp only [go_sem, seval, h3, h4, Y7, N6, Bool.and_true, decide_true, decide_false]
   exact J9 (by simp only [qfu, h1, h2, h3, h4, if_true, Bool.false_and, Bool.and_false, Bool.true_and])
  ·simp -implicitDefEqProofs -dsimp only [go_sem, seval, h3, h4, Y7, N6, Bool.and_true, decide_true, decide_false]
   exact J9 (by simp only [qfu, h1, h2, h3, h4, if_true, Bool.false_and, Bool.and_false, Bool.true_and, Bool.not_false])
 rcases h3 : decide (e.kd = 2) with _ | _
 ·simp -implicitDefEqProofs -dsimp only [go_sem, seval, En.cells, h1, h2, h3]
  exact J9 (by simp only [qfu, h1, h2, h3, Bool.false_eq_true, if_false, Bool.false_and, Bool.and_false])
 simp -implicitDefEqProofs -dsimp only [go_sem, seval, En.cells, h1, h2, h3, ↓J0 _ _ qqs]
 refine cpn c2 ?_
 rcases h4 : qz6 e.t with _ | _
 ·simp -implicitDefEqProofs -dsimp only [go_sem, seval, h4, decide_true, decide_false, ↓O8, G0, true_and]
  exact J9 (by simp only [qfu, h1, h2, h3, h4, Bool.false_eq_true, if_false, Bool.false_and, Bool.and_false, Bool.true_and])
 simp -implicitDefEqProofs -dsimp only [go_sem, seval, h4, decide_true, decide_false, ↓O8, G0, true_and, ↓J0 _ _ G7]
 refine cpn (q2q e.cl e.sq) ?_
 rcases h5 : qhl e.cl e.sq with _ | _
 ·simp -implicitDefEqProofs -dsimp only [go_sem, seval, h4, h5, decide_true, decide_false, ↓O8, G0, true_and]
  exact J9 (by simp only [qfu, h1, h2, h3, h4, h5, Bool.false_eq_true, if_false, Bool.false_and, Bool.and_false, Bool.true_and])
 rcases h6 : decide (e.co = 0) with _ | _
 ·rcases h7 : decide (e.co = 8) with _ | _
  all_goals
   simp -implicitDefEqProofs -dsimp only [go_sem, seval, h4, h5, h6, h7, decide_true, decide_false, ↓O8, G0, true_and]
   exact J9 (by simp only [qfu, zb4, h1, h2, h3, h4, h5, h6, h7, Bool.false_eq_true, if_false, Bool.false_and, Bool.and_false, Bool.true_and, Bool.false_or, Bool.true_or, Bool.not_false])
 ·simp -implicitDefEqProofs -dsimp only [go_sem, seval, h4, h5, h6, decide_true, decide_false, ↓O8, G0, true_and]
  exact J9 (by simp only [qfu, zb4, h1, h2, h3, h4, h5, h6, Bool.false_eq_true, if_false, Bool.false_and, Bool.and_false, Bool.true_and, Bool.false_or, Bool.true_or, Bool.not_false])
theorem z0o (e : En) (k1 k2 : Option Nat) (hf : e.t.Fine) (h01 : 0 <= e.t.sq) (h02 : 0 <= e.sq) : PCalls prog q4r [.agg (e.cells k1 k2)] (.b (qfu e)) := by
 refine K7 U4 qk6 (by simp) fun T => ?_
 have c1 := qqb e.t k1 k2 hf h01
 simp only [Tx.cells] at c1
 unfold qc9
 rcases h1 : decide (e.ep = 0) with _ | _
 case true =>
  simp -implicitDefEqProofs -dsimp only [go_sem, seval, En.cells, h1]
  exact J9 (by rw [qfu, h1]; rfl)
 rcases h2 : decide (e.kd = 1) with _ | _
 case true =>
  simp -implicitDefEqProofs -dsimp only [go_sem, seval, En.cells, h1, h2, ↓J0 _ _ qak]
  refine cpn c1 ?_
  rcases h3 : qqt e.t with _ | _
  ·simp -implicitDefEqProofs -dsimp only [go_sem, seval, h3, decide_true, decide_false]
   exact J9 (by simp only [qfu, h1, h2, h3, if_true, Bool.false_and, Bool.and_false])
  rcases h4 : (decide (e.cl = 0) && decide (e.sq = 0)) with _ | _
  ·simp -implicitDefEqProofs -dsimp only [go_sem, seval, h3, h4, Y7, N6, Bool.and_true, decide_true, decide_false]
   exact J9 (by simp only [qfu, h1, h2, h3, h4, if_true, Bool.false_and, Bool.and_false, Bool.true_and])
  ·simp -implicitDefEqProofs -dsimp only [go_sem, seval, h3, h4, Y7, N6, Bool.and_true, decide_true, decide_false]
   exact J9 (by simp only [qfu, h1, h2, h3, h4, if_true, Bool.false_and, Bool.and_false, Bool.true_and, Bool.not_false])
 have hno : ∀ b, qz6 e.t = b -> qz6 e.t = b := fun b h => h
 rcases h3 : decide (e.kd = 2) with _ | _
 ·simp -implicitDefEqProofs -dsimp only [go_sem, seval, En.cells, h1, h2, h3, decide_true, decide_false]
  exact J9 (by simp only [qfu, h1, h2, h3, Bool.false_eq_true, if_false, Bool.false_and, Bool.and_false])
 have hend : ∀ b, (qz6 e.t && qhl e.cl e.sq && zb4 e.co) = b -> qtj (.b b) (fun v T' => v = .b (qfu e) /\ T' = T) T := fun b h => J9 (by simp only [qfu, h1, h2, h3, h, Bool.false_eq_true, if_false, Bool.true_and, Bool.not_false])
 have n0 : decide ((e.t.rs.length : Int) + e.t.ws.length = 0) = (!decide (0 < (e.t.rs.length : Int)) && !decide (0 < (e.t.ws.length : Int))) := by
  by_cases a : e.t.rs.length = 0 <;> by_cases b : e.t.ws.length = 0
  ·rw [a, b]; rfl
  ·rw [decide_eq_false (by omega), decide_eq_true (p := (0 : Int) < (e.t.ws.length : Int)) (by omega)]; simp
  ·rw [decide_eq_false (by omega), decide_eq_true (p := (0 : Int) < (e.t.rs.length : Int)) (by omega)]; simp
  ·rw [decide_eq_false (by omega), decide_eq_true (p := (0 : Int) < (e.t.rs.length : Int)) (by omega)]; simp
 rcases h4 : (decide (e.t.cl = 0) && decide (e.t.sq = 0)) with _ | _
 ·simp -implicitDefEqProofs -dsimp only [go_sem, seval, En.cells, h1, h2, h3, h4, Y7, N6, Bool.and_true, decide_true, decide_false]
  exact hend false (by simp only [qz6, h4, Bool.false_and])
 rcases h5 : e.t.pl with _ | _
 case true =>
  simp -implicitDefEqProofs -dsimp only [go_sem, seval, En.cells, h1, h2, h3, h4, h5, Y7, N6, Bool.and_true, decide_true, decide_false]
  exact hend false (by simp only [qz6, h4, h5, Bool.false_and, Bool.true_and, Bool.not_true])
 rcases h6 : decide (0 < (e.t.rs.length : Int)) with _ | _
 case true =>
  simp -implicitDefEqProofs -dsimp only [go_sem, seval, En.cells, h1, h2, h3, h4, h5, h6, Y7, N6, Bool.and_true, decide_true, decide_false]
  exact hend false (by simp only [qz6, n0, h4, h5, h6, Bool.false_and, Bool.true_and, Bool.not_true, Bool.and_false])
 rcases h7 : decide (0 < (e.t.ws.length : Int)) with _ | _
 case true =>
  simp -implicitDefEqProofs -dsimp only [go_sem, seval, En.cells, h1, h2, h3, h4, h5, h6, h7, Y7, N6, Bool.and_true, decide_true, decide_false]
  exact hend false (by simp only [qz6, n0, h4, h5, h6, h7, Bool.false_and, Bool.true_and, Bool.not_true, Bool.and_false])
 simp -implicitDefEqProofs -dsimp only [go_sem, seval, En.cells, h1, h2, h3, h4, h5, h6, h7, Y7, N6, Bool.and_true, decide_true, decide_false, ↓O8, G0, true_and, ↓J0 _ _ O3]
 refine cpn (qml e.cl e.sq h02) ?_
 have h8 : qz6 e.t = true := by simp only [qz6, n0, h4, h5, h6, h7, Bool.false_and, Bool.true_and, Bool.not_true, Bool.not_false, Bool.and_false]
 rcases h9 : qhl e.cl e.sq with _ | _
 ·simp -implicitDefEqProofs -dsimp only [go_sem, seval, h9, decide_true, decide_false, ↓O8, G0, true_and]
  exact hend false (by simp only [h8, h9, Bool.false_and, Bool.and_false, Bool.true_and])
 rcases h10 : decide (e.co = 0) with _ | _
 ·rcases h11 : decide (e.co = 8) with _ | _
  all_goals
   simp -implicitDefEqProofs -dsimp only [go_sem, seval, h9, h10, h11, decide_true, decide_false, ↓O8, G0, true_and]
   exact hend _ (by simp only [zb4, h8, h9, h10, h11, Bool.false_and, Bool.and_false, Bool.true_and, Bool.false_or, Bool.true_or])
 ·simp -implicitDefEqProofs -dsimp only [go_sem, seval, h9, h10, decide_true, decide_false, ↓O8, G0, true_and]
  exact hend _ (by simp only [zb4, h8, h9, h10, Bool.false_and, Bool.and_false, Bool.true_and, Bool.false_or, Bool.true_or])
theorem z2b (b : List UInt8) (c : Option Nat) (cl sq : Nat) (hb : b.length <= 1000000) (hc : cl < 9223372036854775808) (hs : sq < 18446744073709551616) : PCalls prog qac [bts b c, .agg [.i .i64 cl, .i .u64 sq]] (bts (b ++ enc cl ++ enc sq) none) := by
 refine K7 U4 qvu (by simp) fun T => ?_
 unfold qo2
 have h1 := K6 (m := cl) (by omega)
 have c1 := q0h b c cl (by omega) (by omega)
 have c2 := q0h (b ++ enc cl) none sq (by rw [List.length_append]; omega) hs
 simp only [bts] at c1 c2
 simp -implicitDefEqProofs -dsimp only [go_sem, seval, bts, q0r (n := cl) (by omega), ↓J0 _ _ U2]
 refine cpn c1 ?_
 simp -implicitDefEqProofs -dsimp only [go_sem, seval, ↓J0 _ _ U2]
 refine cpn c2 ?_
 simp -implicitDefEqProofs -dsimp only [go_sem, seval]
 exact J9 rfl
end Go.Aw
namespace Go.Aw
open Go
open Go.Proofs.Tryz (prog)
set_option linter.all false
set_option maxHeartbeats 4000000
theorem z97 {R : Y5} (hR : ExtR R) {T : Tab} {xs : List Rd} {c1 c2 : Option Nat} {a1 a2 a3 a4 b1 b2 b3 b4 : AV} (hl : xs.length < 1000000000) : ∀ (ys : List Rd) (k : Nat), xs.drop k = ys -> k <= xs.length ->
  (R (.exit 0) [(2, .lp 2 0), (3, .lp 3 0), (39, .i .i64 xs.length), (40, .i .i64 xs.length), (41, .b false)] [(2, [a1, a2, a3, .fz xs.length (xs.flatMap rdC) c1, a4]), (3, [b1, b2, b3, .fz xs.length (xs.flatMap rdC) c2, b4])] T) ->
  AW prog q5x R [(2, .lp 2 0), (3, .lp 3 0), (39, .i .i64 xs.length), (40, .i .i64 k)] [(2, [a1, a2, a3, .fz xs.length (xs.flatMap rdC) c1, a4]), (3, [b1, b2, b3, .fz xs.length (xs.flatMap rdC) c2, b4])] T := by
 intro ys
 induction ys with
 | nil =>
  intro k hk hle h2
  have hk' := Q2 hk hle
  refine Q1 hR ?_
  unfold q2k
  simp -implicitDefEqProofs -dsimp only [go_sem, seval, hk', Int.lt_irrefl]
  rw [hk'] at h2
  exact h2
 | cons y ys ih =>
  intro k hk hle h2
  obtain ⟨hlt, hy, hk'⟩ := U1 hk
  have hc := Y6 q83 hy
  have hc5 : k * 2 + 2 <= (xs.flatMap rdC).length := by rw [N5 q83]; omega
  refine N8 (l := q5x) rfl hR ?_
  unfold q2k
  simp -implicitDefEqProofs -dsimp only [go_sem, seval, Int.ofNat_lt, hlt, Int.natCast_nonneg, Int.toNat_natCast, hc, hc5, rdC, List.cons_append, List.nil_append, Y7, N6, decide_true, Bool.and_true]
  rw [N3 (by omega)]
  exact ih (k + 1) hk' hlt h2
theorem z98 {R : Y5} (hR : ExtR R) {T : Tab} {xs : List Wt} {c1 c2 : Option Nat} {a1 a2 a3 a4 b1 b2 b3 b4 : AV} (hl : xs.length < 1000000000) : ∀ (ys : List Wt) (k : Nat), xs.drop k = ys -> k <= xs.length ->
  (R (.exit 2) [(2, .lp 2 0), (3, .lp 3 0), (57, .i .i64 xs.length), (58, .i .i64 xs.length), (59, .b false)] [(2, [a1, a2, a3, a4, .fz xs.length (xs.flatMap wtC) c1]), (3, [b1, b2, b3, b4, .fz xs.length (xs.flatMap wtC) c2])] T) ->
  AW prog q5y R [(2, .lp 2 0), (3, .lp 3 0), (57, .i .i64 xs.length), (58, .i .i64 k)] [(2, [a1, a2, a3, a4, .fz xs.length (xs.flatMap wtC) c1]), (3, [b1, b2, b3, b4, .fz xs.length (xs.flatMap wtC) c2])] T := by
 intro ys
 induction ys with
 | nil =>
  intro k hk hle h2
  have hk' := Q2 hk hle
  refine Q1 hR ?_
  unfold q2l
  simp -implicitDefEqProofs -dsimp only [go_sem, seval, hk', Int.lt_irrefl]
  rw [hk'] at h2
  exact h2
 | cons y ys ih =>
  intro k hk hle h2
  obtain ⟨hlt, hy, hk'⟩ := U1 hk
  have hc := Y6 q67 hy
  have hc5 : k * 3 + 3 <= (xs.flatMap wtC).length := by rw [N5 q67]; omega
  have hbb : ∀ b : Bool, (b == b) = true := fun b => by cases b <;> rfl
  refine N8 (l := q5y) rfl hR ?_
  unfold q2l
  simp -implicitDefEqProofs -dsimp only [go_sem, seval, Int.ofNat_lt, hlt, Int.natCast_nonneg, Int.toNat_natCast, hc, hc5, wtC, List.cons_append, List.nil_append, Y7, N6, decide_true, Bool.and_true, hbb]
  rw [N3 (by omega)]
  exact ih (k + 1) hk' hlt h2
theorem qim (t : Tx) (k1 k2 k3 k4 : Option Nat) (hf : t.Fine) : PCalls prog q0f [.agg (t.cells k1 k2), .agg (t.cells k3 k4)] (.b true) := by
 refine K7 U4 qb1 (by simp) fun T => ?_
 have hbb : ∀ b : Bool, (b == b) = true := fun b => by cases b <;> rfl
 unfold q6u
 simp -implicitDefEqProofs -dsimp only [go_sem, seval, Tx.cells, Y7, N6, decide_true, decide_false, Bool.and_true, hbb, ↓O8, G0]
 refine z97 (T := T) (by repeat' (first | exact N2 _ _ | assumption | apply N1 | apply K8 | apply Q6)) hf.r t.rs 0 rfl (by omega) ?_
 simp -implicitDefEqProofs -dsimp only [go_sem, seval]
 refine z98 (T := T) (by repeat' (first | exact N2 _ _ | assumption | apply N1 | apply K8 | apply Q6)) hf.w t.ws 0 rfl (by omega) ?_
 simp -implicitDefEqProofs -dsimp only [go_sem, seval]
 exact J9 rfl
end Go.Aw
