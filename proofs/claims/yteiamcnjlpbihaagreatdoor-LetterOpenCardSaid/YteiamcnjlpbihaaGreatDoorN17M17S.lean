import Derived.Test.YteiamcnjlpbihaaGreatDoorN17M17P
namespace Go.Aw
open Go
open Go.Proofs.Tryz (prog)
set_option linter.all false
set_option maxHeartbeats 8000000
set_option maxRecDepth 8000
section
variable (l : Lt Cf)
theorem qw4 : enS l 115 = enc l.sh.toNat := by simp only [enS, Int.reduceEq, if_true, if_false]
theorem qw5 : enS l 101 = enc l.ep.toNat := by simp only [enS, Int.reduceEq, if_true, if_false]
theorem qw6 : enS l 110 = enc l.n.toNat := by simp only [enS, Int.reduceEq, if_true, if_false]
theorem qw7 : enS l 109 = enc l.m.toNat := by simp only [enS, Int.reduceEq, if_true, if_false]
theorem qw8 : enS l 111 = enc l.nd.toNat := by simp only [enS, Int.reduceEq, if_true, if_false]
theorem qw9 : enS l 102 = enc (if l.fl = true then 1 else 0) := by simp only [enS, Int.reduceEq, if_true, if_false]
theorem z25 : enS l 98 = enc l.br.toNat ++ enc l.bn.toNat := by simp only [enS, Int.reduceEq, if_true, if_false]
theorem z14 : enS l 118 = enc l.vs.length ++ l.vs.flatMap qz4 := by simp only [enS, Int.reduceEq, if_true, if_false]
theorem z77 : enS l 99 = enc l.cs.length ++ l.cs.flatMap zhp := by simp only [enS, Int.reduceEq, if_true, if_false]
theorem z15 : enS l 108 = enc l.es.length ++ l.es.flatMap z13 := by simp only [enS, Int.reduceEq, if_true, if_false]
theorem qwa : enS l 120 = qay l.t := by simp only [enS, Int.reduceEq, if_true, if_false]
theorem qwb : enS l 105 = enc l.cl.toNat ++ enc l.sq.toNat := by simp only [enS, Int.reduceEq, if_true, if_false]
theorem qwc : enS l 116 = q76 l.v := by simp only [enS, Int.reduceEq, if_true, if_false]
theorem qwd : enS l 113 = enc l.q.toNat := by simp only [enS, Int.reduceEq, if_true, if_false]
theorem qwe : enS l 114 = enc l.co.toNat := by simp only [enS, Int.reduceEq, if_true, if_false]
end
theorem zd8 (l : Lt Cf) (b : Bs) (c : Option Nat) (s : Int) (hb : b.length <= 90000) (hr : l.Rng) (ht : l.t.Fine) (hs : s = 115 \/ s = 101 \/ s = 110 \/ s = 109 \/ s = 111 \/ s = 102 \/ s = 98 \/ s = 118 \/ s = 99 \/ s = 108 \/ s = 120 \/ s = 105 \/ s = 116 \/ s = 113 \/ s = 114) (hm : maF l s = true) :
  PCalls prog q5o [.agg l.cc, bts b c, .i .u8 s] (bts (b ++ enS l s) none) := by
 refine K7 U3 ql9 (by simp) fun T => ?_
 unfold qcu
 rcases hs with rfl | rfl | rfl | rfl | rfl | rfl | rfl | rfl | rfl | rfl | rfl | rfl | rfl | rfl | rfl
 ·have h : (decide (0 <= l.sh) && decide (l.sh < 4)) = true := hm
  simp only [qap, qh1, qj0, Bool.and_eq_true, decide_eq_true_eq] at h
  have hw : IntKind.u64.wrap l.sh = l.sh := IntWalk.u64_in _ (by omega)
  have pc := q0h b c l.sh.toNat (by omega) (by omega)
  rw [Int.toNat_of_nonneg (by omega)] at pc
  simp -implicitDefEqProofs -dsimp only [go_sem, seval, decide_true, decide_false, hw, ↓J0 _ _ U1]
  refine cpn pc ?_
  simp -implicitDefEqProofs -dsimp only [go_sem, seval]
  exact J9 (by rw [qw4])
 ·have h := hr.ep
  have pc := q0h b c l.ep.toNat (by omega) (by omega)
  rw [Int.toNat_of_nonneg (by omega)] at pc
  simp -implicitDefEqProofs -dsimp only [go_sem, seval, decide_true, decide_false, ↓J0 _ _ U1]
  refine cpn pc ?_
  simp -implicitDefEqProofs -dsimp only [go_sem, seval]
  exact J9 (by rw [qw5])
 ·have h : qap l.n = true := hm
  simp only [qap, qh1, qj0, Bool.and_eq_true, decide_eq_true_eq] at h
  have hw : IntKind.u64.wrap l.n = l.n := IntWalk.u64_in _ (by omega)
  have pc := q0h b c l.n.toNat (by omega) (by omega)
  rw [Int.toNat_of_nonneg (by omega)] at pc
  simp -implicitDefEqProofs -dsimp only [go_sem, seval, decide_true, decide_false, hw, ↓J0 _ _ U1]
  refine cpn pc ?_
  simp -implicitDefEqProofs -dsimp only [go_sem, seval]
  exact J9 (by rw [qw6])
 ·have h : qap l.m = true := hm
  simp only [qap, qh1, qj0, Bool.and_eq_true, decide_eq_true_eq] at h
  have hw : IntKind.u64.wrap l.m = l.m := IntWalk.u64_in _ (by omega)
  have pc := q0h b c l.m.toNat (by omega) (by omega)
  rw [Int.toNat_of_nonneg (by omega)] at pc
  simp -implicitDefEqProofs -dsimp only [go_sem, seval, decide_true, decide_false, hw, ↓J0 _ _ U1]
  refine cpn pc ?_
  simp -implicitDefEqProofs -dsimp only [go_sem, seval]
  exact J9 (by rw [qw7])
 ·have h : (decide (0 <= l.nd) && decide (l.nd < 8)) = true := hm
  simp only [qap, qh1, qj0, Bool.and_eq_true, decide_eq_true_eq] at h
  have hw : IntKind.u64.wrap l.nd = l.nd := IntWalk.u64_in _ (by omega)
  have pc := q0h b c l.nd.toNat (by omega) (by omega)
  rw [Int.toNat_of_nonneg (by omega)] at pc
  simp -implicitDefEqProofs -dsimp only [go_sem, seval, decide_true, decide_false, hw, ↓J0 _ _ U1]
  refine cpn pc ?_
  simp -implicitDefEqProofs -dsimp only [go_sem, seval]
  exact J9 (by rw [qw8])
 ·have e : (if l.fl = true then (1 : Nat) else 0) < 18446744073709551616 := by split <;> omega
  simp -implicitDefEqProofs -dsimp only [go_sem, seval, decide_true, decide_false, ↓J0 _ _ qvj]
  refine cpn (z9u l.fl) ?_
  generalize hg : (if l.fl = true then (1 : Nat) else 0) = g at *
  simp -implicitDefEqProofs -dsimp only [go_sem, seval, ↓J0 _ _ U1]
  refine cpn (q0h b c g (by omega) e) ?_
  simp -implicitDefEqProofs -dsimp only [go_sem, seval]
  exact J9 (by rw [qw9, hg])
 ·have h : qh1 l.bn = true := hm
  have h2 := hr.br
  have pc := z76 b c l.br.toNat l.bn (by omega) (by omega) h
  rw [Int.toNat_of_nonneg (by omega)] at pc
  simp -implicitDefEqProofs -dsimp only [go_sem, seval, decide_true, decide_false, ↓J0 _ _ qpb]
  refine cpn pc ?_
  simp -implicitDefEqProofs -dsimp only [go_sem, seval]
  exact J9 (by rw [z25])
 ·have pc := qov l b c 118 hb hr (.inl ⟨rfl, hm⟩)
  simp -implicitDefEqProofs -dsimp only [go_sem, seval, decide_true, decide_false, ↓J0 _ _ q5x]
  refine cpn pc ?_
  simp -implicitDefEqProofs -dsimp only [go_sem, seval]
  exact J9 rfl
 ·have pc := qov l b c 99 hb hr (.inr (.inl ⟨rfl, hm⟩))
  simp -implicitDefEqProofs -dsimp only [go_sem, seval, decide_true, decide_false, ↓J0 _ _ q5x]
  refine cpn pc ?_
  simp -implicitDefEqProofs -dsimp only [go_sem, seval]
  exact J9 rfl
 ·have pc := qov l b c 108 hb hr (.inr (.inr ⟨rfl, hm⟩))
  simp -implicitDefEqProofs -dsimp only [go_sem, seval, decide_true, decide_false, ↓J0 _ _ q5x]
  refine cpn pc ?_
  simp -implicitDefEqProofs -dsimp only [go_sem, seval]
  exact J9 rfl
 ·have h : qqi l.t = true := hm
  have pc := qyk l.t none none b c (qj6 h hr.tsq hr.tr) (by omega)
  simp -implicitDefEqProofs -dsimp only [go_sem, seval, U0, decide_true, decide_false, ↓J0 _ _ qf8]
  refine cpn pc ?_
  simp -implicitDefEqProofs -dsimp only [go_sem, seval]
  exact J9 (by rw [qwa])
 ·have h : qj0 l.cl l.sq = true := hm
  simp only [qj0, Bool.and_eq_true, decide_eq_true_eq] at h
  have h2 := hr.sq
  have l1 := K5 (m := l.cl.toNat) (by omega)
  have hw : IntKind.u64.wrap l.cl = l.cl := IntWalk.u64_in _ (by omega)
  have pc := q0h b c l.cl.toNat (by omega) (by omega)
  rw [Int.toNat_of_nonneg (by omega)] at pc
  have pc2 := q0h (b ++ enc l.cl.toNat) none l.sq.toNat (by simp; omega) (by omega)
  rw [Int.toNat_of_nonneg (a := l.sq) (by omega)] at pc2
  have hcl : (l.cells cfC)[21]? = some (.i .i64 l.cl) := rfl
  have hsq : (l.cells cfC)[22]? = some (.i .u64 l.sq) := rfl
  simp -implicitDefEqProofs -dsimp only [go_sem, seval, hcl, hsq, decide_true, decide_false, hw, ↓J0 _ _ U1]
  refine cpn pc ?_
  simp -implicitDefEqProofs -dsimp only [go_sem, seval, ↓J0 _ _ U1]
  refine cpn pc2 ?_
  simp -implicitDefEqProofs -dsimp only [go_sem, seval]
  exact J9 (by rw [qwb, List.append_assoc])
 ·have h : decide ((l.v.length : Int) <= 64) = true := hm
  have h := of_decide_eq_true h
  simp -implicitDefEqProofs -dsimp only [go_sem, seval, decide_true, decide_false, ↓J0 _ _ q9j]
  refine cpn (qj2 b c l.v (by omega) (by omega)) ?_
  simp -implicitDefEqProofs -dsimp only [go_sem, seval]
  exact J9 (by rw [qwc])
 ·have h := hr.q
  have pc := q0h b c l.q.toNat (by omega) (by omega)
  rw [Int.toNat_of_nonneg (by omega)] at pc
  simp -implicitDefEqProofs -dsimp only [go_sem, seval, decide_true, decide_false, ↓J0 _ _ U1]
  refine cpn pc ?_
  simp -implicitDefEqProofs -dsimp only [go_sem, seval]
  exact J9 (by rw [qwd])
 ·have h : (decide (0 <= l.co) && decide (l.co <= 99)) = true := hm
  simp only [qap, qh1, qj0, Bool.and_eq_true, decide_eq_true_eq] at h
  have hw : IntKind.u64.wrap l.co = l.co := IntWalk.u64_in _ (by omega)
  have pc := q0h b c l.co.toNat (by omega) (by omega)
  rw [Int.toNat_of_nonneg (by omega)] at pc
  simp -implicitDefEqProofs -dsimp only [go_sem, seval, decide_true, decide_false, hw, ↓J0 _ _ U1]
  refine cpn pc ?_
  simp -implicitDefEqProofs -dsimp only [go_sem, seval]
  exact J9 (by rw [qwe])
end Go.Aw
namespace Go.Aw
open Go
open Go.Proofs.Tryz (prog)
set_option linter.all false
set_option maxHeartbeats 8000000
set_option maxRecDepth 8000
def wS (s : Int) : Nat := if s = 118 then 41700 else if s = 108 then 17000 else 2010
theorem z26 {v : Vt} (h : VtG v) : (qz4 v).length <= 104 := by
 obtain ⟨q1, q2, q3, q4⟩ := h
 have l1 := K5 (m := v.sl.toNat) (by omega)
 have l2 := K5 (m := v.rd.toNat) (by omega)
 have l3 := K5 (m := v.nd.toNat) (by have := q3; simp only [qh1, Bool.and_eq_true, decide_eq_true_eq] at this; omega)
 have l4 := K5 (m := v.v.length) (by omega)
 simp only [qz4, q76, List.length_append]; omega
theorem z78 {l : Lt Cf} (hr : l.Rng) (s : Int) (hs : s = 115 \/ s = 101 \/ s = 110 \/ s = 109 \/ s = 111 \/ s = 102 \/ s = 98 \/ s = 118 \/ s = 99 \/ s = 108 \/ s = 120 \/ s = 105 \/ s = 116 \/ s = 113 \/ s = 114) (hm : maF l s = true) : (enS l s).length <= wS s := by
 obtain ⟨r1, r2, r3, r4, r5, r6, r7, r8, r9⟩ := id hr
 rcases hs with rfl | rfl | rfl | rfl | rfl | rfl | rfl | rfl | rfl | rfl | rfl | rfl | rfl | rfl | rfl
 ·have h : (decide (0 <= l.sh) && decide (l.sh < 4)) = true := hm
  simp only [Bool.and_eq_true, decide_eq_true_eq] at h
  have := K5 (m := l.sh.toNat) (by omega)
  rw [qw4]; show _ <= 2010; omega
 ·have := K5 (m := l.ep.toNat) (by omega)
  rw [qw5]; show _ <= 2010; omega
 ·have h : qap l.n = true := hm
  simp only [qap, Bool.and_eq_true, decide_eq_true_eq] at h
  have := K5 (m := l.n.toNat) (by omega)
  rw [qw6]; show _ <= 2010; omega
 ·have h : qap l.m = true := hm
  simp only [qap, Bool.and_eq_true, decide_eq_true_eq] at h
  have := K5 (m := l.m.toNat) (by omega)
  rw [qw7]; show _ <= 2010; omega
 ·have h : (decide (0 <= l.nd) && decide (l.nd < 8)) = true := hm
  simp only [Bool.and_eq_true, decide_eq_true_eq] at h
  have := K5 (m := l.nd.toNat) (by omega)
  rw [qw8]; show _ <= 2010; omega
 ·have := K5 (m := if l.fl = true then 1 else 0) (by split <;> omega)
  rw [qw9]; show _ <= 2010; omega
 ·have h : qh1 l.bn = true := hm
  simp only [qh1, Bool.and_eq_true, decide_eq_true_eq] at h
  have l1 := K5 (m := l.br.toNat) (by omega)
  have l2 := K5 (m := l.bn.toNat) (by omega)
  rw [z25, List.length_append]; show _ <= 2010; omega
 ·obtain ⟨h1, h2⟩ := z22 (show q9p l.vs = true from hm) hr
  have l1 := K5 (m := l.vs.length) (by omega)
  have l2 := q2x (g := qz4) l.vs (m := 104) fun v hv => z26 (h2 v hv)
  rw [z14, List.length_append]; show _ <= 41700; omega
 ·obtain ⟨h1, h2⟩ := z23 (show q9q l.cs = true from hm) hr
  have l1 := K5 (m := l.cs.length) (by omega)
  have l2 := q2x (g := zhp) l.cs (m := 130) fun v hv => qsd (Cf.ok_of (h2 v hv).1 (h2 v hv).2.1)
  rw [z77, List.length_append]; show _ <= 2010; omega
 ·obtain ⟨h1, h2⟩ := z24 (show q9r l.es = true from hm) hr
  have l1 := K5 (m := l.es.length) (by omega)
  have l2 := q2x (g := z13) l.es (m := 2040) fun v hv => by
   have q := qo4 (En.good_of (h2 v hv).1 (h2 v hv).2.2)
   have q2 := K5 (m := (qaq v).length) (by omega)
   simp only [z13, q76, List.length_append]; omega
  rw [z15, List.length_append]; show _ <= 17000; omega
 ·have h := qij (qj6 (show qqi l.t = true from hm) r5 r6)
  rw [qwa]; show _ <= 2010; omega
 ·have h : qj0 l.cl l.sq = true := hm
  simp only [qj0, Bool.and_eq_true, decide_eq_true_eq] at h
  have l1 := K5 (m := l.cl.toNat) (by omega)
  have l2 := K5 (m := l.sq.toNat) (by omega)
  rw [qwb, List.length_append]; show _ <= 2010; omega
 ·have h : decide ((l.v.length : Int) <= 64) = true := hm
  have h := of_decide_eq_true h
  have l1 := K5 (m := l.v.length) (by omega)
  rw [qwc, q76, List.length_append]; show _ <= 2010; omega
 ·have := K5 (m := l.q.toNat) (by omega)
  rw [qwd]; show _ <= 2010; omega
 ·have h : (decide (0 <= l.co) && decide (l.co <= 99)) = true := hm
  simp only [Bool.and_eq_true, decide_eq_true_eq] at h
  have := K5 (m := l.co.toNat) (by omega)
  rw [qwe]; show _ <= 2010; omega
def sgB (s : UInt8) : Bool := [115, 101, 110, 109, 111, 102, 98, 118, 99, 108, 120, 105, 116, 113, 114].contains s
theorem z27 : ∀ s : UInt8, sgB s = true -> ((s.toNat : Int) = 115 \/ (s.toNat : Int) = 101 \/ (s.toNat : Int) = 110 \/ (s.toNat : Int) = 109 \/ (s.toNat : Int) = 111 \/ (s.toNat : Int) = 102 \/ (s.toNat : Int) = 98 \/ (s.toNat : Int) = 118 \/ (s.toNat : Int) = 99 \/ (s.toNat : Int) = 108 \/ (s.toNat : Int) = 120 \/ (s.toNat : Int) = 105 \/ (s.toNat : Int) = 116 \/ (s.toNat : Int) = 113 \/ (s.toNat : Int) = 114) := by
 intro s h
 simp only [sgB, List.contains_eq_mem, List.mem_cons, List.not_mem_nil, or_false, decide_eq_true_eq] at h
 rcases h with rfl | rfl | rfl | rfl | rfl | rfl | rfl | rfl | rfl | rfl | rfl | rfl | rfl | rfl | rfl <;> simp
theorem qil (k : Int) : (q6c k).all sgB = true /\ ((q6c k).map fun s => wS s.toNat).sum <= 60000 := by
 rcases kinds k with (rfl | rfl | rfl | rfl | rfl | rfl | rfl | rfl | rfl | rfl | rfl | rfl | rfl | rfl | rfl | rfl | rfl | rfl | rfl | rfl | rfl) | h
 any_goals (decide +kernel)
 rw [z67 h]
 decide
def qhe (l : Lt Cf) : Bs := enc l.fk.toNat ++ enc l.fn.toNat ++ enc l.tk.toNat ++ enc l.tn.toNat ++ enc l.k.toNat ++ (q6c l.k).flatMap fun s => enS l s.toNat
theorem zd9 {R : Z1} (hR : ExtR R) {T : Tab} {l : Lt Cf} {bs : Bs} (hl : Len bs.length) (hr : l.Rng) (ht : l.t.Fine) : ∀ (us : Bs) (k : Nat), bs.drop k = us -> k <= bs.length -> us.all sgB = true -> (us.all fun s => maF l s.toNat) = true -> ∀ (b : Bs) (c : Option Nat), b.length + (us.map fun s => wS s.toNat).sum <= 65000 ->
  ((b ++ us.flatMap fun s => enS l s.toNat).length <= 65000 -> ∀ c, R (.exit 2) [(1, .lp 1 0), (4, .s bs), (6, bts (b ++ us.flatMap fun s => enS l s.toNat) c), (45, .i .i64 bs.length), (46, .i .i64 bs.length), (47, .b false)] [(1, l.cells cfC)] T) ->
  AW prog qfy R [(1, .lp 1 0), (4, .s bs), (6, bts b c), (45, .i .i64 bs.length), (46, .i .i64 k)] [(1, l.cells cfC)] T := by
 intro us
 induction us with
 | nil =>
  intro k hk hle _ _ b c hb h2
  have hk' := Q7 hk hle
  refine Q5 hR ?_
  unfold qeb
  simp -implicitDefEqProofs -dsimp only [go_sem, seval, hk', Int.lt_irrefl]
  rw [hk', List.flatMap_nil, List.append_nil] at h2
  simp only [List.map_nil, List.sum_nil, Nat.add_zero] at hb
  exact h2 hb c
 | cons y us ih =>
  intro k hk hle ha hma b c hb h2
  obtain ⟨hlt, hy, hk'⟩ := U6 hk
  unfold Len at hl
  have hs : IntKind.i64.wrap ((k : Int) + 1) = ((k + 1 : Nat) : Int) := N4 (by omega)
  simp only [List.all_cons, Bool.and_eq_true] at ha hma
  simp only [List.map_cons, List.sum_cons] at hb
  have hle2 := z78 hr y.toNat (z27 y ha.1) hma.1
  have pc := zd8 l b c y.toNat (by omega) hr ht (z27 y ha.1) hma.1
  rw [List.flatMap_cons, <- List.append_assoc] at h2
  refine O0 (l := qfy) rfl hR ?_
  unfold qeb
  simp -implicitDefEqProofs -dsimp only [go_sem, seval, Int.ofNat_lt, hlt, Int.natCast_nonneg, Int.toNat_natCast, hy, ↓J0 _ _ qla]
  refine cpn pc ?_
  simp -implicitDefEqProofs -dsimp only [go_sem, seval, hs]
  exact ih (k + 1) hk' hlt ha.2 hma.2 (b ++ enS l y.toNat) none (by rw [List.length_append]; omega) h2
end Go.Aw
namespace Go.Aw
open Go
open Go.Proofs.Tryz (prog)
set_option linter.all false
set_option maxHeartbeats 8000000
set_option maxRecDepth 8000
def qqd (l : List Int) : Bs := l.flatMap fun n => enc n.toNat
theorem zda {R : Z1} (hR : ExtR R) {T : Tab} {lc : List AV} {sg : AV} (hsg : sg.plain = true /\ sg.isOne = true /\ (∀ k, sg.offLp k = sg)) {xs : List Int} {q : Option Nat} (hl : xs.length <= 10) (hx : ∀ x ∈ xs, 0 <= x /\ x < 1000) : ∀ (us : List Int) (k : Nat), xs.drop k = us -> k <= xs.length -> ∀ (b : Bs) (c : Option Nat), b.length <= 100 + 10 * k ->
  (∀ c, R (.exit 0) [(1, .lp 1 0), (4, sg), (6, bts (b ++ qqd us) c), (33, .fz xs.length (qfq xs) q), (34, .i .i64 xs.length), (35, .i .i64 xs.length), (36, .b false)] [(1, lc)] T) ->
  AW prog qfx R [(1, .lp 1 0), (4, sg), (6, bts b c), (33, .fz xs.length (qfq xs) q), (34, .i .i64 xs.length), (35, .i .i64 k)] [(1, lc)] T := by
 obtain ⟨s1, s2, s3⟩ := hsg
 intro us
 induction us with
 | nil =>
  intro k hk hle b c hb h2
  have hk' := Q7 hk hle
  refine Q5 hR ?_
  unfold qea
  simp -implicitDefEqProofs -dsimp only [go_sem, seval, hk', Int.lt_irrefl, s1, s2, s3]
  rw [hk', qqd, List.flatMap_nil, List.append_nil] at h2
  exact h2 c
 | cons y us ih =>
  intro k hk hle b c hb h2
  obtain ⟨hlt, hy, hk'⟩ := U6 hk
  have hs : IntKind.i64.wrap ((k : Int) + 1) = ((k + 1 : Nat) : Int) := N4 (by omega)
  have hy1 := hx y (List.mem_of_getElem? hy)
  have l1 := K5 (m := y.toNat) (by omega)
  have hw : IntKind.u64.wrap y = y := IntWalk.u64_in _ (by omega)
  have pc := q0h b c y.toNat (by omega) (by omega)
  rw [Int.toNat_of_nonneg (by omega)] at pc
  have ea := qof xs k
  rw [hy] at ea
  simp only [Option.map_some] at ea
  rw [qqd, List.flatMap_cons, <- List.append_assoc] at h2
  refine O0 (l := qfx) rfl hR ?_
  unfold qea
  simp -implicitDefEqProofs -dsimp only [go_sem, seval, Int.ofNat_lt, hlt, Int.natCast_nonneg, Int.toNat_natCast, ea, hw, s1, s2, s3, ↓J0 _ _ U1]
  refine cpn pc ?_
  simp -implicitDefEqProofs -dsimp only [go_sem, seval, hs, s1, s2, s3]
  exact ih (k + 1) hk' hlt (b ++ enc y.toNat) none (by rw [List.length_append]; omega) h2
theorem qul {k n : Int} (h : z3d k n = true) : (0 <= k /\ k < 1000) /\ (0 <= n /\ n < 1000) := by
 simp only [z3d, Bool.and_eq_true, decide_eq_true_eq] at h
 unfold z8v at h
 by_cases e1 : k = 1
 ·rw [if_pos e1] at h; omega
 by_cases e2 : k = 2
 ·rw [if_neg e1, if_pos e2] at h; omega
 by_cases e3 : k = 3
 ·rw [if_neg e1, if_neg e2, if_pos e3] at h; omega
 ·rw [if_neg e1, if_neg e2, if_neg e3] at h; omega
theorem zdb (n : Nat) : 1 <= (enc n).length := by
 by_cases h : n < 128
 ·rw [q06 h]; exact Nat.le_refl _
 ·rw [qog h]; simp
def zdc (l : Lt Cf) : AV := if lrF l = true then .tup [bts (frm (qhe l)) none, .i .i64 0] else .tup [.fz 0 [] (some 0), .i .i64 1]
theorem qj7 {l : Lt Cf} (h : lrF l = true) : qd9 l.k = true /\ z3d l.fk l.fn = true /\ z3d l.tk l.tn = true /\ ltE l (baF l l.bare0 (q6c l.k)) = true /\ ((q6c l.k).all fun s => maF l s.toNat) = true := by
 simp only [lrF, Bool.and_eq_true] at h
 exact ⟨h.1.1.1.1, h.1.1.1.2, h.1.1.2, h.1.2, h.2⟩
theorem qo5 {l : Lt Cf} (hr : l.Rng) (h : lrF l = true) : 1 <= (qhe l).length /\ (qhe l).length <= 65060 := by
 obtain ⟨h1, h2, h3, h4, h5⟩ := qj7 h
 have a1 := qul h2
 have a2 := qul h3
 have hk := h1
 simp only [qd9, decide_eq_true_eq] at hk
 have l1 := K5 (m := l.fk.toNat) (by omega)
 have l2 := K5 (m := l.fn.toNat) (by omega)
 have l3 := K5 (m := l.tk.toNat) (by omega)
 have l4 := K5 (m := l.tn.toNat) (by omega)
 have l5 := K5 (m := l.k.toNat) (by omega)
 have p := zdb l.fk.toNat
 have key : ∀ us : Bs, us.all sgB = true -> (us.all fun s => maF l s.toNat) = true -> (us.flatMap fun s => enS l s.toNat).length <= (us.map fun s => wS s.toNat).sum := by
  intro us
  induction us with
  | nil => intros; exact Nat.le_refl _
  | cons y us ih =>
   intro ha hma
   simp only [List.all_cons, Bool.and_eq_true] at ha hma
   have e1 := z78 hr y.toNat (z27 y ha.1) hma.1
   have e2 := ih ha.2 hma.2
   simp only [List.flatMap_cons, List.length_append, List.map_cons, List.sum_cons]; omega
 have s1 := (qil l.k).1
 have s2 := (qil l.k).2
 have e := key _ s1 h5
 simp only [qhe, List.length_append]
 omega
theorem z9v (l : Lt Cf) (hs : l.Small) (ht : l.t.Fine) (hr : l.Rng) : PCalls prog qdh [.agg l.cc] (zdc l) := by
 refine K7 U3 qx8 (by simp) fun T => ?_
 have hri := qye l hs ht
 unfold zdc
 unfold qp6
 simp -implicitDefEqProofs -dsimp only [go_sem, seval, ↓J0 _ _ qki]
 refine cpn hri ?_
 rcases h : lrF l with _ | _
 ·simp -implicitDefEqProofs -dsimp only [go_sem, seval]
  exact J9 rfl
 have hp := fun c => zho (qhe l) c (by have := (qo5 hr h).2; omega)
 have hpo : z3t (qhe l) = true := by
  have := qo5 hr h
  simp only [z3t, Bool.and_eq_true, decide_eq_true_eq]; omega
 simp only [zhn, if_pos hpo] at hp
 obtain ⟨h1, h2, h3, h4, h5⟩ := qj7 h
 have a1 := qul h2
 have a2 := qul h3
 have hk := h1
 simp only [qd9, decide_eq_true_eq] at hk
 have l1 := K5 (m := l.fk.toNat) (by omega)
 have l2 := K5 (m := l.fn.toNat) (by omega)
 have l3 := K5 (m := l.tk.toNat) (by omega)
 have l4 := K5 (m := l.tn.toNat) (by omega)
 have l5 := K5 (m := l.k.toNat) (by omega)
 have s1 := (qil l.k).1
 have s2 := (qil l.k).2
 have hsl := z0n l.k
 have e5 : qqd [l.fk, l.fn, l.tk, l.tn, l.k] = enc l.fk.toNat ++ enc l.fn.toNat ++ enc l.tk.toNat ++ enc l.tn.toNat ++ enc l.k.toNat := by simp [qqd]
 have key := fun (R : Z1) (hR : ExtR R) h => zda (R := R) hR (T := T) (lc := l.cells cfC) (sg := .s (q6c l.k)) ⟨rfl, rfl, fun _ => rfl⟩ (xs := [l.fk, l.fn, l.tk, l.tn, l.k]) (q := some 5) (show 5 <= 10 by decide) (by
  intro x hx
  simp only [List.mem_cons, List.not_mem_nil, or_false] at hx
  rcases hx with rfl | rfl | rfl | rfl | rfl <;> omega) [l.fk, l.fn, l.tk, l.tn, l.k] 0 rfl (Nat.zero_le _) [] (some 0) (Nat.zero_le _) h
 have hfa : ∀ j : Nat, True := fun _ => trivial
 simp -implicitDefEqProofs -dsimp only [go_sem, seval, ↓J0 _ _ qct]
 refine cpn (qs3 l.k) ?_
 simp -implicitDefEqProofs -dsimp only [go_sem, seval]
 refine key _ (by repeat' (first | exact N2 _ _ | assumption | apply N1 | apply K9 | apply Q3)) (fun c => ?_)
 rw [e5, List.nil_append]
 simp -implicitDefEqProofs -dsimp only [go_sem, seval]
 refine zd9 (T := T) (bs := q6c l.k) (by repeat' (first | exact N2 _ _ | assumption | apply N1 | apply K9 | apply Q3)) (by unfold Len; omega) hr ht (q6c l.k) 0 rfl (Nat.zero_le _) s1 h5 _ c (by simp only [List.length_append]; omega) (fun _ c => ?_)
 simp -implicitDefEqProofs -dsimp only [go_sem, seval, ↓J0 _ _ qzs]
 refine cpn (hp c) ?_
 simp -implicitDefEqProofs -dsimp only [go_sem, seval]
 exact J9 rfl
end Go.Aw
