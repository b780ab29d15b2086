import Derived.Test.YtchdmofoaokpjaaGreatDoorM30N17M17P
namespace Go.Aw
open Go
open Go.Proofs.Tryz (prog)
set_option linter.all false
set_option maxHeartbeats 8000000
set_option maxRecDepth 8000
section
variable (l : Lt Cf)
theorem qt6 : enS l 115 = enc l.sh.toNat := by simp only [enS, Int.reduceEq, if_true, if_false]
theorem qt7 : enS l 101 = enc l.ep.toNat := by simp only [enS, Int.reduceEq, if_true, if_false]
theorem qt8 : enS l 110 = enc l.n.toNat := by simp only [enS, Int.reduceEq, if_true, if_false]
theorem qt9 : enS l 109 = enc l.m.toNat := by simp only [enS, Int.reduceEq, if_true, if_false]
theorem qta : enS l 111 = enc l.nd.toNat := by simp only [enS, Int.reduceEq, if_true, if_false]
theorem qtb : enS l 102 = enc (if l.fl = true then 1 else 0) := by simp only [enS, Int.reduceEq, if_true, if_false]
theorem qzv : enS l 98 = enc l.br.toNat ++ enc l.bn.toNat := by simp only [enS, Int.reduceEq, if_true, if_false]
theorem qzw : enS l 118 = enc l.vs.length ++ l.vs.flatMap qzu := by simp only [enS, Int.reduceEq, if_true, if_false]
theorem z41 : enS l 99 = enc l.cs.length ++ l.cs.flatMap z75 := by simp only [enS, Int.reduceEq, if_true, if_false]
theorem qzx : enS l 108 = enc l.es.length ++ l.es.flatMap z32 := by simp only [enS, Int.reduceEq, if_true, if_false]
theorem qtc : enS l 120 = qgv l.t := by simp only [enS, Int.reduceEq, if_true, if_false]
theorem qtd : enS l 105 = enc l.cl.toNat ++ enc l.sq.toNat := by simp only [enS, Int.reduceEq, if_true, if_false]
theorem qte : enS l 116 = qd5 l.v := by simp only [enS, Int.reduceEq, if_true, if_false]
theorem qtf : enS l 113 = enc l.q.toNat := by simp only [enS, Int.reduceEq, if_true, if_false]
theorem qtg : enS l 114 = enc l.co.toNat := by simp only [enS, Int.reduceEq, if_true, if_false]
end
theorem z69 (l : Lt Cf) (b : Bs) (c : Option Nat) (s : Int) (hb : b.length <= 90000) (hr : l.Rng) (ht : l.t.Fine) (hs : s = 115 \/ s = 101 \/ s = 110 \/ s = 109 \/ s = 111 \/ s = 102 \/ s = 98 \/ s = 118 \/ s = 99 \/ s = 108 \/ s = 120 \/ s = 105 \/ s = 116 \/ s = 113 \/ s = 114) (hm : maF l s = true) :
  PCalls prog q3m [.agg l.cc, bts b c, .i .u8 s] (bts (b ++ enS l s) none) := by
 refine K6 U1 qez (by simp) fun T => ?_
 unfold q8v
 rcases hs with rfl | rfl | rfl | rfl | rfl | rfl | rfl | rfl | rfl | rfl | rfl | rfl | rfl | rfl | rfl
 ·have h : (decide (0 <= l.sh) && decide (l.sh < 4)) = true := hm
  simp only [qm7, qjk, qm6, Bool.and_eq_true, decide_eq_true_eq] at h
  have hw : IntKind.u64.wrap l.sh = l.sh := IntWalk.u64_in _ (by omega)
  have pc := I4 b c l.sh.toNat (by omega) (by omega)
  rw [Int.toNat_of_nonneg (by omega)] at pc
  simp -implicitDefEqProofs -dsimp only [go_sem, seval, decide_true, decide_false, hw, ↓J0 _ _ O4]
  refine cpn pc ?_
  simp -implicitDefEqProofs -dsimp only [go_sem, seval]
  exact J9 (by rw [qt6])
 ·have h := hr.ep
  have pc := I4 b c l.ep.toNat (by omega) (by omega)
  rw [Int.toNat_of_nonneg (by omega)] at pc
  simp -implicitDefEqProofs -dsimp only [go_sem, seval, decide_true, decide_false, ↓J0 _ _ O4]
  refine cpn pc ?_
  simp -implicitDefEqProofs -dsimp only [go_sem, seval]
  exact J9 (by rw [qt7])
 ·have h : qm7 l.n = true := hm
  simp only [qm7, qjk, qm6, Bool.and_eq_true, decide_eq_true_eq] at h
  have hw : IntKind.u64.wrap l.n = l.n := IntWalk.u64_in _ (by omega)
  have pc := I4 b c l.n.toNat (by omega) (by omega)
  rw [Int.toNat_of_nonneg (by omega)] at pc
  simp -implicitDefEqProofs -dsimp only [go_sem, seval, decide_true, decide_false, hw, ↓J0 _ _ O4]
  refine cpn pc ?_
  simp -implicitDefEqProofs -dsimp only [go_sem, seval]
  exact J9 (by rw [qt8])
 ·have h : qm7 l.m = true := hm
  simp only [qm7, qjk, qm6, Bool.and_eq_true, decide_eq_true_eq] at h
  have hw : IntKind.u64.wrap l.m = l.m := IntWalk.u64_in _ (by omega)
  have pc := I4 b c l.m.toNat (by omega) (by omega)
  rw [Int.toNat_of_nonneg (by omega)] at pc
  simp -implicitDefEqProofs -dsimp only [go_sem, seval, decide_true, decide_false, hw, ↓J0 _ _ O4]
  refine cpn pc ?_
  simp -implicitDefEqProofs -dsimp only [go_sem, seval]
  exact J9 (by rw [qt9])
 ·have h : (decide (0 <= l.nd) && decide (l.nd < 8)) = true := hm
  simp only [qm7, qjk, qm6, Bool.and_eq_true, decide_eq_true_eq] at h
  have hw : IntKind.u64.wrap l.nd = l.nd := IntWalk.u64_in _ (by omega)
  have pc := I4 b c l.nd.toNat (by omega) (by omega)
  rw [Int.toNat_of_nonneg (by omega)] at pc
  simp -implicitDefEqProofs -dsimp only [go_sem, seval, decide_true, decide_false, hw, ↓J0 _ _ O4]
  refine cpn pc ?_
  simp -implicitDefEqProofs -dsimp only [go_sem, seval]
  exact J9 (by rw [qta])
 ·have e : (if l.fl = true then (1 : Nat) else 0) < 18446744073709551616 := by split <;> omega
  simp -implicitDefEqProofs -dsimp only [go_sem, seval, decide_true, decide_false, ↓J0 _ _ qof]
  refine cpn (z30 l.fl) ?_
  generalize hg : (if l.fl = true then (1 : Nat) else 0) = g at *
  simp -implicitDefEqProofs -dsimp only [go_sem, seval, ↓J0 _ _ O4]
  refine cpn (I4 b c g (by omega) e) ?_
  simp -implicitDefEqProofs -dsimp only [go_sem, seval]
  exact J9 (by rw [qtb, hg])
 ·have h : qjk l.bn = true := hm
  have h2 := hr.br
  have pc := qzt b c l.br.toNat l.bn (by omega) (by omega) h
  rw [Int.toNat_of_nonneg (by omega)] at pc
  simp -implicitDefEqProofs -dsimp only [go_sem, seval, decide_true, decide_false, ↓J0 _ _ qi8]
  refine cpn pc ?_
  simp -implicitDefEqProofs -dsimp only [go_sem, seval]
  exact J9 (by rw [qzv])
 ·have pc := qhp l b c 118 hb hr (.inl ⟨rfl, hm⟩)
  simp -implicitDefEqProofs -dsimp only [go_sem, seval, decide_true, decide_false, ↓J0 _ _ q3s]
  refine cpn pc ?_
  simp -implicitDefEqProofs -dsimp only [go_sem, seval]
  exact J9 rfl
 ·have pc := qhp l b c 99 hb hr (.inr (.inl ⟨rfl, hm⟩))
  simp -implicitDefEqProofs -dsimp only [go_sem, seval, decide_true, decide_false, ↓J0 _ _ q3s]
  refine cpn pc ?_
  simp -implicitDefEqProofs -dsimp only [go_sem, seval]
  exact J9 rfl
 ·have pc := qhp l b c 108 hb hr (.inr (.inr ⟨rfl, hm⟩))
  simp -implicitDefEqProofs -dsimp only [go_sem, seval, decide_true, decide_false, ↓J0 _ _ q3s]
  refine cpn pc ?_
  simp -implicitDefEqProofs -dsimp only [go_sem, seval]
  exact J9 rfl
 ·have h : qsq l.t = true := hm
  have pc := qqx l.t none none b c (qdn h hr.tsq hr.tr) (by omega)
  simp -implicitDefEqProofs -dsimp only [go_sem, seval, qiq, decide_true, decide_false, ↓J0 _ _ qak]
  refine cpn pc ?_
  simp -implicitDefEqProofs -dsimp only [go_sem, seval]
  exact J9 (by rw [qtc])
 ·have h : qm6 l.cl l.sq = true := hm
  simp only [qm6, Bool.and_eq_true, decide_eq_true_eq] at h
  have h2 := hr.sq
  have l1 := K5 (m := l.cl.toNat) (by omega)
  have hw : IntKind.u64.wrap l.cl = l.cl := IntWalk.u64_in _ (by omega)
  have pc := I4 b c l.cl.toNat (by omega) (by omega)
  rw [Int.toNat_of_nonneg (by omega)] at pc
  have pc2 := I4 (b ++ enc l.cl.toNat) none l.sq.toNat (by simp; omega) (by omega)
  rw [Int.toNat_of_nonneg (a := l.sq) (by omega)] at pc2
  have hcl : (l.cells cfC)[21]? = some (.i .i64 l.cl) := rfl
  have hsq : (l.cells cfC)[22]? = some (.i .u64 l.sq) := rfl
  simp -implicitDefEqProofs -dsimp only [go_sem, seval, hcl, hsq, decide_true, decide_false, hw, ↓J0 _ _ O4]
  refine cpn pc ?_
  simp -implicitDefEqProofs -dsimp only [go_sem, seval, ↓J0 _ _ O4]
  refine cpn pc2 ?_
  simp -implicitDefEqProofs -dsimp only [go_sem, seval]
  exact J9 (by rw [qtd, List.append_assoc])
 ·have h : decide ((l.v.length : Int) <= 64) = true := hm
  have h := of_decide_eq_true h
  simp -implicitDefEqProofs -dsimp only [go_sem, seval, decide_true, decide_false, ↓J0 _ _ q6h]
  refine cpn (qdl b c l.v (by omega) (by omega)) ?_
  simp -implicitDefEqProofs -dsimp only [go_sem, seval]
  exact J9 (by rw [qte])
 ·have h := hr.q
  have pc := I4 b c l.q.toNat (by omega) (by omega)
  rw [Int.toNat_of_nonneg (by omega)] at pc
  simp -implicitDefEqProofs -dsimp only [go_sem, seval, decide_true, decide_false, ↓J0 _ _ O4]
  refine cpn pc ?_
  simp -implicitDefEqProofs -dsimp only [go_sem, seval]
  exact J9 (by rw [qtf])
 ·have h : (decide (0 <= l.co) && decide (l.co <= 99)) = true := hm
  simp only [qm7, qjk, qm6, Bool.and_eq_true, decide_eq_true_eq] at h
  have hw : IntKind.u64.wrap l.co = l.co := IntWalk.u64_in _ (by omega)
  have pc := I4 b c l.co.toNat (by omega) (by omega)
  rw [Int.toNat_of_nonneg (by omega)] at pc
  simp -implicitDefEqProofs -dsimp only [go_sem, seval, decide_true, decide_false, hw, ↓J0 _ _ O4]
  refine cpn pc ?_
  simp -implicitDefEqProofs -dsimp only [go_sem, seval]
  exact J9 (by rw [qtg])
end Go.Aw
namespace Go.Aw
open Go
open Go.Proofs.Tryz (prog)
set_option linter.all false
set_option maxHeartbeats 8000000
set_option maxRecDepth 8000
def wS (s : Int) : Nat := if s = 118 then 41700 else if s = 108 then 17000 else 2010
theorem z33 {v : Vt} (h : VtG v) : (qzu v).length <= 104 := by
 obtain ⟨q1, q2, q3, q4⟩ := h
 have l1 := K5 (m := v.sl.toNat) (by omega)
 have l2 := K5 (m := v.rd.toNat) (by omega)
 have l3 := K5 (m := v.nd.toNat) (by have := q3; simp only [qjk, Bool.and_eq_true, decide_eq_true_eq] at this; omega)
 have l4 := K5 (m := v.v.length) (by omega)
 simp only [qzu, qd5, List.length_append]; omega
theorem qzy {l : Lt Cf} (hr : l.Rng) (s : Int) (hs : s = 115 \/ s = 101 \/ s = 110 \/ s = 109 \/ s = 111 \/ s = 102 \/ s = 98 \/ s = 118 \/ s = 99 \/ s = 108 \/ s = 120 \/ s = 105 \/ s = 116 \/ s = 113 \/ s = 114) (hm : maF l s = true) : (enS l s).length <= wS s := by
 obtain ⟨r1, r2, r3, r4, r5, r6, r7, r8, r9⟩ := id hr
 rcases hs with rfl | rfl | rfl | rfl | rfl | rfl | rfl | rfl | rfl | rfl | rfl | rfl | rfl | rfl | rfl
 ·have h : (decide (0 <= l.sh) && decide (l.sh < 4)) = true := hm
  simp only [Bool.and_eq_true, decide_eq_true_eq] at h
  have := K5 (m := l.sh.toNat) (by omega)
  rw [qt6]; show _ <= 2010; omega
 ·have := K5 (m := l.ep.toNat) (by omega)
  rw [qt7]; show _ <= 2010; omega
 ·have h : qm7 l.n = true := hm
  simp only [qm7, Bool.and_eq_true, decide_eq_true_eq] at h
  have := K5 (m := l.n.toNat) (by omega)
  rw [qt8]; show _ <= 2010; omega
 ·have h : qm7 l.m = true := hm
  simp only [qm7, Bool.and_eq_true, decide_eq_true_eq] at h
  have := K5 (m := l.m.toNat) (by omega)
  rw [qt9]; show _ <= 2010; omega
 ·have h : (decide (0 <= l.nd) && decide (l.nd < 8)) = true := hm
  simp only [Bool.and_eq_true, decide_eq_true_eq] at h
  have := K5 (m := l.nd.toNat) (by omega)
  rw [qta]; show _ <= 2010; omega
 ·have := K5 (m := if l.fl = true then 1 else 0) (by split <;> omega)
  rw [qtb]; show _ <= 2010; omega
 ·have h : qjk l.bn = true := hm
  simp only [qjk, Bool.and_eq_true, decide_eq_true_eq] at h
  have l1 := K5 (m := l.br.toNat) (by omega)
  have l2 := K5 (m := l.bn.toNat) (by omega)
  rw [qzv, List.length_append]; show _ <= 2010; omega
 ·obtain ⟨h1, h2⟩ := qoz (show qw4 l.vs = true from hm) hr
  have l1 := K5 (m := l.vs.length) (by omega)
  have l2 := q5i (g := qzu) l.vs (m := 104) fun v hv => z33 (h2 v hv)
  rw [qzw, List.length_append]; show _ <= 41700; omega
 ·obtain ⟨h1, h2⟩ := qp0 (show qw5 l.cs = true from hm) hr
  have l1 := K5 (m := l.cs.length) (by omega)
  have l2 := q5i (g := z75) l.cs (m := 130) fun v hv => qr7 (Cf.ok_of (h2 v hv).1 (h2 v hv).2.1)
  rw [z41, List.length_append]; show _ <= 2010; omega
 ·obtain ⟨h1, h2⟩ := qp1 (show qw6 l.es = true from hm) hr
  have l1 := K5 (m := l.es.length) (by omega)
  have l2 := q5i (g := z32) l.es (m := 2040) fun v hv => by
   have q := qli (En.good_of (h2 v hv).1 (h2 v hv).2.2)
   have q2 := K5 (m := (q93 v).length) (by omega)
   simp only [z32, qd5, List.length_append]; omega
  rw [qzx, List.length_append]; show _ <= 17000; omega
 ·have h := qr0 (qdn (show qsq l.t = true from hm) r5 r6)
  rw [qtc]; show _ <= 2010; omega
 ·have h : qm6 l.cl l.sq = true := hm
  simp only [qm6, Bool.and_eq_true, decide_eq_true_eq] at h
  have l1 := K5 (m := l.cl.toNat) (by omega)
  have l2 := K5 (m := l.sq.toNat) (by omega)
  rw [qtd, List.length_append]; show _ <= 2010; omega
 ·have h : decide ((l.v.length : Int) <= 64) = true := hm
  have h := of_decide_eq_true h
  have l1 := K5 (m := l.v.length) (by omega)
  rw [qte, qd5, List.length_append]; show _ <= 2010; omega
 ·have := K5 (m := l.q.toNat) (by omega)
  rw [qtf]; show _ <= 2010; omega
 ·have h : (decide (0 <= l.co) && decide (l.co <= 99)) = true := hm
  simp only [Bool.and_eq_true, decide_eq_true_eq] at h
  have := K5 (m := l.co.toNat) (by omega)
  rw [qtg]; show _ <= 2010; omega
def sgB (s : UInt8) : Bool := [115, 101, 110, 109, 111, 102, 98, 118, 99, 108, 120, 105, 116, 113, 114].contains s
theorem qus : ∀ s : UInt8, sgB s = true -> ((s.toNat : Int) = 115 \/ (s.toNat : Int) = 101 \/ (s.toNat : Int) = 110 \/ (s.toNat : Int) = 109 \/ (s.toNat : Int) = 111 \/ (s.toNat : Int) = 102 \/ (s.toNat : Int) = 98 \/ (s.toNat : Int) = 118 \/ (s.toNat : Int) = 99 \/ (s.toNat : Int) = 108 \/ (s.toNat : Int) = 120 \/ (s.toNat : Int) = 105 \/ (s.toNat : Int) = 116 \/ (s.toNat : Int) = 113 \/ (s.toNat : Int) = 114) := by
 intro s h
 simp only [sgB, List.contains_eq_mem, List.mem_cons, List.not_mem_nil, or_false, decide_eq_true_eq] at h
 rcases h with rfl | rfl | rfl | rfl | rfl | rfl | rfl | rfl | rfl | rfl | rfl | rfl | rfl | rfl | rfl <;> simp
theorem qbp (k : Int) : (qc5 k).all sgB = true /\ ((qc5 k).map fun s => wS s.toNat).sum <= 60000 := by
 rcases kinds k with (rfl | rfl | rfl | rfl | rfl | rfl | rfl | rfl | rfl | rfl | rfl | rfl | rfl | rfl | rfl | rfl | rfl | rfl | rfl | rfl | rfl) | h
 any_goals (decide +kernel)
 rw [qz3 h]
 decide
def q26 (l : Lt Cf) : Bs := enc l.fk.toNat ++ enc l.fn.toNat ++ enc l.tk.toNat ++ enc l.tn.toNat ++ enc l.k.toNat ++ (qc5 l.k).flatMap fun s => enS l s.toNat
theorem qzz {R : G9} (hR : ExtR R) {T : Tab} {l : Lt Cf} {bs : Bs} (hl : Len bs.length) (hr : l.Rng) (ht : l.t.Fine) : ∀ (us : Bs) (k : Nat), bs.drop k = us -> k <= bs.length -> us.all sgB = true -> (us.all fun s => maF l s.toNat) = true -> ∀ (b : Bs) (c : Option Nat), b.length + (us.map fun s => wS s.toNat).sum <= 65000 ->
  ((b ++ us.flatMap fun s => enS l s.toNat).length <= 65000 -> ∀ c, R (.exit 2) [(1, .lp 1 0), (4, .s bs), (6, bts (b ++ us.flatMap fun s => enS l s.toNat) c), (45, .i .i64 bs.length), (46, .i .i64 bs.length), (47, .b false)] [(1, l.cells cfC)] T) ->
  AW prog qb3 R [(1, .lp 1 0), (4, .s bs), (6, bts b c), (45, .i .i64 bs.length), (46, .i .i64 k)] [(1, l.cells cfC)] T := by
 intro us
 induction us with
 | nil =>
  intro k hk hle _ _ b c hb h2
  have hk' := V6 hk hle
  refine V1 hR ?_
  unfold q9p
  simp -implicitDefEqProofs -dsimp only [go_sem, seval, hk', Int.lt_irrefl]
  rw [hk', List.flatMap_nil, List.append_nil] at h2
  simp only [List.map_nil, List.sum_nil, Nat.add_zero] at hb
  exact h2 hb c
 | cons y us ih =>
  intro k hk hle ha hma b c hb h2
  obtain ⟨hlt, hy, hk'⟩ := Y6 hk
  unfold Len at hl
  have hs : IntKind.i64.wrap ((k : Int) + 1) = ((k + 1 : Nat) : Int) := O8 (by omega)
  simp only [List.all_cons, Bool.and_eq_true] at ha hma
  simp only [List.map_cons, List.sum_cons] at hb
  have hle2 := qzy hr y.toNat (qus y ha.1) hma.1
  have pc := z69 l b c y.toNat (by omega) hr ht (qus y ha.1) hma.1
  rw [List.flatMap_cons, <- List.append_assoc] at h2
  refine Q1 (l := qb3) rfl hR ?_
  unfold q9p
  simp -implicitDefEqProofs -dsimp only [go_sem, seval, Int.ofNat_lt, hlt, Int.natCast_nonneg, Int.toNat_natCast, hy, ↓J0 _ _ qf0]
  refine cpn pc ?_
  simp -implicitDefEqProofs -dsimp only [go_sem, seval, hs]
  exact ih (k + 1) hk' hlt ha.2 hma.2 (b ++ enS l y.toNat) none (by rw [List.length_append]; omega) h2
end Go.Aw
namespace Go.Aw
open Go
open Go.Proofs.Tryz (prog)
set_option linter.all false
set_option maxHeartbeats 8000000
set_option maxRecDepth 8000
def qth (l : List Int) : Bs := l.flatMap fun n => enc n.toNat
theorem z00 {R : G9} (hR : ExtR R) {T : Tab} {lc : List AV} {sg : AV} (hsg : sg.plain = true /\ sg.isOne = true /\ (∀ k, sg.offLp k = sg)) {xs : List Int} {q : Option Nat} (hl : xs.length <= 10) (hx : ∀ x ∈ xs, 0 <= x /\ x < 1000) : ∀ (us : List Int) (k : Nat), xs.drop k = us -> k <= xs.length -> ∀ (b : Bs) (c : Option Nat), b.length <= 100 + 10 * k ->
  (∀ c, R (.exit 0) [(1, .lp 1 0), (4, sg), (6, bts (b ++ qth us) c), (33, .fz xs.length (qdp xs) q), (34, .i .i64 xs.length), (35, .i .i64 xs.length), (36, .b false)] [(1, lc)] T) ->
  AW prog qb2 R [(1, .lp 1 0), (4, sg), (6, bts b c), (33, .fz xs.length (qdp xs) q), (34, .i .i64 xs.length), (35, .i .i64 k)] [(1, lc)] T := by
 obtain ⟨s1, s2, s3⟩ := hsg
 intro us
 induction us with
 | nil =>
  intro k hk hle b c hb h2
  have hk' := V6 hk hle
  refine V1 hR ?_
  unfold q9o
  simp -implicitDefEqProofs -dsimp only [go_sem, seval, hk', Int.lt_irrefl, s1, s2, s3]
  rw [hk', qth, List.flatMap_nil, List.append_nil] at h2
  exact h2 c
 | cons y us ih =>
  intro k hk hle b c hb h2
  obtain ⟨hlt, hy, hk'⟩ := Y6 hk
  have hs : IntKind.i64.wrap ((k : Int) + 1) = ((k + 1 : Nat) : Int) := O8 (by omega)
  have hy1 := hx y (List.mem_of_getElem? hy)
  have l1 := K5 (m := y.toNat) (by omega)
  have hw : IntKind.u64.wrap y = y := IntWalk.u64_in _ (by omega)
  have pc := I4 b c y.toNat (by omega) (by omega)
  rw [Int.toNat_of_nonneg (by omega)] at pc
  have ea := qo5 xs k
  rw [hy] at ea
  simp only [Option.map_some] at ea
  rw [qth, List.flatMap_cons, <- List.append_assoc] at h2
  refine Q1 (l := qb2) rfl hR ?_
  unfold q9o
  simp -implicitDefEqProofs -dsimp only [go_sem, seval, Int.ofNat_lt, hlt, Int.natCast_nonneg, Int.toNat_natCast, ea, hw, s1, s2, s3, ↓J0 _ _ O4]
  refine cpn pc ?_
  simp -implicitDefEqProofs -dsimp only [go_sem, seval, hs, s1, s2, s3]
  exact ih (k + 1) hk' hlt (b ++ enc y.toNat) none (by rw [List.length_append]; omega) h2
theorem qnl {k n : Int} (h : z0t k n = true) : (0 <= k /\ k < 1000) /\ (0 <= n /\ n < 1000) := by
 simp only [z0t, Bool.and_eq_true, decide_eq_true_eq] at h
 unfold z1v at h
 by_cases e1 : k = 1
 ·rw [if_pos e1] at h; omega
 by_cases e2 : k = 2
 ·rw [if_neg e1, if_pos e2] at h; omega
 by_cases e3 : k = 3
 ·rw [if_neg e1, if_neg e2, if_pos e3] at h; omega
 ·rw [if_neg e1, if_neg e2, if_neg e3] at h; omega
theorem z6a (n : Nat) : 1 <= (enc n).length := by
 by_cases h : n < 128
 ·rw [q5h h]; exact Nat.le_refl _
 ·rw [qka h]; simp
def z6b (l : Lt Cf) : AV := if lrF l = true then .tup [bts (frm (q26 l)) none, .i .i64 0] else .tup [.fz 0 [] (some 0), .i .i64 1]
theorem qh1 {l : Lt Cf} (h : lrF l = true) : qop l.k = true /\ z0t l.fk l.fn = true /\ z0t l.tk l.tn = true /\ ltE l (baF l l.bare0 (qc5 l.k)) = true /\ ((qc5 l.k).all fun s => maF l s.toNat) = true := by
 simp only [lrF, Bool.and_eq_true] at h
 exact ⟨h.1.1.1.1, h.1.1.1.2, h.1.1.2, h.1.2, h.2⟩
theorem q95 {l : Lt Cf} (hr : l.Rng) (h : lrF l = true) : 1 <= (q26 l).length /\ (q26 l).length <= 65060 := by
 obtain ⟨h1, h2, h3, h4, h5⟩ := qh1 h
 have a1 := qnl h2
 have a2 := qnl h3
 have hk := h1
 simp only [qop, decide_eq_true_eq] at hk
 have l1 := K5 (m := l.fk.toNat) (by omega)
 have l2 := K5 (m := l.fn.toNat) (by omega)
 have l3 := K5 (m := l.tk.toNat) (by omega)
 have l4 := K5 (m := l.tn.toNat) (by omega)
 have l5 := K5 (m := l.k.toNat) (by omega)
 have p := z6a l.fk.toNat
 have key : ∀ us : Bs, us.all sgB = true -> (us.all fun s => maF l s.toNat) = true -> (us.flatMap fun s => enS l s.toNat).length <= (us.map fun s => wS s.toNat).sum := by
  intro us
  induction us with
  | nil => intros; exact Nat.le_refl _
  | cons y us ih =>
   intro ha hma
   simp only [List.all_cons, Bool.and_eq_true] at ha hma
   have e1 := qzy hr y.toNat (qus y ha.1) hma.1
   have e2 := ih ha.2 hma.2
   simp only [List.flatMap_cons, List.length_append, List.map_cons, List.sum_cons]; omega
 have s1 := (qbp l.k).1
 have s2 := (qbp l.k).2
 have e := key _ s1 h5
 simp only [q26, List.length_append]
 omega
theorem z34 (l : Lt Cf) (hs : l.Small) (ht : l.t.Fine) (hr : l.Rng) : PCalls prog q7i [.agg l.cc] (z6b l) := by
 refine K6 U1 qi0 (by simp) fun T => ?_
 have hri := qle l hs ht
 unfold z6b
 unfold qck
 simp -implicitDefEqProofs -dsimp only [go_sem, seval, ↓J0 _ _ q9r]
 refine cpn hri ?_
 rcases h : lrF l with _ | _
 ·simp -implicitDefEqProofs -dsimp only [go_sem, seval]
  exact J9 rfl
 have hp := fun c => zak (q26 l) c (by have := (q95 hr h).2; omega)
 have hpo : qmp (q26 l) = true := by
  have := q95 hr h
  simp only [qmp, Bool.and_eq_true, decide_eq_true_eq]; omega
 simp only [zaj, if_pos hpo] at hp
 obtain ⟨h1, h2, h3, h4, h5⟩ := qh1 h
 have a1 := qnl h2
 have a2 := qnl h3
 have hk := h1
 simp only [qop, decide_eq_true_eq] at hk
 have l1 := K5 (m := l.fk.toNat) (by omega)
 have l2 := K5 (m := l.fn.toNat) (by omega)
 have l3 := K5 (m := l.tk.toNat) (by omega)
 have l4 := K5 (m := l.tn.toNat) (by omega)
 have l5 := K5 (m := l.k.toNat) (by omega)
 have s1 := (qbp l.k).1
 have s2 := (qbp l.k).2
 have hsl := qoq l.k
 have e5 : qth [l.fk, l.fn, l.tk, l.tn, l.k] = enc l.fk.toNat ++ enc l.fn.toNat ++ enc l.tk.toNat ++ enc l.tn.toNat ++ enc l.k.toNat := by simp [qth]
 have key := fun (R : G9) (hR : ExtR R) h => z00 (R := R) hR (T := T) (lc := l.cells cfC) (sg := .s (qc5 l.k)) ⟨rfl, rfl, fun _ => rfl⟩ (xs := [l.fk, l.fn, l.tk, l.tn, l.k]) (q := some 5) (show 5 <= 10 by decide) (by
  intro x hx
  simp only [List.mem_cons, List.not_mem_nil, or_false] at hx
  rcases hx with rfl | rfl | rfl | rfl | rfl <;> omega) [l.fk, l.fn, l.tk, l.tn, l.k] 0 rfl (Nat.zero_le _) [] (some 0) (Nat.zero_le _) h
 have hfa : ∀ j : Nat, True := fun _ => trivial
 simp -implicitDefEqProofs -dsimp only [go_sem, seval, ↓J0 _ _ q6x]
 refine cpn (qgr l.k) ?_
 simp -implicitDefEqProofs -dsimp only [go_sem, seval]
 refine key _ (by repeat' (first | exact O6 _ _ | assumption | apply O5 | apply N4 | apply V8)) (fun c => ?_)
 rw [e5, List.nil_append]
 simp -implicitDefEqProofs -dsimp only [go_sem, seval]
 refine qzz (T := T) (bs := qc5 l.k) (by repeat' (first | exact O6 _ _ | assumption | apply O5 | apply N4 | apply V8)) (by unfold Len; omega) hr ht (qc5 l.k) 0 rfl (Nat.zero_le _) s1 h5 _ c (by simp only [List.length_append]; omega) (fun _ c => ?_)
 simp -implicitDefEqProofs -dsimp only [go_sem, seval, ↓J0 _ _ qkk]
 refine cpn (hp c) ?_
 simp -implicitDefEqProofs -dsimp only [go_sem, seval]
 exact J9 rfl
end Go.Aw
