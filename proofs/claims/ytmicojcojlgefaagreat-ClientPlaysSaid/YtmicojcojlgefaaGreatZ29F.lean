import Derived.Test.YtmicojcojlgefaaGreatZ29E
namespace Go.Aw
open Go
open Go.Proofs.Tryz (prog)
set_option linter.all false
set_option maxHeartbeats 8000000
set_option maxRecDepth 8000
theorem z4d {T : Tab} {id r l w x : Nat} {c : Cl} (h : Ct T id r l w x c) (hs : ∀ y ∈ c.l, q6r y) (k : Nat) (cf : Cf) (hc : c.l[k]? = some cf) : ACalls prog q3g [.ptr id 0, .i .i64 k] T (fun v T' => v = .i .u64 cf.ep /\ T' = T) := by
 refine U9 Q7 qhd (by simp) ?_
 have hT := h.cr
 simp only [qb3] at hT
 have hC := z0j h.rt hs k
 have e : cfR c.l k = .tup [.agg (cf.cells none none), .b true] := by
  rw [cfR, at?, if_pos (Int.natCast_nonneg _), Int.toNat_natCast, hc]
 rw [e] at hC
 unfold qat
 simp -implicitDefEqProofs -dsimp only [go_sem, seval, hT, q9d, ↓N1, U6, true_and, ↓J0 _ _ qe7]
 refine can hC ?_
 simp -implicitDefEqProofs -dsimp only [go_sem, seval, Cf.cells]
 exact V1 _ (fun _ => .inr (.inl rfl)) ⟨rfl, rfl⟩
theorem zas {me : Int} {sq : Nat} {l : Lt Rf} (h : Len l.v.length) : LtOk (qs0 me sq l).ours :=
 qt6 rfl rfl rfl zTf (by
  show Len (l.v.take 64).length
  unfold Len at *; rw [List.length_take]; omega) (Int.le_refl _) (Int.natCast_nonneg _)
theorem z4e (me : Int) (sq : Nat) {l : Lt Rf} (h : l.Wide) : (qs0 me sq l).Wide := by
 have z : Len 0 := by unfold Len; omega
 refine ⟨z, z, z, fun _ h => (by cases h), fun _ h => (by cases h), fun _ h => (by cases h), ?_, ?_⟩
 ·exact ⟨z, z, fun _ h => (by cases h), fun _ h => (by cases h), fun _ h => (by cases h)⟩
 ·have := h.v
  show Len (l.v.take 64).length
  unfold Len at this ⊢; rw [List.length_take]; omega
def StQ (T : Tab) (id r l w did rt : Nat) (me ma : Int) (n : Nat) (v : AV) (T' : Tab) : Prop := v = .b true /\ ∃ w' x' c', Bo T' id r l w' x' did rt c' /\ c'.At me ma n /\ Fr [id, w, l, did, rt] [w'] T T'
theorem z70 {T : Tab} {id r l w x did rt : Nat} {c : Cl} {me ma : Int} {n : Nat} (hB : Bo T id r l w x did rt c) (hat : c.At me ma n) (hn : n <= 100) (y : Ev) (hy : y.Arg) :
  ACalls prog q50 [.ptr id 0, .ptr did 0, .agg (evC y)] T (StQ T id r l w did rt me ma (n + 1)) := by
 refine U9 Q7 qkk (by simp) ?_
 have hk := hat.ok
 have hsq := hat.sq
 have hbb : ∀ b : Bool, (b == b) = true := fun b => by cases b <;> rfl
 have d0 : (evC y)[0]? = some (.i .i64 y.k) := rfl
 have d1 : ((evC y).drop 1).take 5 = y.o.cells := rfl
 have d2 : ((evC y).drop 6).take 26 = y.l.cells rfL := rfl
 have d3 : (evC y).length = 32 := rfl
 have d4 : (evC y).take 32 = evC y := rfl
 have d5 : (evC y).drop 32 = [] := rfl
 have qdz : ((decide (y.k = 0) = true /\ decide (y.k = 1) = decide (y.k = 1)) \/ (decide (y.k = 0) = false /\ decide (y.k = 1) = true)) \/
   (decide (y.k = 0) = false /\ decide (y.k = 1) = false /\ ((decide (y.k = 2) = true /\ decide (y.k = 3) = decide (y.k = 3)) \/ (decide (y.k = 2) = false /\ decide (y.k = 3) = true))) \/
   (decide (y.k = 0) = false /\ decide (y.k = 1) = false /\ decide (y.k = 2) = false /\ decide (y.k = 3) = false /\ decide (y.k = 4) = true) \/
   (decide (y.k = 0) = false /\ decide (y.k = 1) = false /\ decide (y.k = 2) = false /\ decide (y.k = 3) = false /\ decide (y.k = 4) = false /\ ((decide (y.k = 5) = true /\ decide (y.k = 6) = decide (y.k = 6)) \/ (decide (y.k = 5) = false /\ decide (y.k = 6) = true))) \/
   (decide (y.k = 0) = false /\ decide (y.k = 1) = false /\ decide (y.k = 2) = false /\ decide (y.k = 3) = false /\ decide (y.k = 4) = false /\ decide (y.k = 5) = false /\ decide (y.k = 6) = false) := by
  cases decide (y.k = 0) <;> cases decide (y.k = 1) <;> cases decide (y.k = 2) <;> cases decide (y.k = 3) <;> cases decide (y.k = 4) <;> cases decide (y.k = 5) <;> cases decide (y.k = 6) <;> simp
 have two : ∀ fp : List Nat, (∀ j ∈ fp, j = id \/ j = w \/ j = l) -> (∀ j ∈ fp, j = id \/ j = w \/ j = l) := fun _ h => h
 unfold qcm
 rcases qdz with hq | ⟨k0, k1, hq⟩ | ⟨k0, k1, k2, k3, k4⟩ | ⟨k0, k1, k2, k3, k4, hq⟩ | ⟨k0, k1, k2, k3, k4, k5, k6⟩
 ·have c1 := z3w y.o hy.o
  have hof := hy.o.our
  obtain ⟨hcAt, _⟩ := z6u hat hof (by omega)
  have hC := z1o hB.p hk y.o.our hof hcAt.ok
  have c2 := z1k y.o.our hof
  have hD : ∀ T1, Dc T1 did rt c -> ACalls prog q0h [.ptr did 0, .agg y.o.our.cells] T1 (fun v T' => v = .tup [.fz (qaj c y.o.our).1.2.length ((qaj c y.o.our).1.2.flatMap Lt.pc) none, .i .i64 (qaj c y.o.our).2] /\ Dc T' did rt (qaj c y.o.our).1.1 /\ Fr [did, rt] [] T1 T') := fun T1 h => z49 h hk y.o.our hof (by omega) hcAt.ok
  obtain ⟨ok1, ok2⟩ := z4b (c := c) hof
  have c3 := qs1 _ ok2 ok1
  generalize qaj c y.o.our = CF at *
  obtain ⟨⟨c2', out⟩, cd⟩ := CF
  simp only at hcAt hC hD c3
  have oc : y.o.our.cells.length = 5 := rfl
  have oc2 : y.o.our.cells.take 5 = y.o.our.cells := rfl
  have oc3 : y.o.our.cells.drop 5 = [] := rfl
  generalize y.o.our.cells = U at *
  generalize y.o.cells = V at *
  generalize evC y = E at *
  rcases hq with ⟨k0, k1⟩ | ⟨k0, k1⟩
  all_goals
   simp -implicitDefEqProofs -dsimp only [go_sem, seval, d0, d1, d3, d4, d5, k0, k1, ↓J0 _ _ qko]
   refine cpn c1 ?_
   simp -implicitDefEqProofs -dsimp only [go_sem, seval, oc, oc2, oc3, ↓J0 _ _ qbe]
   refine CallK.of hC fun v T1 hv => J1 ?_
   obtain ⟨rfl, w1, h1, hF⟩ := hv
   have hkp := hB.p.kept hB.n hF (by intro j hj; simp only [List.mem_cons, List.not_mem_nil, or_false] at hj; rcases hj with rfl | rfl <;> simp)
   simp -implicitDefEqProofs -dsimp only [go_sem, seval, oc, oc2, oc3, ↓J0 _ _ qiq]
   refine cpn c2 ?_
   simp -implicitDefEqProofs -dsimp only [go_sem, seval, ↓J0 _ _ qdq]
   refine CallK.of (hD T1 (hB.d.keep hkp)) fun v T2 hv => J1 ?_
   obtain ⟨rfl, h2, hF2⟩ := hv
   obtain ⟨w2, hB2, hF3⟩ := hB.step h1 hF (by intro j hj; simp only [List.mem_cons, List.not_mem_nil, or_false] at hj; rcases hj with rfl | rfl <;> simp) (.inr (by simp)) (fun _ => ⟨h2, hF2⟩)
   simp -implicitDefEqProofs -dsimp only [go_sem, seval, decide_true, ↓N1, U6, true_and, ↓J0 _ _ qaa]
   refine cpn c3 ?_
   simp -implicitDefEqProofs -dsimp only [go_sem, seval]
   exact V1 _ (fun _ => .inr (.inl rfl)) ⟨rfl, w2, x, c2', hB2, hcAt, hF3⟩
 ·obtain ⟨hcAt, _⟩ := z6v hat (by omega)
  have hC := z6s hB.p hk hcAt.ok
  have hD : ∀ T1, Dc T1 did rt c -> ACalls prog q0i [.ptr did 0] T1 (fun v T' => v = .fz (qfk c).2.length ((qfk c).2.flatMap Lt.pc) none /\ Dc T' did rt (qfk c).1 /\ Fr [did, rt] [] T1 T') := fun T1 h => z48 h hk hcAt.ok
  obtain ⟨ok1, ok2⟩ := z4c hk
  have c3 := qs1 _ ok2 ok1
  generalize qfk c = CF at *
  obtain ⟨c2', out⟩ := CF
  simp only at hcAt hC hD c3
  generalize evC y = E at *
  rcases hq with ⟨k2, k3⟩ | ⟨k2, k3⟩
  all_goals
   simp -implicitDefEqProofs -dsimp only [go_sem, seval, d0, d3, d4, d5, k0, k1, k2, k3, ↓J0 _ _ qit]
   refine CallK.of hC fun v T1 hv => J1 ?_
   obtain ⟨rfl, h1, hF, _⟩ := hv
   have hs : ∀ j ∈ [w], j = id \/ j = w \/ j = l := by intro j hj; simp only [List.mem_singleton] at hj; subst hj; simp
   have hkp := hB.p.kept hB.n hF hs
   simp -implicitDefEqProofs -dsimp only [go_sem, seval, ↓J0 _ _ qdt]
   refine CallK.of (hD T1 (hB.d.keep hkp)) fun v T2 hv => J1 ?_
   obtain ⟨rfl, h2, hF2⟩ := hv
   obtain ⟨w2, hB2, hF3⟩ := hB.step h1 hF hs (.inl rfl) (fun _ => ⟨h2, hF2⟩)
   simp -implicitDefEqProofs -dsimp only [go_sem, seval, ↓J0 _ _ qaa]
   refine cpn c3 ?_
   simp -implicitDefEqProofs -dsimp only [go_sem, seval]
   exact V1 _ (fun _ => .inr (.inl rfl)) ⟨rfl, w2, x, c2', hB2, hcAt, hF3⟩
 ·have c1 := qx6 y.l hy.l.wide
  have hf := hy.l.fine
  have c2 := qus y.l.ours hf
  have hcAt := z1t (m := y.l.ours) hat (fun c hc => (hy.l.confs c hc).2)
  have hC := qxf hB.p hk y.l.ours hf.small hf.t (by have := hf.cs; omega) hy.l.confs
  have hD : ∀ T1, Dc T1 did rt c -> ACalls prog Z1 [.ptr did 0, .agg y.l.ours.pc] T1 (fun v T' => v = .b (qf4 c y.l.ours).2 /\ Dc T' did rt (qf4 c y.l.ours).1 /\ Fr [did, rt] [] T1 T') := fun T1 h => qxi h hk y.l.ours hf hy.l.ref
  generalize qf4 c y.l.ours = CF at *
  obtain ⟨c2', hb⟩ := CF
  simp only at hcAt hC hD
  generalize y.l.ours = m at *
  generalize evC y = E at *
  generalize y.l.cells rfL = L1 at *
  simp -implicitDefEqProofs -dsimp only [go_sem, seval, d0, d2, d3, d4, d5, k0, k1, k2, k3, k4, ↓J0 _ _ qcp]
  refine cpn c1 ?_
  simp -implicitDefEqProofs -dsimp only [go_sem, seval, ↓J0 _ _ q4d]
  refine CallK.of hC fun v T1 hv => J1 ?_
  obtain ⟨rfl, x', h1, hF, hx'⟩ := hv
  have hs : ∀ j ∈ [id, l], j = id \/ j = w \/ j = l := by intro j hj; simp only [List.mem_cons, List.not_mem_nil, or_false] at hj; rcases hj with rfl | rfl <;> simp
  have hkp := hB.p.kept hB.n hF hs
  simp -implicitDefEqProofs -dsimp only [go_sem, seval, ↓J0 _ _ qbj]
  refine cpn c2 ?_
  simp -implicitDefEqProofs -dsimp only [go_sem, seval, ↓J0 _ _ q86]
  refine CallK.of (hD T1 (hB.d.keep hkp)) fun v T2 hv => J1 ?_
  obtain ⟨rfl, h2, hF2⟩ := hv
  obtain ⟨w2, hB2, hF3⟩ := hB.step h1 hF hs (.inl rfl) (fun _ => ⟨h2, hF2⟩)
  simp -implicitDefEqProofs -dsimp only [go_sem, seval, q9d, K6, hbb]
  exact V1 _ (fun _ => .inr (.inl rfl)) ⟨by simp, w2, x', c2', hB2, At.mono hcAt (by omega), hF3⟩
 ·have hA : ACalls prog q20 [.ptr did 0, .agg (y.l.cells rfL)] T (fun v T' => v = .agg ((qs0 c.me c.sq y.l).cells rfL) /\ T' = T) := by
   obtain ⟨⟨rc, hT, e⟩, _⟩ := hB.d
   have := z1y hT y.l hy.l.wide.v
   rw [e.me, e.sq] at this
   exact this
  have c1 := qx6 (qs0 c.me c.sq y.l) (z4e c.me c.sq hy.l.wide)
  have hok := zas (me := c.me) (sq := c.sq) hy.l.wide.v
  have hcAt := z1t (m := (qs0 c.me c.sq y.l).ours) hat (fun _ h => by cases h)
  have hC := qxf hB.p hk (qs0 c.me c.sq y.l).ours hok.f.small hok.f.t (show (0 : Nat) < 1000000 by decide) (fun _ h => by cases h)
  have hD : ∀ T1, Dc T1 did rt c -> ACalls prog Z1 [.ptr did 0, .agg ((qs0 c.me c.sq y.l).cells rfL)] T1 (fun v T' => v = .b (qf4 c (qs0 c.me c.sq y.l).ours).2 /\ Dc T' did rt (qf4 c (qs0 c.me c.sq y.l).ours).1 /\ Fr [did, rt] [] T1 T') := fun T1 h => qxi h hk (qs0 c.me c.sq y.l).ours hok.f hok.r
  generalize qf4 c (qs0 c.me c.sq y.l).ours = CF at *
  obtain ⟨c2', hb⟩ := CF
  simp only at hcAt hC hD
  have a1 : ((qs0 c.me c.sq y.l).cells rfL).length = 26 := rfl
  have a2 : ((qs0 c.me c.sq y.l).cells rfL).take 26 = (qs0 c.me c.sq y.l).cells rfL := rfl
  have a3 : ((qs0 c.me c.sq y.l).cells rfL).drop 26 = [] := rfl
  generalize (qs0 c.me c.sq y.l).ours = m at *
  generalize (qs0 c.me c.sq y.l).cells rfL = L2 at *
  generalize evC y = E at *
  generalize y.l.cells rfL = L1 at *
  have hs : ∀ j ∈ [id, l], j = id \/ j = w \/ j = l := by intro j hj; simp only [List.mem_cons, List.not_mem_nil, or_false] at hj; rcases hj with rfl | rfl <;> simp
  rcases hq with ⟨k5, k6⟩ | ⟨k5, k6⟩
  all_goals
   simp -implicitDefEqProofs -dsimp only [go_sem, seval, d0, d2, d3, d4, d5, k0, k1, k2, k3, k4, k5, k6, ↓J0 _ _ qhh]
   refine can hA ?_
   simp -implicitDefEqProofs -dsimp only [go_sem, seval, a1, a2, a3, ↓J0 _ _ qcp]
   refine cpn c1 ?_
   simp -implicitDefEqProofs -dsimp only [go_sem, seval, ↓J0 _ _ q4d]
   refine CallK.of hC fun v T1 hv => J1 ?_
   obtain ⟨rfl, x', h1, hF, hx'⟩ := hv
   have hkp := hB.p.kept hB.n hF hs
   simp -implicitDefEqProofs -dsimp only [go_sem, seval, ↓J0 _ _ q86]
   refine CallK.of (hD T1 (hB.d.keep hkp)) fun v T2 hv => J1 ?_
   obtain ⟨rfl, h2, hF2⟩ := hv
   obtain ⟨w2, hB2, hF3⟩ := hB.step h1 hF hs (.inl rfl) (fun _ => ⟨h2, hF2⟩)
   simp -implicitDefEqProofs -dsimp only [go_sem, seval, q9d, K6, hbb]
   exact V1 _ (fun _ => .inr (.inl rfl)) ⟨by simp, w2, x', c2', hB2, At.mono hcAt (by omega), hF3⟩
 ·generalize evC y = E at *
  simp -implicitDefEqProofs -dsimp only [go_sem, seval, d0, d3, d4, d5, k0, k1, k2, k3, k4, k5, k6]
  exact V1 _ (fun _ => .inr (.inl rfl)) ⟨rfl, w, x, c, hB, At.mono hat (by omega), fun _ _ _ => rfl, fun j hj => .inl (by simp only [List.mem_singleton] at hj; subst hj; simp)⟩
end Go.Aw
