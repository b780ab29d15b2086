import Derived.Test.YtchdmofoaokpjaaGreatDoorM30N17E12G
import Derived.Test.YtchdmofoaokpjaaGreatDoorM30N17O16C
namespace Go.Aw
open Go
open Go.Proofs.Tryz (prog)
set_option linter.all false
set_option maxHeartbeats 4000000
theorem z5i (e : En) (k1 k2 : Option Nat) (hf : e.t.Fine) (hr : e.Rng) : PCalls prog qan [.agg (e.cells k1 k2)] (if qin e = true then .tup [bts (q8x e) none, .i .i64 0] else .tup [.fz 0 [] (some 0), .i .i64 1]) := by
 refine K5 Q9 qs3 (by simp) fun T => ?_
 have h := qad e k1 k2 hf
 simp only [En.cells] at h
 unfold qkr
 simp -implicitDefEqProofs -dsimp only [go_sem, seval, En.cells, ↓J0 _ _ q6t]
 refine cpn h ?_
 rcases hok : qin e with _ | _
 ·simp -implicitDefEqProofs -dsimp only [go_sem, seval, hok]
  exact J9 rfl
 obtain ⟨hep, hkd⟩ := En.good_of hok hr
 obtain ⟨ep, hepm⟩ := Int.eq_ofNat_of_zero_le (show 0 <= e.ep by omega)
 have l1 := K6 (m := ep) (by omega)
 rcases hkd with ⟨h3, h4, h5, h6, h7, h8⟩ | ⟨h3, h4, h5, h6, h7⟩
 ·have u1 : IntKind.u64.wrap 1 = ((1 : Nat) : Int) := by decide +kernel
  have l2 := K6 (m := 1) (by omega)
  have c := qqu e.t k1 k2 ([] ++ enc ep ++ enc 1) none h4 (by simp; omega)
  simp only [Tx.cells] at c
  simp -implicitDefEqProofs -dsimp only [go_sem, seval, hok, hepm, h3, u1, ↓J0 _ _ O4]
  refine cpn (I1 [] (some 0) ep (by decide) (by omega)) ?_
  simp -implicitDefEqProofs -dsimp only [go_sem, seval, ↓J0 _ _ O4]
  refine cpn (I1 ([] ++ enc ep) none 1 (by simp; omega) (by omega)) ?_
  simp -implicitDefEqProofs -dsimp only [go_sem, seval, decide_true, ↓J0 _ _ qa7]
  refine cpn c ?_
  simp -implicitDefEqProofs -dsimp only [go_sem, seval]
  have e1 : [] ++ enc ep ++ enc 1 ++ qgv e.t = q8x e := by simp [q8x, h3, hepm]
  refine J9 ?_
  rw [<- e1]; simp
 ·have u1 : IntKind.u64.wrap 2 = ((2 : Nat) : Int) := by decide +kernel
  obtain ⟨cl, hcl⟩ := Int.eq_ofNat_of_zero_le h5.1
  obtain ⟨sq, hsq⟩ := Int.eq_ofNat_of_zero_le (show 0 <= e.sq by omega)
  obtain ⟨co, hco⟩ := Int.eq_ofNat_of_zero_le (show 0 <= e.co by omega)
  have l2 := K6 (m := 2) (by omega)
  have l3 := K6 (m := cl) (by omega)
  have l4 := K6 (m := sq) (by omega)
  simp -implicitDefEqProofs -dsimp only [go_sem, seval, hok, hepm, h3, u1, ↓J0 _ _ O4]
  refine cpn (I1 [] (some 0) ep (by decide) (by omega)) ?_
  simp -implicitDefEqProofs -dsimp only [go_sem, seval, ↓J0 _ _ O4]
  refine cpn (I1 ([] ++ enc ep) none 2 (by simp; omega) (by omega)) ?_
  simp -implicitDefEqProofs -dsimp only [go_sem, seval, decide_false, hcl, hsq, hco, q0o (n := co) (by omega), ↓J0 _ _ qgi]
  refine cpn (qug ([] ++ enc ep ++ enc 2) none cl sq (by simp; omega) (by omega) (by omega)) ?_
  simp -implicitDefEqProofs -dsimp only [go_sem, seval, ↓J0 _ _ O4]
  refine cpn (I1 _ none co (by simp; omega) (by omega)) ?_
  simp -implicitDefEqProofs -dsimp only [go_sem, seval]
  have e1 : [] ++ enc ep ++ enc 2 ++ enc cl ++ enc sq ++ enc co = q8x e := by simp [q8x, h3, hepm, hcl, hsq, hco]
  refine J9 ?_
  rw [<- e1]; simp
theorem qum (s : RS) : (rEn s).1.t.Fine := by
 have hz : q5i.Fine := ⟨by decide, by decide, fun r hr => (by cases hr), fun r hr => (by cases hr), fun r hr => (by cases hr)⟩
 unfold rEn
 simp only
 split
 ·simp only [q23]
  split
  ·exact qov _
  ·exact hz
 ·split <;> exact hz
theorem z9r (b : List UInt8) (c : Option Nat) (hb : b.length <= 1000000000) : PCalls prog qap [bts b c] (.tup [.agg ((q69 (b, false)).cells none none), qp3 (q1n (b, false))]) := by
 refine K5 Q9 qsf (by simp) fun T => ?_
 have hl : Len b.length := by unfold Len; omega
 have l1 := q10 (O5 18446744073709551615 (b, false)) hl
 have l2 := q10 (O5 2 _) l1
 have b1 := q21 2 (K3 18446744073709551615 (b, false)).2
 unfold qkx
 simp -implicitDefEqProofs -dsimp only [go_sem, seval, ↓J0 _ _ qki]
 refine CallK.of (z3c b c hb) (fun v T1 h => J1 ?_)
 obtain ⟨id, rfl, hid, rfl⟩ := h
 have hT : ∀ s, TabLe T (rT T id s) := fun s => (TabLe.refl T).put hid
 simp -implicitDefEqProofs -dsimp only [go_sem, seval, ↓J0 _ _ q0q]
 refine can (z3d q4c hl) ?_
 simp -implicitDefEqProofs -dsimp only [go_sem, seval, qcx, ↓J0 _ _ N1]
 refine can (q40 q4c 2 (by decide) l1) ?_
 have endOk : q87 (b, false) = true -> ∀ s, qn0 (.tup [.agg ((rEn (b, false)).1.cells none none), .nilifc]) (fun v T' => v = .tup [.agg ((q69 (b, false)).cells none none), qp3 (q1n (b, false))] /\ T' = T) (rT T id s) := fun h s => by
  have e1 : q69 (b, false) = (rEn (b, false)).1 := by simp [q69, h]
  have e2 : q1n (b, false) = none := by simp [q1n, h]
  rw [e1, e2]; exact (hT s).fin
 have endErr : q87 (b, false) = false -> ∀ s, qn0 (.tup [.agg [.i .u64 0, .i .i64 0, .i .i64 0, .i .u64 0, .b false, .fz 0 [] (some 0), .fz 0 [] (some 0), .i .i64 0, .i .u64 0, .i .i64 0], qp3 (q1n (b, false))]) (fun v T' => v = .tup [.agg ((q69 (b, false)).cells none none), qp3 (q1n (b, false))] /\ T' = T) (rT T id s) := fun h s => by
  have e1 : q69 (b, false) = z3f := by simp [q69, h]
  rw [e1]
  refine ⟨[], T, _, by simp, by simp, hT s, ?_, rfl, rfl⟩
  rw [qdc]
  exact Wk.tup ⟨Wk.agg ⟨.refl _, .refl _, .refl _, .refl _, .refl _, .fz, .fz, .refl _, .refl _, .refl _, trivial⟩, .refl _, trivial⟩
 have hrt := qz9 (b, false)
 have hfine := qum (b, false)
 have d1 : decide (((K3 2 (K3 18446744073709551615 (b, false)).2).1 : Int) = 1) = decide ((K3 2 (K3 18446744073709551615 (b, false)).2).1 = 1) := decide_eq_decide.2 (by omega)
 have d2 : decide (((K3 2 (K3 18446744073709551615 (b, false)).2).1 : Int) = 2) = decide ((K3 2 (K3 18446744073709551615 (b, false)).2).1 = 2) := decide_eq_decide.2 (by omega)
 have cN := qhm [101, 110, 116, 114, 121] 3
 rw [if_neg (by decide)] at cN
 have hrT := fun (T : Tab) (id : Nat) (s s' : RS) => qcx (T := T) (id := id) (s := s) (s' := s')
 generalize hA : K3 18446744073709551615 (b, false) = a at *
 generalize hK : K3 2 a.2 = k at *
 have tail : ∀ (x : En) (st : RS) (k1 k2 : Option Nat), rEn (b, false) = (x, st) -> qgw (b, false) = true -> True := fun _ _ _ _ _ _ => trivial
 rcases h1 : decide (k.1 = 1) with _ | _
 case true =>
  have h1' := of_decide_eq_true h1
  have cR := qnc (q4c (T := T) (id := id) (s := k.2)) l2
  simp only [Tx.cells] at cR
  simp -implicitDefEqProofs -dsimp only [go_sem, seval, d1, h1, qcx, ↓J0 _ _ qcn]
  refine can cR ?_
  have hen : rEn (b, false) = (⟨a.1, k.1, (q23 k.2).1, 0, 0, 0⟩, (rTx k.2).2) := by unfold rEn; simp only [hA, hK]; rw [if_pos h1']
  rcases htx : qjd k.2 with _ | _
  ·have e1 : (q23 k.2).2 = (Er.flt [116, 120, 110] (.num 3)).av := by simp [q23, htx]; rfl
   have e2 : qgw (b, false) = false := by simp [qgw, hA, hK, h1', htx]
   have e3 : q87 (b, false) = false := by simp [q87, e2]
   have e4 : q1n (b, false) = some (.flt [101, 110, 116, 114, 121] (.flt [116, 120, 110] (.num 3))) := by simp [q1n, e2, e3]
   have cI := z3e [101, 110, 116, 114, 121] (.flt [116, 120, 110] (.num 3))
   rw [e1]
   simp only [Er.av, q4z] at cI ⊢
   simp -implicitDefEqProofs -dsimp only [go_sem, seval, qmm, ↓J0 _ _ qn9]
   refine cpn cI ?_
   simp -implicitDefEqProofs -dsimp only [go_sem, seval]
   have := endErr e3 (rTx k.2).2
   rw [qcx]
   rw [e4] at this ⊢
   exact this
  ·have e1 : (q23 k.2).2 = .nilifc := by simp [q23, htx]
   have e2 : qgw (b, false) = true := by simp [qgw, hA, hK, h1', htx]
   have c6 := qad (rEn (b, false)).1 none none hfine
   have e5 : q87 (b, false) = ((!(rTx k.2).2.2 && decide ((rTx k.2).2.1 = [])) && qin (rEn (b, false)).1) := by simp [q87, e2, hen]
   rw [hen] at c6
   simp only [En.cells] at c6
   rw [e1]
   simp -implicitDefEqProofs -dsimp only [go_sem, seval, qmm, qcx, ↓J0 _ _ q3n]
   refine can (qoq q4c) ?_
   rcases hdn : (!(rTx k.2).2.2 && decide ((rTx k.2).2.1 = [])) with _ | _
   ·have e3 : q87 (b, false) = false := by rw [e5, hdn]; rfl
    have e4 : q1n (b, false) = some (.flt [101, 110, 116, 114, 121] (.num 3)) := by simp [q1n, e2, e3]
    simp -implicitDefEqProofs -dsimp only [go_sem, seval, hdn, ↓Q4, I4, true_and, ↓J0 _ _ I0]
    refine cpn cN ?_
    simp -implicitDefEqProofs -dsimp only [go_sem, seval, q4z]
    have := endErr e3 (rTx k.2).2
    rw [e4] at this ⊢
    exact this
   ·simp -implicitDefEqProofs -dsimp only [go_sem, seval, hdn, ↓Q4, I4, true_and, ↓J0 _ _ q6t]
    refine cpn c6 ?_
    rcases hok : qin ⟨a.1, k.1, (q23 k.2).1, 0, 0, 0⟩ with _ | _
    ·have e3 : q87 (b, false) = false := by rw [e5, hdn, hen, hok]; rfl
     have e4 : q1n (b, false) = some (.flt [101, 110, 116, 114, 121] (.num 3)) := by simp [q1n, e2, e3]
     simp -implicitDefEqProofs -dsimp only [go_sem, seval, hok, ↓Q4, I4, true_and, ↓J0 _ _ I0]
     refine cpn cN ?_
     simp -implicitDefEqProofs -dsimp only [go_sem, seval, q4z]
     have := endErr e3 (rTx k.2).2
     rw [e4] at this ⊢
     exact this
    ·have e3 : q87 (b, false) = true := by rw [e5, hdn, hen, hok]; rfl
     simp -implicitDefEqProofs -dsimp only [go_sem, seval, hok, ↓Q4, I4, true_and]
     have := endOk e3 (rTx k.2).2
     rw [hen] at this
     exact this
 rcases h2 : decide (k.1 = 2) with _ | _
 case true =>
  have h2' := of_decide_eq_true h2
  have l3 := q10 (qou k.2) l2
  simp -implicitDefEqProofs -dsimp only [go_sem, seval, d1, d2, h1, h2, qcx, ↓J0 _ _ qef]
  refine can (qqv q4c l2) ?_
  simp -implicitDefEqProofs -dsimp only [go_sem, seval, qcx, ↓J0 _ _ N1]
  refine can (q40 q4c 99 (by decide) l3) ?_
  have hen : rEn (b, false) = (⟨a.1, k.1, q5i, (rID k.2).1.1, (rID k.2).1.2, (K3 99 (rID k.2).2).1⟩, (K3 99 (rID k.2).2).2) := by unfold rEn; simp only [hA, hK]; rw [if_neg (of_decide_eq_false h1), if_pos h2']
  have e2 : qgw (b, false) = true := by simp [qgw, hA, hK, of_decide_eq_false h1]
  have e5 : q87 (b, false) = ((!((K3 99 (rID k.2).2).2).2 && decide (((K3 99 (rID k.2).2).2).1 = [])) && qin (rEn (b, false)).1) := by simp [q87, e2, hen]
  have c6 := qad (rEn (b, false)).1 (some 0) (some 0) hfine
  rw [hen] at c6
  simp only [En.cells, q5i, List.length_nil, List.flatMap_nil] at c6
  simp -implicitDefEqProofs -dsimp only [go_sem, seval, qcx, ↓J0 _ _ q3n]
  refine can (qoq q4c) ?_
  rcases hdn : (!((K3 99 (rID k.2).2).2).2 && decide (((K3 99 (rID k.2).2).2).1 = [])) with _ | _
  ·have e3 : q87 (b, false) = false := by rw [e5, hdn]; rfl
   have e4 : q1n (b, false) = some (.flt [101, 110, 116, 114, 121] (.num 3)) := by simp [q1n, e2, e3]
   simp -implicitDefEqProofs -dsimp only [go_sem, seval, hdn, ↓Q4, I4, true_and, ↓J0 _ _ I0]
   refine cpn cN ?_
   simp -implicitDefEqProofs -dsimp only [go_sem, seval, q4z]
   have := endErr e3 ((K3 99 (rID k.2).2).2)
   rw [e4] at this ⊢
   exact this
  ·simp -implicitDefEqProofs -dsimp only [go_sem, seval, hdn, ↓Q4, I4, true_and, ↓J0 _ _ q6t]
   refine cpn c6 ?_
   rcases hok : qin (⟨a.1, k.1, ⟨0, 0, false, [], []⟩, (rID k.2).1.1, (rID k.2).1.2, (K3 99 (rID k.2).2).1⟩ : En) with _ | _
   ·have e3 : q87 (b, false) = false := by rw [e5, hdn, hen]; simp only [q5i, hok]; rfl
    have e4 : q1n (b, false) = some (.flt [101, 110, 116, 114, 121] (.num 3)) := by simp [q1n, e2, e3]
    simp -implicitDefEqProofs -dsimp only [go_sem, seval, hok, ↓Q4, I4, true_and, ↓J0 _ _ I0]
    refine cpn cN ?_
    simp -implicitDefEqProofs -dsimp only [go_sem, seval, q4z]
    have := endErr e3 ((K3 99 (rID k.2).2).2)
    rw [e4] at this ⊢
    exact this
   ·have e3 : q87 (b, false) = true := by rw [e5, hdn, hen]; simp only [q5i, hok]; rfl
    simp -implicitDefEqProofs -dsimp only [go_sem, seval, hok, ↓Q4, I4, true_and]
    have e1 : q69 (b, false) = (⟨a.1, k.1, ⟨0, 0, false, [], []⟩, (rID k.2).1.1, (rID k.2).1.2, (K3 99 (rID k.2).2).1⟩ : En) := by simp only [q69, e3, if_true, hen, q5i]
    have e4 : q1n (b, false) = none := by simp [q1n, e3]
    rw [e1, e4]
    refine ⟨[], T, _, by simp, by simp, hT _, ?_, rfl, rfl⟩
    rw [qdc]
    exact Wk.tup ⟨Wk.agg ⟨.refl _, .refl _, .refl _, .refl _, .refl _, .fz, .fz, .refl _, .refl _, .refl _, trivial⟩, .refl _, trivial⟩
 have hen : rEn (b, false) = (⟨a.1, k.1, q5i, 0, 0, 0⟩, k.2) := by unfold rEn; simp only [hA, hK]; rw [if_neg (of_decide_eq_false h1), if_neg (of_decide_eq_false h2)]
 have e2 : qgw (b, false) = true := by simp [qgw, hA, hK, of_decide_eq_false h1]
 have e5 : q87 (b, false) = ((!(k.2).2 && decide ((k.2).1 = [])) && qin (rEn (b, false)).1) := by simp [q87, e2, hen]
 have c6 := qad (rEn (b, false)).1 (some 0) (some 0) hfine
 rw [hen] at c6
 simp only [En.cells, q5i, List.length_nil, List.flatMap_nil] at c6
 simp -implicitDefEqProofs -dsimp only [go_sem, seval, d1, d2, h1, h2, qcx, ↓J0 _ _ q3n]
 refine can (qoq q4c) ?_
 rcases hdn : (!(k.2).2 && decide ((k.2).1 = [])) with _ | _
 ·have e3 : q87 (b, false) = false := by rw [e5, hdn]; rfl
  have e4 : q1n (b, false) = some (.flt [101, 110, 116, 114, 121] (.num 3)) := by simp [q1n, e2, e3]
  simp -implicitDefEqProofs -dsimp only [go_sem, seval, hdn, ↓Q4, I4, true_and, ↓J0 _ _ I0]
  refine cpn cN ?_
  simp -implicitDefEqProofs -dsimp only [go_sem, seval, q4z]
  have := endErr e3 (k.2)
  rw [e4] at this ⊢
  exact this
 ·simp -implicitDefEqProofs -dsimp only [go_sem, seval, hdn, ↓Q4, I4, true_and, ↓J0 _ _ q6t]
  refine cpn c6 ?_
  rcases hok : qin (⟨a.1, k.1, ⟨0, 0, false, [], []⟩, 0, 0, 0⟩ : En) with _ | _
  ·have e3 : q87 (b, false) = false := by rw [e5, hdn, hen]; simp only [q5i, hok]; rfl
   have e4 : q1n (b, false) = some (.flt [101, 110, 116, 114, 121] (.num 3)) := by simp [q1n, e2, e3]
   simp -implicitDefEqProofs -dsimp only [go_sem, seval, hok, ↓Q4, I4, true_and, ↓J0 _ _ I0]
   refine cpn cN ?_
   simp -implicitDefEqProofs -dsimp only [go_sem, seval, q4z]
   have := endErr e3 (k.2)
   rw [e4] at this ⊢
   exact this
  ·have e3 : q87 (b, false) = true := by rw [e5, hdn, hen]; simp only [q5i, hok]; rfl
   simp -implicitDefEqProofs -dsimp only [go_sem, seval, hok, ↓Q4, I4, true_and]
   have e1 : q69 (b, false) = (⟨a.1, k.1, ⟨0, 0, false, [], []⟩, 0, 0, 0⟩ : En) := by simp only [q69, e3, if_true, hen, q5i]
   have e4 : q1n (b, false) = none := by simp [q1n, e3]
   rw [e1, e4]
   refine ⟨[], T, _, by simp, by simp, hT _, ?_, rfl, rfl⟩
   rw [qdc]
   exact Wk.tup ⟨Wk.agg ⟨.refl _, .refl _, .refl _, .refl _, .refl _, .fz, .fz, .refl _, .refl _, .refl _, trivial⟩, .refl _, trivial⟩
theorem z9s (b : List UInt8) (c : Option Nat) (hb : b.length <= 1000000000) : PCalls prog q8g [bts b c] (.tup [.agg ((q69 (b, false)).cells none none), .i .i64 (qbp (q1n (b, false)))]) := by
 refine K5 Q9 qs9 (by simp) fun T => ?_
 have h1 := z9r b c hb
 have h2 := qsy (q1n (b, false))
 have hp : (qp3 (q1n (b, false))).plain = true /\ ∀ k, (qp3 (q1n (b, false))).offLp k = qp3 (q1n (b, false)) := by
  cases q1n (b, false) with
  | none => exact ⟨rfl, fun _ => rfl⟩
  | some e => obtain ⟨t, v, he⟩ := e.ifc; simp only [qp3, he]; exact ⟨rfl, fun _ => rfl⟩
 simp only [En.cells] at h1
 generalize qp3 (q1n (b, false)) = x at h1 h2 hp
 unfold qkv
 simp -implicitDefEqProofs -dsimp only [go_sem, seval, ↓J0 _ _ qsg]
 refine cpn h1 ?_
 simp -implicitDefEqProofs -dsimp only [go_sem, seval, hp.1, hp.2, ↓J0 _ _ q7h]
 refine cpn h2 ?_
 simp -implicitDefEqProofs -dsimp only [go_sem, seval, hp.1, hp.2]
 exact J9 rfl
end Go.Aw
