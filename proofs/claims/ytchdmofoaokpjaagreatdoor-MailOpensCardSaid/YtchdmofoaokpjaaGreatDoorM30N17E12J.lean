import Derived.Test.YtchdmofoaokpjaaGreatDoorM30N17E12G
import Derived.Test.YtchdmofoaokpjaaGreatDoorM30N17O16C
namespace Go.Aw
open Go
open Go.Proofs.Tryz (prog)
set_option linter.all false
set_option maxHeartbeats 4000000
theorem z61 (e : En) (k1 k2 : Option Nat) (hf : e.t.Fine) (hr : e.Rng) : PCalls prog qay [.agg (e.cells k1 k2)] (if qim e = true then .tup [bts (q93 e) none, .i .i64 0] else .tup [.fz 0 [] (some 0), .i .i64 1]) := by
 refine K6 U1 qs6 (by simp) fun T => ?_
 have h := qaq e k1 k2 hf
 simp only [En.cells] at h
 unfold qkw
 simp -implicitDefEqProofs -dsimp only [go_sem, seval, En.cells, ↓J0 _ _ q75]
 refine cpn h ?_
 rcases hok : qim e with _ | _
 ·simp -implicitDefEqProofs -dsimp only [go_sem, seval, hok]
  exact J9 rfl
 obtain ⟨hep, hkd⟩ := En.good_of hok hr
 obtain ⟨ep, hepm⟩ := Int.eq_ofNat_of_zero_le (show 0 <= e.ep by omega)
 have l1 := K5 (m := ep) (by omega)
 rcases hkd with ⟨h3, h4, h5, h6, h7, h8⟩ | ⟨h3, h4, h5, h6, h7⟩
 ·have u1 : IntKind.u64.wrap 1 = ((1 : Nat) : Int) := by decide +kernel
  have l2 := K5 (m := 1) (by omega)
  have c := qqx e.t k1 k2 ([] ++ enc ep ++ enc 1) none h4 (by simp; omega)
  simp only [Tx.cells] at c
  simp -implicitDefEqProofs -dsimp only [go_sem, seval, hok, hepm, h3, u1, ↓J0 _ _ O4]
  refine cpn (I4 [] (some 0) ep (by decide) (by omega)) ?_
  simp -implicitDefEqProofs -dsimp only [go_sem, seval, ↓J0 _ _ O4]
  refine cpn (I4 ([] ++ enc ep) none 1 (by simp; omega) (by omega)) ?_
  simp -implicitDefEqProofs -dsimp only [go_sem, seval, decide_true, ↓J0 _ _ qak]
  refine cpn c ?_
  simp -implicitDefEqProofs -dsimp only [go_sem, seval]
  have e1 : [] ++ enc ep ++ enc 1 ++ qgv e.t = q93 e := by simp [q93, h3, hepm]
  refine J9 ?_
  rw [<- e1]; simp
 ·have u1 : IntKind.u64.wrap 2 = ((2 : Nat) : Int) := by decide +kernel
  obtain ⟨cl, hcl⟩ := Int.eq_ofNat_of_zero_le h5.1
  obtain ⟨sq, hsq⟩ := Int.eq_ofNat_of_zero_le (show 0 <= e.sq by omega)
  obtain ⟨co, hco⟩ := Int.eq_ofNat_of_zero_le (show 0 <= e.co by omega)
  have l2 := K5 (m := 2) (by omega)
  have l3 := K5 (m := cl) (by omega)
  have l4 := K5 (m := sq) (by omega)
  simp -implicitDefEqProofs -dsimp only [go_sem, seval, hok, hepm, h3, u1, ↓J0 _ _ O4]
  refine cpn (I4 [] (some 0) ep (by decide) (by omega)) ?_
  simp -implicitDefEqProofs -dsimp only [go_sem, seval, ↓J0 _ _ O4]
  refine cpn (I4 ([] ++ enc ep) none 2 (by simp; omega) (by omega)) ?_
  simp -implicitDefEqProofs -dsimp only [go_sem, seval, decide_false, hcl, hsq, hco, q0q (n := co) (by omega), ↓J0 _ _ qgh]
  refine cpn (quj ([] ++ enc ep ++ enc 2) none cl sq (by simp; omega) (by omega) (by omega)) ?_
  simp -implicitDefEqProofs -dsimp only [go_sem, seval, ↓J0 _ _ O4]
  refine cpn (I4 _ none co (by simp; omega) (by omega)) ?_
  simp -implicitDefEqProofs -dsimp only [go_sem, seval]
  have e1 : [] ++ enc ep ++ enc 2 ++ enc cl ++ enc sq ++ enc co = q93 e := by simp [q93, h3, hepm, hcl, hsq, hco]
  refine J9 ?_
  rw [<- e1]; simp
theorem qur (s : RS) : (rEn s).1.t.Fine := by
 have hz : q5s.Fine := ⟨by decide, by decide, fun r hr => (by cases hr), fun r hr => (by cases hr), fun r hr => (by cases hr)⟩
 unfold rEn
 simp only
 split
 ·simp only [q27]
  split
  ·exact qox _
  ·exact hz
 ·split <;> exact hz
theorem zab (b : List UInt8) (c : Option Nat) (hb : b.length <= 1000000000) : PCalls prog qb0 [bts b c] (.tup [.agg ((q6l (b, false)).cells none none), qp6 (q1p (b, false))]) := by
 refine K6 U1 qsi (by simp) fun T => ?_
 have hl : Len b.length := by unfold Len; omega
 have l1 := q14 (O7 18446744073709551615 (b, false)) hl
 have l2 := q14 (O7 2 _) l1
 have b1 := q24 2 (K3 18446744073709551615 (b, false)).2
 unfold ql2
 simp -implicitDefEqProofs -dsimp only [go_sem, seval, ↓J0 _ _ qkn]
 refine CallK.of (z3u b c hb) (fun v T1 h => J1 ?_)
 obtain ⟨id, rfl, hid, rfl⟩ := h
 have hT : ∀ s, TabLe T (rT T id s) := fun s => (TabLe.refl T).put hid
 simp -implicitDefEqProofs -dsimp only [go_sem, seval, ↓J0 _ _ q0s]
 refine can (z3v q4i hl) ?_
 simp -implicitDefEqProofs -dsimp only [go_sem, seval, qd6, ↓J0 _ _ N2]
 refine can (q45 q4i 2 (by decide) l1) ?_
 have endOk : q8d (b, false) = true -> ∀ s, qn5 (.tup [.agg ((rEn (b, false)).1.cells none none), .nilifc]) (fun v T' => v = .tup [.agg ((q6l (b, false)).cells none none), qp6 (q1p (b, false))] /\ T' = T) (rT T id s) := fun h s => by
  have e1 : q6l (b, false) = (rEn (b, false)).1 := by simp [q6l, h]
  have e2 : q1p (b, false) = none := by simp [q1p, h]
  rw [e1, e2]; exact (hT s).fin
 have endErr : q8d (b, false) = false -> ∀ s, qn5 (.tup [.agg [.i .u64 0, .i .i64 0, .i .i64 0, .i .u64 0, .b false, .fz 0 [] (some 0), .fz 0 [] (some 0), .i .i64 0, .i .u64 0, .i .i64 0], qp6 (q1p (b, false))]) (fun v T' => v = .tup [.agg ((q6l (b, false)).cells none none), qp6 (q1p (b, false))] /\ T' = T) (rT T id s) := fun h s => by
  have e1 : q6l (b, false) = z3x := by simp [q6l, h]
  rw [e1]
  refine ⟨[], T, _, by simp, by simp, hT s, ?_, rfl, rfl⟩
  rw [qdh]
  exact Wk.tup ⟨Wk.agg ⟨.refl _, .refl _, .refl _, .refl _, .refl _, .fz, .fz, .refl _, .refl _, .refl _, trivial⟩, .refl _, trivial⟩
 have hrt := qzi (b, false)
 have hfine := qur (b, false)
 have d1 : decide (((K3 2 (K3 18446744073709551615 (b, false)).2).1 : Int) = 1) = decide ((K3 2 (K3 18446744073709551615 (b, false)).2).1 = 1) := decide_eq_decide.2 (by omega)
 have d2 : decide (((K3 2 (K3 18446744073709551615 (b, false)).2).1 : Int) = 2) = decide ((K3 2 (K3 18446744073709551615 (b, false)).2).1 = 2) := decide_eq_decide.2 (by omega)
 have cN := qhn [101, 110, 116, 114, 121] 3
 rw [if_neg (by decide)] at cN
 have hrT := fun (T : Tab) (id : Nat) (s s' : RS) => qd6 (T := T) (id := id) (s := s) (s' := s')
 generalize hA : K3 18446744073709551615 (b, false) = a at *
 generalize hK : K3 2 a.2 = k at *
 have tail : ∀ (x : En) (st : RS) (k1 k2 : Option Nat), rEn (b, false) = (x, st) -> qgw (b, false) = true -> True := fun _ _ _ _ _ _ => trivial
 rcases h1 : decide (k.1 = 1) with _ | _
 case true =>
  have h1' := of_decide_eq_true h1
  have cR := qni (q4i (T := T) (id := id) (s := k.2)) l2
  simp only [Tx.cells] at cR
  simp -implicitDefEqProofs -dsimp only [go_sem, seval, d1, h1, qd6, ↓J0 _ _ qcw]
  refine can cR ?_
  have hen : rEn (b, false) = (⟨a.1, k.1, (q27 k.2).1, 0, 0, 0⟩, (rTx k.2).2) := by unfold rEn; simp only [hA, hK]; rw [if_pos h1']
  rcases htx : qjf k.2 with _ | _
  ·have e1 : (q27 k.2).2 = (Er.flt [116, 120, 110] (.num 3)).av := by simp [q27, htx]; rfl
   have e2 : qgw (b, false) = false := by simp [qgw, hA, hK, h1', htx]
   have e3 : q8d (b, false) = false := by simp [q8d, e2]
   have e4 : q1p (b, false) = some (.flt [101, 110, 116, 114, 121] (.flt [116, 120, 110] (.num 3))) := by simp [q1p, e2, e3]
   have cI := z3w [101, 110, 116, 114, 121] (.flt [116, 120, 110] (.num 3))
   rw [e1]
   simp only [Er.av, q56] at cI ⊢
   simp -implicitDefEqProofs -dsimp only [go_sem, seval, qm1, ↓J0 _ _ qnf]
   refine cpn cI ?_
   simp -implicitDefEqProofs -dsimp only [go_sem, seval]
   have := endErr e3 (rTx k.2).2
   rw [qd6]
   rw [e4] at this ⊢
   exact this
  ·have e1 : (q27 k.2).2 = .nilifc := by simp [q27, htx]
   have e2 : qgw (b, false) = true := by simp [qgw, hA, hK, h1', htx]
   have c6 := qaq (rEn (b, false)).1 none none hfine
   have e5 : q8d (b, false) = ((!(rTx k.2).2.2 && decide ((rTx k.2).2.1 = [])) && qim (rEn (b, false)).1) := by simp [q8d, e2, hen]
   rw [hen] at c6
   simp only [En.cells] at c6
   rw [e1]
   simp -implicitDefEqProofs -dsimp only [go_sem, seval, qm1, qd6, ↓J0 _ _ q3q]
   refine can (qos q4i) ?_
   rcases hdn : (!(rTx k.2).2.2 && decide ((rTx k.2).2.1 = [])) with _ | _
   ·have e3 : q8d (b, false) = false := by rw [e5, hdn]; rfl
    have e4 : q1p (b, false) = some (.flt [101, 110, 116, 114, 121] (.num 3)) := by simp [q1p, e2, e3]
    simp -implicitDefEqProofs -dsimp only [go_sem, seval, hdn, ↓Q2, I2, true_and, ↓J0 _ _ I3]
    refine cpn cN ?_
    simp -implicitDefEqProofs -dsimp only [go_sem, seval, q56]
    have := endErr e3 (rTx k.2).2
    rw [e4] at this ⊢
    exact this
   ·simp -implicitDefEqProofs -dsimp only [go_sem, seval, hdn, ↓Q2, I2, true_and, ↓J0 _ _ q75]
    refine cpn c6 ?_
    rcases hok : qim ⟨a.1, k.1, (q27 k.2).1, 0, 0, 0⟩ with _ | _
    ·have e3 : q8d (b, false) = false := by rw [e5, hdn, hen, hok]; rfl
     have e4 : q1p (b, false) = some (.flt [101, 110, 116, 114, 121] (.num 3)) := by simp [q1p, e2, e3]
     simp -implicitDefEqProofs -dsimp only [go_sem, seval, hok, ↓Q2, I2, true_and, ↓J0 _ _ I3]
     refine cpn cN ?_
     simp -implicitDefEqProofs -dsimp only [go_sem, seval, q56]
     have := endErr e3 (rTx k.2).2
     rw [e4] at this ⊢
     exact this
    ·have e3 : q8d (b, false) = true := by rw [e5, hdn, hen, hok]; rfl
     simp -implicitDefEqProofs -dsimp only [go_sem, seval, hok, ↓Q2, I2, true_and]
     have := endOk e3 (rTx k.2).2
     rw [hen] at this
     exact this
 rcases h2 : decide (k.1 = 2) with _ | _
 case true =>
  have h2' := of_decide_eq_true h2
  have l3 := q14 (qow k.2) l2
  simp -implicitDefEqProofs -dsimp only [go_sem, seval, d1, d2, h1, h2, qd6, ↓J0 _ _ qeg]
  refine can (qqy q4i l2) ?_
  simp -implicitDefEqProofs -dsimp only [go_sem, seval, qd6, ↓J0 _ _ N2]
  refine can (q45 q4i 99 (by decide) l3) ?_
  have hen : rEn (b, false) = (⟨a.1, k.1, q5s, (rID k.2).1.1, (rID k.2).1.2, (K3 99 (rID k.2).2).1⟩, (K3 99 (rID k.2).2).2) := by unfold rEn; simp only [hA, hK]; rw [if_neg (of_decide_eq_false h1), if_pos h2']
  have e2 : qgw (b, false) = true := by simp [qgw, hA, hK, of_decide_eq_false h1]
  have e5 : q8d (b, false) = ((!((K3 99 (rID k.2).2).2).2 && decide (((K3 99 (rID k.2).2).2).1 = [])) && qim (rEn (b, false)).1) := by simp [q8d, e2, hen]
  have c6 := qaq (rEn (b, false)).1 (some 0) (some 0) hfine
  rw [hen] at c6
  simp only [En.cells, q5s, List.length_nil, List.flatMap_nil] at c6
  simp -implicitDefEqProofs -dsimp only [go_sem, seval, qd6, ↓J0 _ _ q3q]
  refine can (qos q4i) ?_
  rcases hdn : (!((K3 99 (rID k.2).2).2).2 && decide (((K3 99 (rID k.2).2).2).1 = [])) with _ | _
  ·have e3 : q8d (b, false) = false := by rw [e5, hdn]; rfl
   have e4 : q1p (b, false) = some (.flt [101, 110, 116, 114, 121] (.num 3)) := by simp [q1p, e2, e3]
   simp -implicitDefEqProofs -dsimp only [go_sem, seval, hdn, ↓Q2, I2, true_and, ↓J0 _ _ I3]
   refine cpn cN ?_
   simp -implicitDefEqProofs -dsimp only [go_sem, seval, q56]
   have := endErr e3 ((K3 99 (rID k.2).2).2)
   rw [e4] at this ⊢
   exact this
  ·simp -implicitDefEqProofs -dsimp only [go_sem, seval, hdn, ↓Q2, I2, true_and, ↓J0 _ _ q75]
   refine cpn c6 ?_
   rcases hok : qim (⟨a.1, k.1, ⟨0, 0, false, [], []⟩, (rID k.2).1.1, (rID k.2).1.2, (K3 99 (rID k.2).2).1⟩ : En) with _ | _
   ·have e3 : q8d (b, false) = false := by rw [e5, hdn, hen]; simp only [q5s, hok]; rfl
    have e4 : q1p (b, false) = some (.flt [101, 110, 116, 114, 121] (.num 3)) := by simp [q1p, e2, e3]
    simp -implicitDefEqProofs -dsimp only [go_sem, seval, hok, ↓Q2, I2, true_and, ↓J0 _ _ I3]
    refine cpn cN ?_
    simp -implicitDefEqProofs -dsimp only [go_sem, seval, q56]
    have := endErr e3 ((K3 99 (rID k.2).2).2)
    rw [e4] at this ⊢
    exact this
   ·have e3 : q8d (b, false) = true := by rw [e5, hdn, hen]; simp only [q5s, hok]; rfl
    simp -implicitDefEqProofs -dsimp only [go_sem, seval, hok, ↓Q2, I2, true_and]
    have e1 : q6l (b, false) = (⟨a.1, k.1, ⟨0, 0, false, [], []⟩, (rID k.2).1.1, (rID k.2).1.2, (K3 99 (rID k.2).2).1⟩ : En) := by simp only [q6l, e3, if_true, hen, q5s]
    have e4 : q1p (b, false) = none := by simp [q1p, e3]
    rw [e1, e4]
    refine ⟨[], T, _, by simp, by simp, hT _, ?_, rfl, rfl⟩
    rw [qdh]
    exact Wk.tup ⟨Wk.agg ⟨.refl _, .refl _, .refl _, .refl _, .refl _, .fz, .fz, .refl _, .refl _, .refl _, trivial⟩, .refl _, trivial⟩
 have hen : rEn (b, false) = (⟨a.1, k.1, q5s, 0, 0, 0⟩, k.2) := by unfold rEn; simp only [hA, hK]; rw [if_neg (of_decide_eq_false h1), if_neg (of_decide_eq_false h2)]
 have e2 : qgw (b, false) = true := by simp [qgw, hA, hK, of_decide_eq_false h1]
 have e5 : q8d (b, false) = ((!(k.2).2 && decide ((k.2).1 = [])) && qim (rEn (b, false)).1) := by simp [q8d, e2, hen]
 have c6 := qaq (rEn (b, false)).1 (some 0) (some 0) hfine
 rw [hen] at c6
 simp only [En.cells, q5s, List.length_nil, List.flatMap_nil] at c6
 simp -implicitDefEqProofs -dsimp only [go_sem, seval, d1, d2, h1, h2, qd6, ↓J0 _ _ q3q]
 refine can (qos q4i) ?_
 rcases hdn : (!(k.2).2 && decide ((k.2).1 = [])) with _ | _
 ·have e3 : q8d (b, false) = false := by rw [e5, hdn]; rfl
  have e4 : q1p (b, false) = some (.flt [101, 110, 116, 114, 121] (.num 3)) := by simp [q1p, e2, e3]
  simp -implicitDefEqProofs -dsimp only [go_sem, seval, hdn, ↓Q2, I2, true_and, ↓J0 _ _ I3]
  refine cpn cN ?_
  simp -implicitDefEqProofs -dsimp only [go_sem, seval, q56]
  have := endErr e3 (k.2)
  rw [e4] at this ⊢
  exact this
 ·simp -implicitDefEqProofs -dsimp only [go_sem, seval, hdn, ↓Q2, I2, true_and, ↓J0 _ _ q75]
  refine cpn c6 ?_
  rcases hok : qim (⟨a.1, k.1, ⟨0, 0, false, [], []⟩, 0, 0, 0⟩ : En) with _ | _
  ·have e3 : q8d (b, false) = false := by rw [e5, hdn, hen]; simp only [q5s, hok]; rfl
   have e4 : q1p (b, false) = some (.flt [101, 110, 116, 114, 121] (.num 3)) := by simp [q1p, e2, e3]
   simp -implicitDefEqProofs -dsimp only [go_sem, seval, hok, ↓Q2, I2, true_and, ↓J0 _ _ I3]
   refine cpn cN ?_
   simp -implicitDefEqProofs -dsimp only [go_sem, seval, q56]
   have := endErr e3 (k.2)
   rw [e4] at this ⊢
   exact this
  ·have e3 : q8d (b, false) = true := by rw [e5, hdn, hen]; simp only [q5s, hok]; rfl
   simp -implicitDefEqProofs -dsimp only [go_sem, seval, hok, ↓Q2, I2, true_and]
   have e1 : q6l (b, false) = (⟨a.1, k.1, ⟨0, 0, false, [], []⟩, 0, 0, 0⟩ : En) := by simp only [q6l, e3, if_true, hen, q5s]
   have e4 : q1p (b, false) = none := by simp [q1p, e3]
   rw [e1, e4]
   refine ⟨[], T, _, by simp, by simp, hT _, ?_, rfl, rfl⟩
   rw [qdh]
   exact Wk.tup ⟨Wk.agg ⟨.refl _, .refl _, .refl _, .refl _, .refl _, .fz, .fz, .refl _, .refl _, .refl _, trivial⟩, .refl _, trivial⟩
theorem zac (b : List UInt8) (c : Option Nat) (hb : b.length <= 1000000000) : PCalls prog q8m [bts b c] (.tup [.agg ((q6l (b, false)).cells none none), .i .i64 (q57 (q1p (b, false)))]) := by
 refine K6 U1 qsc (by simp) fun T => ?_
 have h1 := zab b c hb
 have h2 := qt1 (q1p (b, false))
 have hp : (qp6 (q1p (b, false))).plain = true /\ ∀ k, (qp6 (q1p (b, false))).offLp k = qp6 (q1p (b, false)) := by
  cases q1p (b, false) with
  | none => exact ⟨rfl, fun _ => rfl⟩
  | some e => obtain ⟨t, v, he⟩ := e.ifc; simp only [qp6, he]; exact ⟨rfl, fun _ => rfl⟩
 simp only [En.cells] at h1
 generalize qp6 (q1p (b, false)) = x at h1 h2 hp
 unfold ql0
 simp -implicitDefEqProofs -dsimp only [go_sem, seval, ↓J0 _ _ qsj]
 refine cpn h1 ?_
 simp -implicitDefEqProofs -dsimp only [go_sem, seval, hp.1, hp.2, ↓J0 _ _ q7p]
 refine cpn h2 ?_
 simp -implicitDefEqProofs -dsimp only [go_sem, seval, hp.1, hp.2]
 exact J9 rfl
end Go.Aw
