import Derived.Test.YteiamcnjlpbihaaGreatDoorN17E12G
import Derived.Test.YteiamcnjlpbihaaGreatDoorN17O16C
namespace Go.Aw
open Go
open Go.Proofs.Tryz (prog)
set_option linter.all false
set_option maxHeartbeats 4000000
theorem z8h (e : En) (k1 k2 : Option Nat) (hf : e.t.Fine) (hr : e.Rng) : PCalls prog qdi [.agg (e.cells k1 k2)] (if qdb e = true then .tup [bts (qkc e) none, .i .i64 0] else .tup [.fz 0 [] (some 0), .i .i64 1]) := by
 refine K6 U7 qv7 (by simp) fun T => ?_
 have h := qd7 e k1 k2 hf
 simp only [En.cells] at h
 unfold qnr
 simp -implicitDefEqProofs -dsimp only [go_sem, seval, En.cells, ↓J0 _ _ q91]
 refine cpn h ?_
 rcases hok : qdb e with _ | _
 ·simp -implicitDefEqProofs -dsimp only [go_sem, seval, hok]
  exact J9 rfl
 obtain ⟨hep, hkd⟩ := En.good_of hok hr
 obtain ⟨ep, hepm⟩ := Int.eq_ofNat_of_zero_le (show 0 <= e.ep by omega)
 have l1 := K7 (m := ep) (by omega)
 rcases hkd with ⟨h3, h4, h5, h6, h7, h8⟩ | ⟨h3, h4, h5, h6, h7⟩
 ·have u1 : IntKind.u64.wrap 1 = ((1 : Nat) : Int) := by decide +kernel
  have l2 := K7 (m := 1) (by omega)
  have c := qty e.t k1 k2 ([] ++ enc ep ++ enc 1) none h4 (by simp; omega)
  simp only [Tx.cells] at c
  simp -implicitDefEqProofs -dsimp only [go_sem, seval, hok, hepm, h3, u1, ↓J0 _ _ Q7]
  refine cpn (q05 [] (some 0) ep (by decide) (by omega)) ?_
  simp -implicitDefEqProofs -dsimp only [go_sem, seval, ↓J0 _ _ Q7]
  refine cpn (q05 ([] ++ enc ep) none 1 (by simp; omega) (by omega)) ?_
  simp -implicitDefEqProofs -dsimp only [go_sem, seval, decide_true, ↓J0 _ _ qcz]
  refine cpn c ?_
  simp -implicitDefEqProofs -dsimp only [go_sem, seval]
  have e1 : [] ++ enc ep ++ enc 1 ++ qrd e.t = qkc e := by simp [qkc, h3, hepm]
  refine J9 ?_
  rw [<- e1]; simp
 ·have u1 : IntKind.u64.wrap 2 = ((2 : Nat) : Int) := by decide +kernel
  obtain ⟨cl, hcl⟩ := Int.eq_ofNat_of_zero_le h5.1
  obtain ⟨sq, hsq⟩ := Int.eq_ofNat_of_zero_le (show 0 <= e.sq by omega)
  obtain ⟨co, hco⟩ := Int.eq_ofNat_of_zero_le (show 0 <= e.co by omega)
  have l2 := K7 (m := 2) (by omega)
  have l3 := K7 (m := cl) (by omega)
  have l4 := K7 (m := sq) (by omega)
  simp -implicitDefEqProofs -dsimp only [go_sem, seval, hok, hepm, h3, u1, ↓J0 _ _ Q7]
  refine cpn (q05 [] (some 0) ep (by decide) (by omega)) ?_
  simp -implicitDefEqProofs -dsimp only [go_sem, seval, ↓J0 _ _ Q7]
  refine cpn (q05 ([] ++ enc ep) none 2 (by simp; omega) (by omega)) ?_
  simp -implicitDefEqProofs -dsimp only [go_sem, seval, decide_false, hcl, hsq, hco, q18 (n := co) (by omega), ↓J0 _ _ qjw]
  refine cpn (qx0 ([] ++ enc ep ++ enc 2) none cl sq (by simp; omega) (by omega) (by omega)) ?_
  simp -implicitDefEqProofs -dsimp only [go_sem, seval, ↓J0 _ _ Q7]
  refine cpn (q05 _ none co (by simp; omega) (by omega)) ?_
  simp -implicitDefEqProofs -dsimp only [go_sem, seval]
  have e1 : [] ++ enc ep ++ enc 2 ++ enc cl ++ enc sq ++ enc co = qkc e := by simp [qkc, h3, hepm, hcl, hsq, hco]
  refine J9 ?_
  rw [<- e1]; simp
theorem qx7 (s : RS) : (rEn s).1.t.Fine := by
 have hz : q8e.Fine := ⟨by decide, by decide, fun r hr => (by cases hr), fun r hr => (by cases hr), fun r hr => (by cases hr)⟩
 unfold rEn
 simp only
 split
 ·simp only [q3y]
  split
  ·exact qri _
  ·exact hz
 ·split <;> exact hz
theorem zcp (b : List UInt8) (c : Option Nat) (hb : b.length <= 1000000000) : PCalls prog qdk [bts b c] (.tup [.agg ((q9d (b, false)).cells none none), qs1 (q2l (b, false))]) := by
 refine K6 U7 qvj (by simp) fun T => ?_
 have hl : Len b.length := by unfold Len; omega
 have l1 := q1l (Q8 18446744073709551615 (b, false)) hl
 have l2 := q1l (Q8 2 _) l1
 have b1 := q2y 2 (K4 18446744073709551615 (b, false)).2
 unfold qo3
 simp -implicitDefEqProofs -dsimp only [go_sem, seval, ↓J0 _ _ qnl]
 refine CallK.of (z6d b c hb) (fun v T1 h => J1 ?_)
 obtain ⟨id, rfl, hid, rfl⟩ := h
 have hT : ∀ s, TabLe T (rT T id s) := fun s => (TabLe.refl T).put hid
 simp -implicitDefEqProofs -dsimp only [go_sem, seval, ↓J0 _ _ q1a]
 refine can (z6e q67 hl) ?_
 simp -implicitDefEqProofs -dsimp only [go_sem, seval, qg1, ↓J0 _ _ N3]
 refine can (q5l q67 2 (by decide) l1) ?_
 have endOk : qck (b, false) = true -> ∀ s, qor (.tup [.agg ((rEn (b, false)).1.cells none none), .nilifc]) (fun v T' => v = .tup [.agg ((q9d (b, false)).cells none none), qs1 (q2l (b, false))] /\ T' = T) (rT T id s) := fun h s => by
  have e1 : q9d (b, false) = (rEn (b, false)).1 := by simp [q9d, h]
  have e2 : q2l (b, false) = none := by simp [q2l, h]
  rw [e1, e2]; exact (hT s).fin
 have endErr : qck (b, false) = false -> ∀ s, qor (.tup [.agg [.i .u64 0, .i .i64 0, .i .i64 0, .i .u64 0, .b false, .fz 0 [] (some 0), .fz 0 [] (some 0), .i .i64 0, .i .u64 0, .i .i64 0], qs1 (q2l (b, false))]) (fun v T' => v = .tup [.agg ((q9d (b, false)).cells none none), qs1 (q2l (b, false))] /\ T' = T) (rT T id s) := fun h s => by
  have e1 : q9d (b, false) = z6g := by simp [q9d, h]
  rw [e1]
  refine ⟨[], T, _, by simp, by simp, hT s, ?_, rfl, rfl⟩
  rw [qgc]
  exact Wk.tup ⟨Wk.agg ⟨.refl _, .refl _, .refl _, .refl _, .refl _, .fz, .fz, .refl _, .refl _, .refl _, trivial⟩, .refl _, trivial⟩
 have hrt := z1z (b, false)
 have hfine := qx7 (b, false)
 have d1 : decide (((K4 2 (K4 18446744073709551615 (b, false)).2).1 : Int) = 1) = decide ((K4 2 (K4 18446744073709551615 (b, false)).2).1 = 1) := decide_eq_decide.2 (by omega)
 have d2 : decide (((K4 2 (K4 18446744073709551615 (b, false)).2).1 : Int) = 2) = decide ((K4 2 (K4 18446744073709551615 (b, false)).2).1 = 2) := decide_eq_decide.2 (by omega)
 have cN := qkx [101, 110, 116, 114, 121] 3
 rw [if_neg (by decide)] at cN
 have hrT := fun (T : Tab) (id : Nat) (s s' : RS) => qg1 (T := T) (id := id) (s := s) (s' := s')
 generalize hA : K4 18446744073709551615 (b, false) = a at *
 generalize hK : K4 2 a.2 = k at *
 have tail : ∀ (x : En) (st : RS) (k1 k2 : Option Nat), rEn (b, false) = (x, st) -> qoi (b, false) = true -> True := fun _ _ _ _ _ _ => trivial
 rcases h1 : decide (k.1 = 1) with _ | _
 case true =>
  have h1' := of_decide_eq_true h1
  have cR := qq1 (q67 (T := T) (id := id) (s := k.2)) l2
  simp only [Tx.cells] at cR
  simp -implicitDefEqProofs -dsimp only [go_sem, seval, d1, h1, qg1, ↓J0 _ _ qfy]
  refine can cR ?_
  have hen : rEn (b, false) = (⟨a.1, k.1, (q3y k.2).1, 0, 0, 0⟩, (rTx k.2).2) := by unfold rEn; simp only [hA, hK]; rw [if_pos h1']
  rcases htx : qp8 k.2 with _ | _
  ·have e1 : (q3y k.2).2 = (Er.flt [116, 120, 110] (.num 3)).av := by simp [q3y, htx]; rfl
   have e2 : qoi (b, false) = false := by simp [qoi, hA, hK, h1', htx]
   have e3 : qck (b, false) = false := by simp [qck, e2]
   have e4 : q2l (b, false) = some (.flt [101, 110, 116, 114, 121] (.flt [116, 120, 110] (.num 3))) := by simp [q2l, e2, e3]
   have cI := z6f [101, 110, 116, 114, 121] (.flt [116, 120, 110] (.num 3))
   rw [e1]
   simp only [Er.av, q72] at cI ⊢
   simp -implicitDefEqProofs -dsimp only [go_sem, seval, qpa, ↓J0 _ _ qpx]
   refine cpn cI ?_
   simp -implicitDefEqProofs -dsimp only [go_sem, seval]
   have := endErr e3 (rTx k.2).2
   rw [qg1]
   rw [e4] at this ⊢
   exact this
  ·have e1 : (q3y k.2).2 = .nilifc := by simp [q3y, htx]
   have e2 : qoi (b, false) = true := by simp [qoi, hA, hK, h1', htx]
   have c6 := qd7 (rEn (b, false)).1 none none hfine
   have e5 : qck (b, false) = ((!(rTx k.2).2.2 && decide ((rTx k.2).2.1 = [])) && qdb (rEn (b, false)).1) := by simp [qck, e2, hen]
   rw [hen] at c6
   simp only [En.cells] at c6
   rw [e1]
   simp -implicitDefEqProofs -dsimp only [go_sem, seval, qpa, qg1, ↓J0 _ _ q58]
   refine can (qre q67) ?_
   rcases hdn : (!(rTx k.2).2.2 && decide ((rTx k.2).2.1 = [])) with _ | _
   ·have e3 : qck (b, false) = false := by rw [e5, hdn]; rfl
    have e4 : q2l (b, false) = some (.flt [101, 110, 116, 114, 121] (.num 3)) := by simp [q2l, e2, e3]
    simp -implicitDefEqProofs -dsimp only [go_sem, seval, hdn, ↓O9, Z3, true_and, ↓J0 _ _ q04]
    refine cpn cN ?_
    simp -implicitDefEqProofs -dsimp only [go_sem, seval, q72]
    have := endErr e3 (rTx k.2).2
    rw [e4] at this ⊢
    exact this
   ·simp -implicitDefEqProofs -dsimp only [go_sem, seval, hdn, ↓O9, Z3, true_and, ↓J0 _ _ q91]
    refine cpn c6 ?_
    rcases hok : qdb ⟨a.1, k.1, (q3y k.2).1, 0, 0, 0⟩ with _ | _
    ·have e3 : qck (b, false) = false := by rw [e5, hdn, hen, hok]; rfl
     have e4 : q2l (b, false) = some (.flt [101, 110, 116, 114, 121] (.num 3)) := by simp [q2l, e2, e3]
     simp -implicitDefEqProofs -dsimp only [go_sem, seval, hok, ↓O9, Z3, true_and, ↓J0 _ _ q04]
     refine cpn cN ?_
     simp -implicitDefEqProofs -dsimp only [go_sem, seval, q72]
     have := endErr e3 (rTx k.2).2
     rw [e4] at this ⊢
     exact this
    ·have e3 : qck (b, false) = true := by rw [e5, hdn, hen, hok]; rfl
     simp -implicitDefEqProofs -dsimp only [go_sem, seval, hok, ↓O9, Z3, true_and]
     have := endOk e3 (rTx k.2).2
     rw [hen] at this
     exact this
 rcases h2 : decide (k.1 = 2) with _ | _
 case true =>
  have h2' := of_decide_eq_true h2
  have l3 := q1l (qrh k.2) l2
  simp -implicitDefEqProofs -dsimp only [go_sem, seval, d1, d2, h1, h2, qg1, ↓J0 _ _ qhw]
  refine can (qtz q67 l2) ?_
  simp -implicitDefEqProofs -dsimp only [go_sem, seval, qg1, ↓J0 _ _ N3]
  refine can (q5l q67 99 (by decide) l3) ?_
  have hen : rEn (b, false) = (⟨a.1, k.1, q8e, (rID k.2).1.1, (rID k.2).1.2, (K4 99 (rID k.2).2).1⟩, (K4 99 (rID k.2).2).2) := by unfold rEn; simp only [hA, hK]; rw [if_neg (of_decide_eq_false h1), if_pos h2']
  have e2 : qoi (b, false) = true := by simp [qoi, hA, hK, of_decide_eq_false h1]
  have e5 : qck (b, false) = ((!((K4 99 (rID k.2).2).2).2 && decide (((K4 99 (rID k.2).2).2).1 = [])) && qdb (rEn (b, false)).1) := by simp [qck, e2, hen]
  have c6 := qd7 (rEn (b, false)).1 (some 0) (some 0) hfine
  rw [hen] at c6
  simp only [En.cells, q8e, List.length_nil, List.flatMap_nil] at c6
  simp -implicitDefEqProofs -dsimp only [go_sem, seval, qg1, ↓J0 _ _ q58]
  refine can (qre q67) ?_
  rcases hdn : (!((K4 99 (rID k.2).2).2).2 && decide (((K4 99 (rID k.2).2).2).1 = [])) with _ | _
  ·have e3 : qck (b, false) = false := by rw [e5, hdn]; rfl
   have e4 : q2l (b, false) = some (.flt [101, 110, 116, 114, 121] (.num 3)) := by simp [q2l, e2, e3]
   simp -implicitDefEqProofs -dsimp only [go_sem, seval, hdn, ↓O9, Z3, true_and, ↓J0 _ _ q04]
   refine cpn cN ?_
   simp -implicitDefEqProofs -dsimp only [go_sem, seval, q72]
   have := endErr e3 ((K4 99 (rID k.2).2).2)
   rw [e4] at this ⊢
   exact this
  ·simp -implicitDefEqProofs -dsimp only [go_sem, seval, hdn, ↓O9, Z3, true_and, ↓J0 _ _ q91]
   refine cpn c6 ?_
   rcases hok : qdb (⟨a.1, k.1, ⟨0, 0, false, [], []⟩, (rID k.2).1.1, (rID k.2).1.2, (K4 99 (rID k.2).2).1⟩ : En) with _ | _
   ·have e3 : qck (b, false) = false := by rw [e5, hdn, hen]; simp only [q8e, hok]; rfl
    have e4 : q2l (b, false) = some (.flt [101, 110, 116, 114, 121] (.num 3)) := by simp [q2l, e2, e3]
    simp -implicitDefEqProofs -dsimp only [go_sem, seval, hok, ↓O9, Z3, true_and, ↓J0 _ _ q04]
    refine cpn cN ?_
    simp -implicitDefEqProofs -dsimp only [go_sem, seval, q72]
    have := endErr e3 ((K4 99 (rID k.2).2).2)
    rw [e4] at this ⊢
    exact this
   ·have e3 : qck (b, false) = true := by rw [e5, hdn, hen]; simp only [q8e, hok]; rfl
    simp -implicitDefEqProofs -dsimp only [go_sem, seval, hok, ↓O9, Z3, true_and]
    have e1 : q9d (b, false) = (⟨a.1, k.1, ⟨0, 0, false, [], []⟩, (rID k.2).1.1, (rID k.2).1.2, (K4 99 (rID k.2).2).1⟩ : En) := by simp only [q9d, e3, if_true, hen, q8e]
    have e4 : q2l (b, false) = none := by simp [q2l, e3]
    rw [e1, e4]
    refine ⟨[], T, _, by simp, by simp, hT _, ?_, rfl, rfl⟩
    rw [qgc]
    exact Wk.tup ⟨Wk.agg ⟨.refl _, .refl _, .refl _, .refl _, .refl _, .fz, .fz, .refl _, .refl _, .refl _, trivial⟩, .refl _, trivial⟩
 have hen : rEn (b, false) = (⟨a.1, k.1, q8e, 0, 0, 0⟩, k.2) := by unfold rEn; simp only [hA, hK]; rw [if_neg (of_decide_eq_false h1), if_neg (of_decide_eq_false h2)]
 have e2 : qoi (b, false) = true := by simp [qoi, hA, hK, of_decide_eq_false h1]
 have e5 : qck (b, false) = ((!(k.2).2 && decide ((k.2).1 = [])) && qdb (rEn (b, false)).1) := by simp [qck, e2, hen]
 have c6 := qd7 (rEn (b, false)).1 (some 0) (some 0) hfine
 rw [hen] at c6
 simp only [En.cells, q8e, List.length_nil, List.flatMap_nil] at c6
 simp -implicitDefEqProofs -dsimp only [go_sem, seval, d1, d2, h1, h2, qg1, ↓J0 _ _ q58]
 refine can (qre q67) ?_
 rcases hdn : (!(k.2).2 && decide ((k.2).1 = [])) with _ | _
 ·have e3 : qck (b, false) = false := by rw [e5, hdn]; rfl
  have e4 : q2l (b, false) = some (.flt [101, 110, 116, 114, 121] (.num 3)) := by simp [q2l, e2, e3]
  simp -implicitDefEqProofs -dsimp only [go_sem, seval, hdn, ↓O9, Z3, true_and, ↓J0 _ _ q04]
  refine cpn cN ?_
  simp -implicitDefEqProofs -dsimp only [go_sem, seval, q72]
  have := endErr e3 (k.2)
  rw [e4] at this ⊢
  exact this
 ·simp -implicitDefEqProofs -dsimp only [go_sem, seval, hdn, ↓O9, Z3, true_and, ↓J0 _ _ q91]
  refine cpn c6 ?_
  rcases hok : qdb (⟨a.1, k.1, ⟨0, 0, false, [], []⟩, 0, 0, 0⟩ : En) with _ | _
  ·have e3 : qck (b, false) = false := by rw [e5, hdn, hen]; simp only [q8e, hok]; rfl
   have e4 : q2l (b, false) = some (.flt [101, 110, 116, 114, 121] (.num 3)) := by simp [q2l, e2, e3]
   simp -implicitDefEqProofs -dsimp only [go_sem, seval, hok, ↓O9, Z3, true_and, ↓J0 _ _ q04]
   refine cpn cN ?_
   simp -implicitDefEqProofs -dsimp only [go_sem, seval, q72]
   have := endErr e3 (k.2)
   rw [e4] at this ⊢
   exact this
  ·have e3 : qck (b, false) = true := by rw [e5, hdn, hen]; simp only [q8e, hok]; rfl
   simp -implicitDefEqProofs -dsimp only [go_sem, seval, hok, ↓O9, Z3, true_and]
   have e1 : q9d (b, false) = (⟨a.1, k.1, ⟨0, 0, false, [], []⟩, 0, 0, 0⟩ : En) := by simp only [q9d, e3, if_true, hen, q8e]
   have e4 : q2l (b, false) = none := by simp [q2l, e3]
   rw [e1, e4]
   refine ⟨[], T, _, by simp, by simp, hT _, ?_, rfl, rfl⟩
   rw [qgc]
   exact Wk.tup ⟨Wk.agg ⟨.refl _, .refl _, .refl _, .refl _, .refl _, .fz, .fz, .refl _, .refl _, .refl _, trivial⟩, .refl _, trivial⟩
theorem zcq (b : List UInt8) (c : Option Nat) (hb : b.length <= 1000000000) : PCalls prog qb3 [bts b c] (.tup [.agg ((q9d (b, false)).cells none none), .i .i64 (qd8 (q2l (b, false)))]) := by
 refine K6 U7 qvd (by simp) fun T => ?_
 have h1 := zcp b c hb
 have h2 := qwb (q2l (b, false))
 have hp : (qs1 (q2l (b, false))).plain = true /\ ∀ k, (qs1 (q2l (b, false))).offLp k = qs1 (q2l (b, false)) := by
  cases q2l (b, false) with
  | none => exact ⟨rfl, fun _ => rfl⟩
  | some e => obtain ⟨t, v, he⟩ := e.ifc; simp only [qs1, he]; exact ⟨rfl, fun _ => rfl⟩
 simp only [En.cells] at h1
 generalize qs1 (q2l (b, false)) = x at h1 h2 hp
 unfold qny
 simp -implicitDefEqProofs -dsimp only [go_sem, seval, ↓J0 _ _ qvk]
 refine cpn h1 ?_
 simp -implicitDefEqProofs -dsimp only [go_sem, seval, hp.1, hp.2, ↓J0 _ _ q9v]
 refine cpn h2 ?_
 simp -implicitDefEqProofs -dsimp only [go_sem, seval, hp.1, hp.2]
 exact J9 rfl
end Go.Aw
