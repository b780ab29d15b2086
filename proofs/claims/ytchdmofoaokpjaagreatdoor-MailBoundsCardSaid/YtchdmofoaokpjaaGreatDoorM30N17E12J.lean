import Derived.Test.YtchdmofoaokpjaaGreatDoorM30N17E12G
import Derived.Test.YtchdmofoaokpjaaGreatDoorM30N17O16C
namespace Go.Aw
open Go
open Go.Proofs.Tryz (prog)
set_option linter.all false
set_option maxHeartbeats 4000000
theorem z3l (e : En) (k1 k2 : Option Nat) (hf : e.t.Fine) (hr : e.Rng) : PCalls prog q9u [.agg (e.cells k1 k2)] (if qh8 e = true then .tup [bts (q82 e) none, .i .i64 0] else .tup [.fz 0 [] (some 0), .i .i64 1]) := by
 refine K6 U1 qqt (by simp) fun T => ?_
 have h := q9m e k1 k2 hf
 simp only [En.cells] at h
 unfold qjk
 simp -implicitDefEqProofs -dsimp only [go_sem, seval, En.cells, ↓J0 _ _ q6e]
 refine cpn h ?_
 rcases hok : qh8 e with _ | _
 ·simp -implicitDefEqProofs -dsimp only [go_sem, seval, hok]
  exact J9 rfl
 obtain ⟨hep, hkd⟩ := En.good_of hok hr
 obtain ⟨ep, hepm⟩ := Int.eq_ofNat_of_zero_le (show 0 <= e.ep by omega)
 have l1 := K5 (m := ep) (by omega)
 rcases hkd with ⟨h3, h4, h5, h6, h7, h8⟩ | ⟨h3, h4, h5, h6, h7⟩
 ·have u1 : IntKind.u64.wrap 1 = ((1 : Nat) : Int) := by decide +kernel
  have l2 := K5 (m := 1) (by omega)
  have c := qpk e.t k1 k2 ([] ++ enc ep ++ enc 1) none h4 (by simp; omega)
  simp only [Tx.cells] at c
  simp -implicitDefEqProofs -dsimp only [go_sem, seval, hok, hepm, h3, u1, ↓J0 _ _ O4]
  refine cpn (I0 [] (some 0) ep (by decide) (by omega)) ?_
  simp -implicitDefEqProofs -dsimp only [go_sem, seval, ↓J0 _ _ O4]
  refine cpn (I0 ([] ++ enc ep) none 1 (by simp; omega) (by omega)) ?_
  simp -implicitDefEqProofs -dsimp only [go_sem, seval, decide_true, ↓J0 _ _ q9g]
  refine cpn c ?_
  simp -implicitDefEqProofs -dsimp only [go_sem, seval]
  have e1 : [] ++ enc ep ++ enc 1 ++ qfg e.t = q82 e := by simp [q82, h3, hepm]
  refine J9 ?_
  rw [<- e1]; simp
 ·have u1 : IntKind.u64.wrap 2 = ((2 : Nat) : Int) := by decide +kernel
  obtain ⟨cl, hcl⟩ := Int.eq_ofNat_of_zero_le h5.1
  obtain ⟨sq, hsq⟩ := Int.eq_ofNat_of_zero_le (show 0 <= e.sq by omega)
  obtain ⟨co, hco⟩ := Int.eq_ofNat_of_zero_le (show 0 <= e.co by omega)
  have l2 := K5 (m := 2) (by omega)
  have l3 := K5 (m := cl) (by omega)
  have l4 := K5 (m := sq) (by omega)
  simp -implicitDefEqProofs -dsimp only [go_sem, seval, hok, hepm, h3, u1, ↓J0 _ _ O4]
  refine cpn (I0 [] (some 0) ep (by decide) (by omega)) ?_
  simp -implicitDefEqProofs -dsimp only [go_sem, seval, ↓J0 _ _ O4]
  refine cpn (I0 ([] ++ enc ep) none 2 (by simp; omega) (by omega)) ?_
  simp -implicitDefEqProofs -dsimp only [go_sem, seval, decide_false, hcl, hsq, hco, q0m (n := co) (by omega), ↓J0 _ _ qf3]
  refine cpn (qt5 ([] ++ enc ep ++ enc 2) none cl sq (by simp; omega) (by omega) (by omega)) ?_
  simp -implicitDefEqProofs -dsimp only [go_sem, seval, ↓J0 _ _ O4]
  refine cpn (I0 _ none co (by simp; omega) (by omega)) ?_
  simp -implicitDefEqProofs -dsimp only [go_sem, seval]
  have e1 : [] ++ enc ep ++ enc 2 ++ enc cl ++ enc sq ++ enc co = q82 e := by simp [q82, h3, hepm, hcl, hsq, hco]
  refine J9 ?_
  rw [<- e1]; simp
theorem qtb (s : RS) : (rEn s).1.t.Fine := by
 have hz : q51.Fine := ⟨by decide, by decide, fun r hr => (by cases hr), fun r hr => (by cases hr), fun r hr => (by cases hr)⟩
 unfold rEn
 simp only
 split
 ·simp only [q21]
  split
  ·exact qnn _
  ·exact hz
 ·split <;> exact hz
theorem z7t (b : List UInt8) (c : Option Nat) (hb : b.length <= 1000000000) : PCalls prog q9w [bts b c] (.tup [.agg ((q5v (b, false)).cells none none), qnx (q1l (b, false))]) := by
 refine K6 U1 qr5 (by simp) fun T => ?_
 have hl : Len b.length := by unfold Len; omega
 have l1 := q0z (O5 18446744073709551615 (b, false)) hl
 have l2 := q0z (O5 2 _) l1
 have b1 := q1z 2 (K3 18446744073709551615 (b, false)).2
 unfold qjq
 simp -implicitDefEqProofs -dsimp only [go_sem, seval, ↓J0 _ _ qjb]
 refine CallK.of (z1j b c hb) (fun v T1 h => J1 ?_)
 obtain ⟨id, rfl, hid, rfl⟩ := h
 have hT : ∀ s, TabLe T (rT T id s) := fun s => (TabLe.refl T).put hid
 simp -implicitDefEqProofs -dsimp only [go_sem, seval, ↓J0 _ _ q0o]
 refine can (z1k q42 hl) ?_
 simp -implicitDefEqProofs -dsimp only [go_sem, seval, qbx, ↓J0 _ _ N1]
 refine can (q3s q42 2 (by decide) l1) ?_
 have endOk : q7h (b, false) = true -> ∀ s, qlp (.tup [.agg ((rEn (b, false)).1.cells none none), .nilifc]) (fun v T' => v = .tup [.agg ((q5v (b, false)).cells none none), qnx (q1l (b, false))] /\ T' = T) (rT T id s) := fun h s => by
  have e1 : q5v (b, false) = (rEn (b, false)).1 := by simp [q5v, h]
  have e2 : q1l (b, false) = none := by simp [q1l, h]
  rw [e1, e2]; exact (hT s).fin
 have endErr : q7h (b, false) = false -> ∀ s, qlp (.tup [.agg [.i .u64 0, .i .i64 0, .i .i64 0, .i .u64 0, .b false, .fz 0 [] (some 0), .fz 0 [] (some 0), .i .i64 0, .i .u64 0, .i .i64 0], qnx (q1l (b, false))]) (fun v T' => v = .tup [.agg ((q5v (b, false)).cells none none), qnx (q1l (b, false))] /\ T' = T) (rT T id s) := fun h s => by
  have e1 : q5v (b, false) = z1m := by simp [q5v, h]
  rw [e1]
  refine ⟨[], T, _, by simp, by simp, hT s, ?_, rfl, rfl⟩
  rw [qcb]
  exact Wk.tup ⟨Wk.agg ⟨.refl _, .refl _, .refl _, .refl _, .refl _, .fz, .fz, .refl _, .refl _, .refl _, trivial⟩, .refl _, trivial⟩
 have hrt := qxq (b, false)
 have hfine := qtb (b, false)
 have d1 : decide (((K3 2 (K3 18446744073709551615 (b, false)).2).1 : Int) = 1) = decide ((K3 2 (K3 18446744073709551615 (b, false)).2).1 = 1) := decide_eq_decide.2 (by omega)
 have d2 : decide (((K3 2 (K3 18446744073709551615 (b, false)).2).1 : Int) = 2) = decide ((K3 2 (K3 18446744073709551615 (b, false)).2).1 = 2) := decide_eq_decide.2 (by omega)
 have cN := qg7 [101, 110, 116, 114, 121] 3
 rw [if_neg (by decide)] at cN
 have hrT := fun (T : Tab) (id : Nat) (s s' : RS) => qbx (T := T) (id := id) (s := s) (s' := s')
 generalize hA : K3 18446744073709551615 (b, false) = a at *
 generalize hK : K3 2 a.2 = k at *
 have tail : ∀ (x : En) (st : RS) (k1 k2 : Option Nat), rEn (b, false) = (x, st) -> qfh (b, false) = true -> True := fun _ _ _ _ _ _ => trivial
 rcases h1 : decide (k.1 = 1) with _ | _
 case true =>
  have h1' := of_decide_eq_true h1
  have cR := qm2 (q42 (T := T) (id := id) (s := k.2)) l2
  simp only [Tx.cells] at cR
  simp -implicitDefEqProofs -dsimp only [go_sem, seval, d1, h1, qbx, ↓J0 _ _ qbo]
  refine can cR ?_
  have hen : rEn (b, false) = (⟨a.1, k.1, (q21 k.2).1, 0, 0, 0⟩, (rTx k.2).2) := by unfold rEn; simp only [hA, hK]; rw [if_pos h1']
  rcases htx : qi4 k.2 with _ | _
  ·have e1 : (q21 k.2).2 = (Er.flt [116, 120, 110] (.num 3)).av := by simp [q21, htx]; rfl
   have e2 : qfh (b, false) = false := by simp [qfh, hA, hK, h1', htx]
   have e3 : q7h (b, false) = false := by simp [q7h, e2]
   have e4 : q1l (b, false) = some (.flt [101, 110, 116, 114, 121] (.flt [116, 120, 110] (.num 3))) := by simp [q1l, e2, e3]
   have cI := z1l [101, 110, 116, 114, 121] (.flt [116, 120, 110] (.num 3))
   rw [e1]
   simp only [Er.av, q4k] at cI ⊢
   simp -implicitDefEqProofs -dsimp only [go_sem, seval, qkm, ↓J0 _ _ qlz]
   refine cpn cI ?_
   simp -implicitDefEqProofs -dsimp only [go_sem, seval]
   have := endErr e3 (rTx k.2).2
   rw [qbx]
   rw [e4] at this ⊢
   exact this
  ·have e1 : (q21 k.2).2 = .nilifc := by simp [q21, htx]
   have e2 : qfh (b, false) = true := by simp [qfh, hA, hK, h1', htx]
   have c6 := q9m (rEn (b, false)).1 none none hfine
   have e5 : q7h (b, false) = ((!(rTx k.2).2.2 && decide ((rTx k.2).2.1 = [])) && qh8 (rEn (b, false)).1) := by simp [q7h, e2, hen]
   rw [hen] at c6
   simp only [En.cells] at c6
   rw [e1]
   simp -implicitDefEqProofs -dsimp only [go_sem, seval, qkm, qbx, ↓J0 _ _ q3f]
   refine can (qni q42) ?_
   rcases hdn : (!(rTx k.2).2.2 && decide ((rTx k.2).2.1 = [])) with _ | _
   ·have e3 : q7h (b, false) = false := by rw [e5, hdn]; rfl
    have e4 : q1l (b, false) = some (.flt [101, 110, 116, 114, 121] (.num 3)) := by simp [q1l, e2, e3]
    simp -implicitDefEqProofs -dsimp only [go_sem, seval, hdn, ↓Q0, G8, true_and, ↓J0 _ _ G9]
    refine cpn cN ?_
    simp -implicitDefEqProofs -dsimp only [go_sem, seval, q4k]
    have := endErr e3 (rTx k.2).2
    rw [e4] at this ⊢
    exact this
   ·simp -implicitDefEqProofs -dsimp only [go_sem, seval, hdn, ↓Q0, G8, true_and, ↓J0 _ _ q6e]
    refine cpn c6 ?_
    rcases hok : qh8 ⟨a.1, k.1, (q21 k.2).1, 0, 0, 0⟩ with _ | _
    ·have e3 : q7h (b, false) = false := by rw [e5, hdn, hen, hok]; rfl
     have e4 : q1l (b, false) = some (.flt [101, 110, 116, 114, 121] (.num 3)) := by simp [q1l, e2, e3]
     simp -implicitDefEqProofs -dsimp only [go_sem, seval, hok, ↓Q0, G8, true_and, ↓J0 _ _ G9]
     refine cpn cN ?_
     simp -implicitDefEqProofs -dsimp only [go_sem, seval, q4k]
     have := endErr e3 (rTx k.2).2
     rw [e4] at this ⊢
     exact this
    ·have e3 : q7h (b, false) = true := by rw [e5, hdn, hen, hok]; rfl
     simp -implicitDefEqProofs -dsimp only [go_sem, seval, hok, ↓Q0, G8, true_and]
     have := endOk e3 (rTx k.2).2
     rw [hen] at this
     exact this
 rcases h2 : decide (k.1 = 2) with _ | _
 case true =>
  have h2' := of_decide_eq_true h2
  have l3 := q0z (qnm k.2) l2
  simp -implicitDefEqProofs -dsimp only [go_sem, seval, d1, d2, h1, h2, qbx, ↓J0 _ _ qd8]
  refine can (qpl q42 l2) ?_
  simp -implicitDefEqProofs -dsimp only [go_sem, seval, qbx, ↓J0 _ _ N1]
  refine can (q3s q42 99 (by decide) l3) ?_
  have hen : rEn (b, false) = (⟨a.1, k.1, q51, (rID k.2).1.1, (rID k.2).1.2, (K3 99 (rID k.2).2).1⟩, (K3 99 (rID k.2).2).2) := by unfold rEn; simp only [hA, hK]; rw [if_neg (of_decide_eq_false h1), if_pos h2']
  have e2 : qfh (b, false) = true := by simp [qfh, hA, hK, of_decide_eq_false h1]
  have e5 : q7h (b, false) = ((!((K3 99 (rID k.2).2).2).2 && decide (((K3 99 (rID k.2).2).2).1 = [])) && qh8 (rEn (b, false)).1) := by simp [q7h, e2, hen]
  have c6 := q9m (rEn (b, false)).1 (some 0) (some 0) hfine
  rw [hen] at c6
  simp only [En.cells, q51, List.length_nil, List.flatMap_nil] at c6
  simp -implicitDefEqProofs -dsimp only [go_sem, seval, qbx, ↓J0 _ _ q3f]
  refine can (qni q42) ?_
  rcases hdn : (!((K3 99 (rID k.2).2).2).2 && decide (((K3 99 (rID k.2).2).2).1 = [])) with _ | _
  ·have e3 : q7h (b, false) = false := by rw [e5, hdn]; rfl
   have e4 : q1l (b, false) = some (.flt [101, 110, 116, 114, 121] (.num 3)) := by simp [q1l, e2, e3]
   simp -implicitDefEqProofs -dsimp only [go_sem, seval, hdn, ↓Q0, G8, true_and, ↓J0 _ _ G9]
   refine cpn cN ?_
   simp -implicitDefEqProofs -dsimp only [go_sem, seval, q4k]
   have := endErr e3 ((K3 99 (rID k.2).2).2)
   rw [e4] at this ⊢
   exact this
  ·simp -implicitDefEqProofs -dsimp only [go_sem, seval, hdn, ↓Q0, G8, true_and, ↓J0 _ _ q6e]
   refine cpn c6 ?_
   rcases hok : qh8 (⟨a.1, k.1, ⟨0, 0, false, [], []⟩, (rID k.2).1.1, (rID k.2).1.2, (K3 99 (rID k.2).2).1⟩ : En) with _ | _
   ·have e3 : q7h (b, false) = false := by rw [e5, hdn, hen]; simp only [q51, hok]; rfl
    have e4 : q1l (b, false) = some (.flt [101, 110, 116, 114, 121] (.num 3)) := by simp [q1l, e2, e3]
    simp -implicitDefEqProofs -dsimp only [go_sem, seval, hok, ↓Q0, G8, true_and, ↓J0 _ _ G9]
    refine cpn cN ?_
    simp -implicitDefEqProofs -dsimp only [go_sem, seval, q4k]
    have := endErr e3 ((K3 99 (rID k.2).2).2)
    rw [e4] at this ⊢
    exact this
   ·have e3 : q7h (b, false) = true := by rw [e5, hdn, hen]; simp only [q51, hok]; rfl
    simp -implicitDefEqProofs -dsimp only [go_sem, seval, hok, ↓Q0, G8, true_and]
    have e1 : q5v (b, false) = (⟨a.1, k.1, ⟨0, 0, false, [], []⟩, (rID k.2).1.1, (rID k.2).1.2, (K3 99 (rID k.2).2).1⟩ : En) := by simp only [q5v, e3, if_true, hen, q51]
    have e4 : q1l (b, false) = none := by simp [q1l, e3]
    rw [e1, e4]
    refine ⟨[], T, _, by simp, by simp, hT _, ?_, rfl, rfl⟩
    rw [qcb]
    exact Wk.tup ⟨Wk.agg ⟨.refl _, .refl _, .refl _, .refl _, .refl _, .fz, .fz, .refl _, .refl _, .refl _, trivial⟩, .refl _, trivial⟩
 have hen : rEn (b, false) = (⟨a.1, k.1, q51, 0, 0, 0⟩, k.2) := by unfold rEn; simp only [hA, hK]; rw [if_neg (of_decide_eq_false h1), if_neg (of_decide_eq_false h2)]
 have e2 : qfh (b, false) = true := by simp [qfh, hA, hK, of_decide_eq_false h1]
 have e5 : q7h (b, false) = ((!(k.2).2 && decide ((k.2).1 = [])) && qh8 (rEn (b, false)).1) := by simp [q7h, e2, hen]
 have c6 := q9m (rEn (b, false)).1 (some 0) (some 0) hfine
 rw [hen] at c6
 simp only [En.cells, q51, List.length_nil, List.flatMap_nil] at c6
 simp -implicitDefEqProofs -dsimp only [go_sem, seval, d1, d2, h1, h2, qbx, ↓J0 _ _ q3f]
 refine can (qni q42) ?_
 rcases hdn : (!(k.2).2 && decide ((k.2).1 = [])) with _ | _
 ·have e3 : q7h (b, false) = false := by rw [e5, hdn]; rfl
  have e4 : q1l (b, false) = some (.flt [101, 110, 116, 114, 121] (.num 3)) := by simp [q1l, e2, e3]
  simp -implicitDefEqProofs -dsimp only [go_sem, seval, hdn, ↓Q0, G8, true_and, ↓J0 _ _ G9]
  refine cpn cN ?_
  simp -implicitDefEqProofs -dsimp only [go_sem, seval, q4k]
  have := endErr e3 (k.2)
  rw [e4] at this ⊢
  exact this
 ·simp -implicitDefEqProofs -dsimp only [go_sem, seval, hdn, ↓Q0, G8, true_and, ↓J0 _ _ q6e]
  refine cpn c6 ?_
  rcases hok : qh8 (⟨a.1, k.1, ⟨0, 0, false, [], []⟩, 0, 0, 0⟩ : En) with _ | _
  ·have e3 : q7h (b, false) = false := by rw [e5, hdn, hen]; simp only [q51, hok]; rfl
   have e4 : q1l (b, false) = some (.flt [101, 110, 116, 114, 121] (.num 3)) := by simp [q1l, e2, e3]
   simp -implicitDefEqProofs -dsimp only [go_sem, seval, hok, ↓Q0, G8, true_and, ↓J0 _ _ G9]
   refine cpn cN ?_
   simp -implicitDefEqProofs -dsimp only [go_sem, seval, q4k]
   have := endErr e3 (k.2)
   rw [e4] at this ⊢
   exact this
  ·have e3 : q7h (b, false) = true := by rw [e5, hdn, hen]; simp only [q51, hok]; rfl
   simp -implicitDefEqProofs -dsimp only [go_sem, seval, hok, ↓Q0, G8, true_and]
   have e1 : q5v (b, false) = (⟨a.1, k.1, ⟨0, 0, false, [], []⟩, 0, 0, 0⟩ : En) := by simp only [q5v, e3, if_true, hen, q51]
   have e4 : q1l (b, false) = none := by simp [q1l, e3]
   rw [e1, e4]
   refine ⟨[], T, _, by simp, by simp, hT _, ?_, rfl, rfl⟩
   rw [qcb]
   exact Wk.tup ⟨Wk.agg ⟨.refl _, .refl _, .refl _, .refl _, .refl _, .fz, .fz, .refl _, .refl _, .refl _, trivial⟩, .refl _, trivial⟩
theorem z7u (b : List UInt8) (c : Option Nat) (hb : b.length <= 1000000000) : PCalls prog q7q [bts b c] (.tup [.agg ((q5v (b, false)).cells none none), .i .i64 (qav (q1l (b, false)))]) := by
 refine K6 U1 qqz (by simp) fun T => ?_
 have h1 := z7t b c hb
 have h2 := qro (q1l (b, false))
 have hp : (qnx (q1l (b, false))).plain = true /\ ∀ k, (qnx (q1l (b, false))).offLp k = qnx (q1l (b, false)) := by
  cases q1l (b, false) with
  | none => exact ⟨rfl, fun _ => rfl⟩
  | some e => obtain ⟨t, v, he⟩ := e.ifc; simp only [qnx, he]; exact ⟨rfl, fun _ => rfl⟩
 simp only [En.cells] at h1
 generalize qnx (q1l (b, false)) = x at h1 h2 hp
 unfold qjo
 simp -implicitDefEqProofs -dsimp only [go_sem, seval, ↓J0 _ _ qr6]
 refine cpn h1 ?_
 simp -implicitDefEqProofs -dsimp only [go_sem, seval, hp.1, hp.2, ↓J0 _ _ q6v]
 refine cpn h2 ?_
 simp -implicitDefEqProofs -dsimp only [go_sem, seval, hp.1, hp.2]
 exact J9 rfl
end Go.Aw
