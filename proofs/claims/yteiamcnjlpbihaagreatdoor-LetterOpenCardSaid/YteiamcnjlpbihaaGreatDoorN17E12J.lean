import Derived.Test.YteiamcnjlpbihaaGreatDoorN17E12G
import Derived.Test.YteiamcnjlpbihaaGreatDoorN17O16C
namespace Go.Aw
open Go
open Go.Proofs.Tryz (prog)
set_option linter.all false
set_option maxHeartbeats 4000000
theorem zcz (e : En) (k1 k2 : Option Nat) (hf : e.t.Fine) (hr : e.Rng) : PCalls prog qft [.agg (e.cells k1 k2)] (if qeo e = true then .tup [bts (qaq e) none, .i .i64 0] else .tup [.fz 0 [] (some 0), .i .i64 1]) := by
 refine K7 U3 z01 (by simp) fun T => ?_
 have h := qfi e k1 k2 hf
 simp only [En.cells] at h
 unfold qrl
 simp -implicitDefEqProofs -dsimp only [go_sem, seval, En.cells, ↓J0 _ _ qag]
 refine cpn h ?_
 rcases hok : qeo e with _ | _
 ·simp -implicitDefEqProofs -dsimp only [go_sem, seval, hok]
  exact J9 rfl
 obtain ⟨hep, hkd⟩ := En.good_of hok hr
 obtain ⟨ep, hepm⟩ := Int.eq_ofNat_of_zero_le (show 0 <= e.ep by omega)
 have l1 := K5 (m := ep) (by omega)
 rcases hkd with ⟨h3, h4, h5, h6, h7, h8⟩ | ⟨h3, h4, h5, h6, h7⟩
 ·have u1 : IntKind.u64.wrap 1 = ((1 : Nat) : Int) := by decide +kernel
  have l2 := K5 (m := 1) (by omega)
  have c := qyk e.t k1 k2 ([] ++ enc ep ++ enc 1) none h4 (by simp; omega)
  simp only [Tx.cells] at c
  simp -implicitDefEqProofs -dsimp only [go_sem, seval, hok, hepm, h3, u1, ↓J0 _ _ U1]
  refine cpn (q0h [] (some 0) ep (by decide) (by omega)) ?_
  simp -implicitDefEqProofs -dsimp only [go_sem, seval, ↓J0 _ _ U1]
  refine cpn (q0h ([] ++ enc ep) none 1 (by simp; omega) (by omega)) ?_
  simp -implicitDefEqProofs -dsimp only [go_sem, seval, decide_true, ↓J0 _ _ qf8]
  refine cpn c ?_
  simp -implicitDefEqProofs -dsimp only [go_sem, seval]
  have e1 : [] ++ enc ep ++ enc 1 ++ qay e.t = qaq e := by simp [qaq, h3, hepm]
  refine J9 ?_
  rw [<- e1]; simp
 ·have u1 : IntKind.u64.wrap 2 = ((2 : Nat) : Int) := by decide +kernel
  obtain ⟨cl, hcl⟩ := Int.eq_ofNat_of_zero_le h5.1
  obtain ⟨sq, hsq⟩ := Int.eq_ofNat_of_zero_le (show 0 <= e.sq by omega)
  obtain ⟨co, hco⟩ := Int.eq_ofNat_of_zero_le (show 0 <= e.co by omega)
  have l2 := K5 (m := 2) (by omega)
  have l3 := K5 (m := cl) (by omega)
  have l4 := K5 (m := sq) (by omega)
  simp -implicitDefEqProofs -dsimp only [go_sem, seval, hok, hepm, h3, u1, ↓J0 _ _ U1]
  refine cpn (q0h [] (some 0) ep (by decide) (by omega)) ?_
  simp -implicitDefEqProofs -dsimp only [go_sem, seval, ↓J0 _ _ U1]
  refine cpn (q0h ([] ++ enc ep) none 2 (by simp; omega) (by omega)) ?_
  simp -implicitDefEqProofs -dsimp only [go_sem, seval, decide_false, hcl, hsq, hco, q0r (n := co) (by omega), ↓J0 _ _ qnl]
  refine cpn (z1s ([] ++ enc ep ++ enc 2) none cl sq (by simp; omega) (by omega) (by omega)) ?_
  simp -implicitDefEqProofs -dsimp only [go_sem, seval, ↓J0 _ _ U1]
  refine cpn (q0h _ none co (by simp; omega) (by omega)) ?_
  simp -implicitDefEqProofs -dsimp only [go_sem, seval]
  have e1 : [] ++ enc ep ++ enc 2 ++ enc cl ++ enc sq ++ enc co = qaq e := by simp [qaq, h3, hepm, hcl, hsq, hco]
  refine J9 ?_
  rw [<- e1]; simp
theorem z20 (s : RS) : (rEn s).1.t.Fine := by
 have hz : q9o.Fine := ⟨by decide, by decide, fun r hr => (by cases hr), fun r hr => (by cases hr), fun r hr => (by cases hr)⟩
 unfold rEn
 simp only
 split
 ·simp only [q3e]
  split
  ·exact qw0 _
  ·exact hz
 ·split <;> exact hz
theorem zhf (b : List UInt8) (c : Option Nat) (hb : b.length <= 1000000000) : PCalls prog qfv [bts b c] (.tup [.agg ((qan (b, false)).cells none none), qwj (q34 (b, false))]) := by
 refine K7 U3 z0d (by simp) fun T => ?_
 have hl : Len b.length := by unfold Len; omega
 have l1 := q26 (U2 18446744073709551615 (b, false)) hl
 have l2 := q26 (U2 2 _) l1
 have b1 := q1d 2 (K2 18446744073709551615 (b, false)).2
 unfold qrx
 simp -implicitDefEqProofs -dsimp only [go_sem, seval, ↓J0 _ _ qrf]
 refine CallK.of (zau b c hb) (fun v T1 h => J1 ?_)
 obtain ⟨id, rfl, hid, rfl⟩ := h
 have hT : ∀ s, TabLe T (rT T id s) := fun s => (TabLe.refl T).put hid
 simp -implicitDefEqProofs -dsimp only [go_sem, seval, ↓J0 _ _ q1n]
 refine can (zav q77 hl) ?_
 simp -implicitDefEqProofs -dsimp only [go_sem, seval, qif, ↓J0 _ _ N8]
 refine can (q6d q77 2 (by decide) l1) ?_
 have endOk : qce (b, false) = true -> ∀ s, qta (.tup [.agg ((rEn (b, false)).1.cells none none), .nilifc]) (fun v T' => v = .tup [.agg ((qan (b, false)).cells none none), qwj (q34 (b, false))] /\ T' = T) (rT T id s) := fun h s => by
  have e1 : qan (b, false) = (rEn (b, false)).1 := by simp [qan, h]
  have e2 : q34 (b, false) = none := by simp [q34, h]
  rw [e1, e2]; exact (hT s).fin
 have endErr : qce (b, false) = false -> ∀ s, qta (.tup [.agg [.i .u64 0, .i .i64 0, .i .i64 0, .i .u64 0, .b false, .fz 0 [] (some 0), .fz 0 [] (some 0), .i .i64 0, .i .u64 0, .i .i64 0], qwj (q34 (b, false))]) (fun v T' => v = .tup [.agg ((qan (b, false)).cells none none), qwj (q34 (b, false))] /\ T' = T) (rT T id s) := fun h s => by
  have e1 : qan (b, false) = zay := by simp [qan, h]
  rw [e1]
  refine ⟨[], T, _, by simp, by simp, hT s, ?_, rfl, rfl⟩
  rw [qiv]
  exact Wk.tup ⟨Wk.agg ⟨.refl _, .refl _, .refl _, .refl _, .refl _, .fz, .fz, .refl _, .refl _, .refl _, trivial⟩, .refl _, trivial⟩
 have hrt := z10 (b, false)
 have hfine := z20 (b, false)
 have d1 : decide (((K2 2 (K2 18446744073709551615 (b, false)).2).1 : Int) = 1) = decide ((K2 2 (K2 18446744073709551615 (b, false)).2).1 = 1) := decide_eq_decide.2 (by omega)
 have d2 : decide (((K2 2 (K2 18446744073709551615 (b, false)).2).1 : Int) = 2) = decide ((K2 2 (K2 18446744073709551615 (b, false)).2).1 = 2) := decide_eq_decide.2 (by omega)
 have cN := qou [101, 110, 116, 114, 121] 3
 rw [if_neg (by decide)] at cN
 have hrT := fun (T : Tab) (id : Nat) (s s' : RS) => qif (T := T) (id := id) (s := s) (s' := s')
 generalize hA : K2 18446744073709551615 (b, false) = a at *
 generalize hK : K2 2 a.2 = k at *
 have tail : ∀ (x : En) (st : RS) (k1 k2 : Option Nat), rEn (b, false) = (x, st) -> qqc (b, false) = true -> True := fun _ _ _ _ _ _ => trivial
 rcases h1 : decide (k.1 = 1) with _ | _
 case true =>
  have h1' := of_decide_eq_true h1
  have cR := quj (q77 (T := T) (id := id) (s := k.2)) l2
  simp only [Tx.cells] at cR
  simp -implicitDefEqProofs -dsimp only [go_sem, seval, d1, h1, qif, ↓J0 _ _ qic]
  refine can cR ?_
  have hen : rEn (b, false) = (⟨a.1, k.1, (q3e k.2).1, 0, 0, 0⟩, (rTx k.2).2) := by unfold rEn; simp only [hA, hK]; rw [if_pos h1']
  rcases htx : qqb k.2 with _ | _
  ·have e1 : (q3e k.2).2 = (Er.flt [116, 120, 110] (.num 3)).av := by simp [q3e, htx]; rfl
   have e2 : qqc (b, false) = false := by simp [qqc, hA, hK, h1', htx]
   have e3 : qce (b, false) = false := by simp [qce, e2]
   have e4 : q34 (b, false) = some (.flt [101, 110, 116, 114, 121] (.flt [116, 120, 110] (.num 3))) := by simp [q34, e2, e3]
   have cI := zax [101, 110, 116, 114, 121] (.flt [116, 120, 110] (.num 3))
   rw [e1]
   simp only [Er.av, q85] at cI ⊢
   simp -implicitDefEqProofs -dsimp only [go_sem, seval, qts, ↓J0 _ _ que]
   refine cpn cI ?_
   simp -implicitDefEqProofs -dsimp only [go_sem, seval]
   have := endErr e3 (rTx k.2).2
   rw [qif]
   rw [e4] at this ⊢
   exact this
  ·have e1 : (q3e k.2).2 = .nilifc := by simp [q3e, htx]
   have e2 : qqc (b, false) = true := by simp [qqc, hA, hK, h1', htx]
   have c6 := qfi (rEn (b, false)).1 none none hfine
   have e5 : qce (b, false) = ((!(rTx k.2).2.2 && decide ((rTx k.2).2.1 = [])) && qeo (rEn (b, false)).1) := by simp [qce, e2, hen]
   rw [hen] at c6
   simp only [En.cells] at c6
   rw [e1]
   simp -implicitDefEqProofs -dsimp only [go_sem, seval, qts, qif, ↓J0 _ _ q5y]
   refine can (qvx q77) ?_
   rcases hdn : (!(rTx k.2).2.2 && decide ((rTx k.2).2.1 = [])) with _ | _
   ·have e3 : qce (b, false) = false := by rw [e5, hdn]; rfl
    have e4 : q34 (b, false) = some (.flt [101, 110, 116, 114, 121] (.num 3)) := by simp [q34, e2, e3]
    simp -implicitDefEqProofs -dsimp only [go_sem, seval, hdn, ↓Q1, G6, true_and, ↓J0 _ _ q0g]
    refine cpn cN ?_
    simp -implicitDefEqProofs -dsimp only [go_sem, seval, q85]
    have := endErr e3 (rTx k.2).2
    rw [e4] at this ⊢
    exact this
   ·simp -implicitDefEqProofs -dsimp only [go_sem, seval, hdn, ↓Q1, G6, true_and, ↓J0 _ _ qag]
    refine cpn c6 ?_
    rcases hok : qeo ⟨a.1, k.1, (q3e k.2).1, 0, 0, 0⟩ with _ | _
    ·have e3 : qce (b, false) = false := by rw [e5, hdn, hen, hok]; rfl
     have e4 : q34 (b, false) = some (.flt [101, 110, 116, 114, 121] (.num 3)) := by simp [q34, e2, e3]
     simp -implicitDefEqProofs -dsimp only [go_sem, seval, hok, ↓Q1, G6, true_and, ↓J0 _ _ q0g]
     refine cpn cN ?_
     simp -implicitDefEqProofs -dsimp only [go_sem, seval, q85]
     have := endErr e3 (rTx k.2).2
     rw [e4] at this ⊢
     exact this
    ·have e3 : qce (b, false) = true := by rw [e5, hdn, hen, hok]; rfl
     simp -implicitDefEqProofs -dsimp only [go_sem, seval, hok, ↓Q1, G6, true_and]
     have := endOk e3 (rTx k.2).2
     rw [hen] at this
     exact this
 rcases h2 : decide (k.1 = 2) with _ | _
 case true =>
  have h2' := of_decide_eq_true h2
  have l3 := q26 (qvz k.2) l2
  simp -implicitDefEqProofs -dsimp only [go_sem, seval, d1, d2, h1, h2, qif, ↓J0 _ _ qko]
  refine can (qym q77 l2) ?_
  simp -implicitDefEqProofs -dsimp only [go_sem, seval, qif, ↓J0 _ _ N8]
  refine can (q6d q77 99 (by decide) l3) ?_
  have hen : rEn (b, false) = (⟨a.1, k.1, q9o, (rID k.2).1.1, (rID k.2).1.2, (K2 99 (rID k.2).2).1⟩, (K2 99 (rID k.2).2).2) := by unfold rEn; simp only [hA, hK]; rw [if_neg (of_decide_eq_false h1), if_pos h2']
  have e2 : qqc (b, false) = true := by simp [qqc, hA, hK, of_decide_eq_false h1]
  have e5 : qce (b, false) = ((!((K2 99 (rID k.2).2).2).2 && decide (((K2 99 (rID k.2).2).2).1 = [])) && qeo (rEn (b, false)).1) := by simp [qce, e2, hen]
  have c6 := qfi (rEn (b, false)).1 (some 0) (some 0) hfine
  rw [hen] at c6
  simp only [En.cells, q9o, List.length_nil, List.flatMap_nil] at c6
  simp -implicitDefEqProofs -dsimp only [go_sem, seval, qif, ↓J0 _ _ q5y]
  refine can (qvx q77) ?_
  rcases hdn : (!((K2 99 (rID k.2).2).2).2 && decide (((K2 99 (rID k.2).2).2).1 = [])) with _ | _
  ·have e3 : qce (b, false) = false := by rw [e5, hdn]; rfl
   have e4 : q34 (b, false) = some (.flt [101, 110, 116, 114, 121] (.num 3)) := by simp [q34, e2, e3]
   simp -implicitDefEqProofs -dsimp only [go_sem, seval, hdn, ↓Q1, G6, true_and, ↓J0 _ _ q0g]
   refine cpn cN ?_
   simp -implicitDefEqProofs -dsimp only [go_sem, seval, q85]
   have := endErr e3 ((K2 99 (rID k.2).2).2)
   rw [e4] at this ⊢
   exact this
  ·simp -implicitDefEqProofs -dsimp only [go_sem, seval, hdn, ↓Q1, G6, true_and, ↓J0 _ _ qag]
   refine cpn c6 ?_
   rcases hok : qeo (⟨a.1, k.1, ⟨0, 0, false, [], []⟩, (rID k.2).1.1, (rID k.2).1.2, (K2 99 (rID k.2).2).1⟩ : En) with _ | _
   ·have e3 : qce (b, false) = false := by rw [e5, hdn, hen]; simp only [q9o, hok]; rfl
    have e4 : q34 (b, false) = some (.flt [101, 110, 116, 114, 121] (.num 3)) := by simp [q34, e2, e3]
    simp -implicitDefEqProofs -dsimp only [go_sem, seval, hok, ↓Q1, G6, true_and, ↓J0 _ _ q0g]
    refine cpn cN ?_
    simp -implicitDefEqProofs -dsimp only [go_sem, seval, q85]
    have := endErr e3 ((K2 99 (rID k.2).2).2)
    rw [e4] at this ⊢
    exact this
   ·have e3 : qce (b, false) = true := by rw [e5, hdn, hen]; simp only [q9o, hok]; rfl
    simp -implicitDefEqProofs -dsimp only [go_sem, seval, hok, ↓Q1, G6, true_and]
    have e1 : qan (b, false) = (⟨a.1, k.1, ⟨0, 0, false, [], []⟩, (rID k.2).1.1, (rID k.2).1.2, (K2 99 (rID k.2).2).1⟩ : En) := by simp only [qan, e3, if_true, hen, q9o]
    have e4 : q34 (b, false) = none := by simp [q34, e3]
    rw [e1, e4]
    refine ⟨[], T, _, by simp, by simp, hT _, ?_, rfl, rfl⟩
    rw [qiv]
    exact Wk.tup ⟨Wk.agg ⟨.refl _, .refl _, .refl _, .refl _, .refl _, .fz, .fz, .refl _, .refl _, .refl _, trivial⟩, .refl _, trivial⟩
 have hen : rEn (b, false) = (⟨a.1, k.1, q9o, 0, 0, 0⟩, k.2) := by unfold rEn; simp only [hA, hK]; rw [if_neg (of_decide_eq_false h1), if_neg (of_decide_eq_false h2)]
 have e2 : qqc (b, false) = true := by simp [qqc, hA, hK, of_decide_eq_false h1]
 have e5 : qce (b, false) = ((!(k.2).2 && decide ((k.2).1 = [])) && qeo (rEn (b, false)).1) := by simp [qce, e2, hen]
 have c6 := qfi (rEn (b, false)).1 (some 0) (some 0) hfine
 rw [hen] at c6
 simp only [En.cells, q9o, List.length_nil, List.flatMap_nil] at c6
 simp -implicitDefEqProofs -dsimp only [go_sem, seval, d1, d2, h1, h2, qif, ↓J0 _ _ q5y]
 refine can (qvx q77) ?_
 rcases hdn : (!(k.2).2 && decide ((k.2).1 = [])) with _ | _
 ·have e3 : qce (b, false) = false := by rw [e5, hdn]; rfl
  have e4 : q34 (b, false) = some (.flt [101, 110, 116, 114, 121] (.num 3)) := by simp [q34, e2, e3]
  simp -implicitDefEqProofs -dsimp only [go_sem, seval, hdn, ↓Q1, G6, true_and, ↓J0 _ _ q0g]
  refine cpn cN ?_
  simp -implicitDefEqProofs -dsimp only [go_sem, seval, q85]
  have := endErr e3 (k.2)
  rw [e4] at this ⊢
  exact this
 ·simp -implicitDefEqProofs -dsimp only [go_sem, seval, hdn, ↓Q1, G6, true_and, ↓J0 _ _ qag]
  refine cpn c6 ?_
  rcases hok : qeo (⟨a.1, k.1, ⟨0, 0, false, [], []⟩, 0, 0, 0⟩ : En) with _ | _
  ·have e3 : qce (b, false) = false := by rw [e5, hdn, hen]; simp only [q9o, hok]; rfl
   have e4 : q34 (b, false) = some (.flt [101, 110, 116, 114, 121] (.num 3)) := by simp [q34, e2, e3]
   simp -implicitDefEqProofs -dsimp only [go_sem, seval, hok, ↓Q1, G6, true_and, ↓J0 _ _ q0g]
   refine cpn cN ?_
   simp -implicitDefEqProofs -dsimp only [go_sem, seval, q85]
   have := endErr e3 (k.2)
   rw [e4] at this ⊢
   exact this
  ·have e3 : qce (b, false) = true := by rw [e5, hdn, hen]; simp only [q9o, hok]; rfl
   simp -implicitDefEqProofs -dsimp only [go_sem, seval, hok, ↓Q1, G6, true_and]
   have e1 : qan (b, false) = (⟨a.1, k.1, ⟨0, 0, false, [], []⟩, 0, 0, 0⟩ : En) := by simp only [qan, e3, if_true, hen, q9o]
   have e4 : q34 (b, false) = none := by simp [q34, e3]
   rw [e1, e4]
   refine ⟨[], T, _, by simp, by simp, hT _, ?_, rfl, rfl⟩
   rw [qiv]
   exact Wk.tup ⟨Wk.agg ⟨.refl _, .refl _, .refl _, .refl _, .refl _, .fz, .fz, .refl _, .refl _, .refl _, trivial⟩, .refl _, trivial⟩
theorem zhg (b : List UInt8) (c : Option Nat) (hb : b.length <= 1000000000) : PCalls prog qco [bts b c] (.tup [.agg ((qan (b, false)).cells none none), .i .i64 (qe5 (q34 (b, false)))]) := by
 refine K7 U3 z07 (by simp) fun T => ?_
 have h1 := zhf b c hb
 have h2 := z0z (q34 (b, false))
 have hp : (qwj (q34 (b, false))).plain = true /\ ∀ k, (qwj (q34 (b, false))).offLp k = qwj (q34 (b, false)) := by
  cases q34 (b, false) with
  | none => exact ⟨rfl, fun _ => rfl⟩
  | some e => obtain ⟨t, v, he⟩ := e.ifc; simp only [qwj, he]; exact ⟨rfl, fun _ => rfl⟩
 simp only [En.cells] at h1
 generalize qwj (q34 (b, false)) = x at h1 h2 hp
 unfold qrs
 simp -implicitDefEqProofs -dsimp only [go_sem, seval, ↓J0 _ _ z0e]
 refine cpn h1 ?_
 simp -implicitDefEqProofs -dsimp only [go_sem, seval, hp.1, hp.2, ↓J0 _ _ qbc]
 refine cpn h2 ?_
 simp -implicitDefEqProofs -dsimp only [go_sem, seval, hp.1, hp.2]
 exact J9 rfl
end Go.Aw
