import Derived.Test.YteiamcnjlpbihaaGreatDoorN17E12G
import Derived.Test.YteiamcnjlpbihaaGreatDoorN17O16C
namespace Go.Aw
open Go
open Go.Proofs.Tryz (prog)
set_option linter.all false
set_option maxHeartbeats 4000000
theorem zdg (e : En) (k1 k2 : Option Nat) (hf : e.t.Fine) (hr : e.Rng) : PCalls prog qg3 [.agg (e.cells k1 k2)] (if qfu e = true then .tup [bts (q8g e) none, .i .i64 0] else .tup [.fz 0 [] (some 0), .i .i64 1]) := by
 refine K7 U4 z03 (by simp) fun T => ?_
 have h := qfq e k1 k2 hf
 simp only [En.cells] at h
 unfold qs5
 simp -implicitDefEqProofs -dsimp only [go_sem, seval, En.cells, ↓J0 _ _ qat]
 refine cpn h ?_
 rcases hok : qfu e with _ | _
 ·simp -implicitDefEqProofs -dsimp only [go_sem, seval, hok]
  exact J9 rfl
 obtain ⟨hep, hkd⟩ := En.good_of hok hr
 obtain ⟨ep, hepm⟩ := Int.eq_ofNat_of_zero_le (show 0 <= e.ep by omega)
 have l1 := K6 (m := ep) (by omega)
 rcases hkd with ⟨h3, h4, h5, h6, h7, h8⟩ | ⟨h3, h4, h5, h6, h7⟩
 ·have u1 : IntKind.u64.wrap 1 = ((1 : Nat) : Int) := by decide +kernel
  have l2 := K6 (m := 1) (by omega)
  have c := qyr e.t k1 k2 ([] ++ enc ep ++ enc 1) none h4 (by simp; omega)
  simp only [Tx.cells] at c
  simp -implicitDefEqProofs -dsimp only [go_sem, seval, hok, hepm, h3, u1, ↓J0 _ _ U2]
  refine cpn (q0h [] (some 0) ep (by decide) (by omega)) ?_
  simp -implicitDefEqProofs -dsimp only [go_sem, seval, ↓J0 _ _ U2]
  refine cpn (q0h ([] ++ enc ep) none 1 (by simp; omega) (by omega)) ?_
  simp -implicitDefEqProofs -dsimp only [go_sem, seval, decide_true, ↓J0 _ _ qfg]
  refine cpn c ?_
  simp -implicitDefEqProofs -dsimp only [go_sem, seval]
  have e1 : [] ++ enc ep ++ enc 1 ++ qa4 e.t = q8g e := by simp [q8g, h3, hepm]
  refine J9 ?_
  rw [<- e1]; simp
 ·have u1 : IntKind.u64.wrap 2 = ((2 : Nat) : Int) := by decide +kernel
  obtain ⟨cl, hcl⟩ := Int.eq_ofNat_of_zero_le h5.1
  obtain ⟨sq, hsq⟩ := Int.eq_ofNat_of_zero_le (show 0 <= e.sq by omega)
  obtain ⟨co, hco⟩ := Int.eq_ofNat_of_zero_le (show 0 <= e.co by omega)
  have l2 := K6 (m := 2) (by omega)
  have l3 := K6 (m := cl) (by omega)
  have l4 := K6 (m := sq) (by omega)
  simp -implicitDefEqProofs -dsimp only [go_sem, seval, hok, hepm, h3, u1, ↓J0 _ _ U2]
  refine cpn (q0h [] (some 0) ep (by decide) (by omega)) ?_
  simp -implicitDefEqProofs -dsimp only [go_sem, seval, ↓J0 _ _ U2]
  refine cpn (q0h ([] ++ enc ep) none 2 (by simp; omega) (by omega)) ?_
  simp -implicitDefEqProofs -dsimp only [go_sem, seval, decide_false, hcl, hsq, hco, q0r (n := co) (by omega), ↓J0 _ _ qo3]
  refine cpn (z2b ([] ++ enc ep ++ enc 2) none cl sq (by simp; omega) (by omega) (by omega)) ?_
  simp -implicitDefEqProofs -dsimp only [go_sem, seval, ↓J0 _ _ U2]
  refine cpn (q0h _ none co (by simp; omega) (by omega)) ?_
  simp -implicitDefEqProofs -dsimp only [go_sem, seval]
  have e1 : [] ++ enc ep ++ enc 2 ++ enc cl ++ enc sq ++ enc co = q8g e := by simp [q8g, h3, hepm, hcl, hsq, hco]
  refine J9 ?_
  rw [<- e1]; simp
theorem z2k (s : RS) : (rEn s).1.t.Fine := by
 have hz : q98.Fine := ⟨by decide, by decide, fun r hr => (by cases hr), fun r hr => (by cases hr), fun r hr => (by cases hr)⟩
 unfold rEn
 simp only
 split
 ·simp only [q3e]
  split
  ·exact qw7 _
  ·exact hz
 ·split <;> exact hz
theorem zi5 (b : List UInt8) (c : Option Nat) (hb : b.length <= 1000000000) : PCalls prog qg5 [bts b c] (.tup [.agg ((qa3 (b, false)).cells none none), qwr (q30 (b, false))]) := by
 refine K7 U4 z0f (by simp) fun T => ?_
 have hl : Len b.length := by unfold Len; omega
 have l1 := q23 (U3 18446744073709551615 (b, false)) hl
 have l2 := q23 (U3 2 _) l1
 have b1 := q3c 2 (K4 18446744073709551615 (b, false)).2
 unfold qsh
 simp -implicitDefEqProofs -dsimp only [go_sem, seval, ↓J0 _ _ qrz]
 refine CallK.of (zb9 b c hb) (fun v T1 h => J1 ?_)
 obtain ⟨id, rfl, hid, rfl⟩ := h
 have hT : ∀ s, TabLe T (rT T id s) := fun s => (TabLe.refl T).put hid
 simp -implicitDefEqProofs -dsimp only [go_sem, seval, ↓J0 _ _ q1l]
 refine can (zba q7e hl) ?_
 simp -implicitDefEqProofs -dsimp only [go_sem, seval, qin, ↓J0 _ _ O1]
 refine can (q6h q7e 2 (by decide) l1) ?_
 have endOk : qcp (b, false) = true -> ∀ s, qtj (.tup [.agg ((rEn (b, false)).1.cells none none), .nilifc]) (fun v T' => v = .tup [.agg ((qa3 (b, false)).cells none none), qwr (q30 (b, false))] /\ T' = T) (rT T id s) := fun h s => by
  have e1 : qa3 (b, false) = (rEn (b, false)).1 := by simp [qa3, h]
  have e2 : q30 (b, false) = none := by simp [q30, h]
  rw [e1, e2]; exact (hT s).fin
 have endErr : qcp (b, false) = false -> ∀ s, qtj (.tup [.agg [.i .u64 0, .i .i64 0, .i .i64 0, .i .u64 0, .b false, .fz 0 [] (some 0), .fz 0 [] (some 0), .i .i64 0, .i .u64 0, .i .i64 0], qwr (q30 (b, false))]) (fun v T' => v = .tup [.agg ((qa3 (b, false)).cells none none), qwr (q30 (b, false))] /\ T' = T) (rT T id s) := fun h s => by
  have e1 : qa3 (b, false) = zbd := by simp [qa3, h]
  rw [e1]
  refine ⟨[], T, _, by simp, by simp, hT s, ?_, rfl, rfl⟩
  rw [qj6]
  exact Wk.tup ⟨Wk.agg ⟨.refl _, .refl _, .refl _, .refl _, .refl _, .fz, .fz, .refl _, .refl _, .refl _, trivial⟩, .refl _, trivial⟩
 have hrt := z7a (b, false)
 have hfine := z2k (b, false)
 have d1 : decide (((K4 2 (K4 18446744073709551615 (b, false)).2).1 : Int) = 1) = decide ((K4 2 (K4 18446744073709551615 (b, false)).2).1 = 1) := decide_eq_decide.2 (by omega)
 have d2 : decide (((K4 2 (K4 18446744073709551615 (b, false)).2).1 : Int) = 2) = decide ((K4 2 (K4 18446744073709551615 (b, false)).2).1 = 2) := decide_eq_decide.2 (by omega)
 have cN := qpd [101, 110, 116, 114, 121] 3
 rw [if_neg (by decide)] at cN
 have hrT := fun (T : Tab) (id : Nat) (s s' : RS) => qin (T := T) (id := id) (s := s) (s' := s')
 generalize hA : K4 18446744073709551615 (b, false) = a at *
 generalize hK : K4 2 a.2 = k at *
 have tail : ∀ (x : En) (st : RS) (k1 k2 : Option Nat), rEn (b, false) = (x, st) -> qoj (b, false) = true -> True := fun _ _ _ _ _ _ => trivial
 rcases h1 : decide (k.1 = 1) with _ | _
 case true =>
  have h1' := of_decide_eq_true h1
  have cR := quu (q7e (T := T) (id := id) (s := k.2)) l2
  simp only [Tx.cells] at cR
  simp -implicitDefEqProofs -dsimp only [go_sem, seval, d1, h1, qin, ↓J0 _ _ qij]
  refine can cR ?_
  have hen : rEn (b, false) = (⟨a.1, k.1, (q3e k.2).1, 0, 0, 0⟩, (rTx k.2).2) := by unfold rEn; simp only [hA, hK]; rw [if_pos h1']
  rcases htx : qqx k.2 with _ | _
  ·have e1 : (q3e k.2).2 = (Er.flt [116, 120, 110] (.num 3)).av := by simp [q3e, htx]; rfl
   have e2 : qoj (b, false) = false := by simp [qoj, hA, hK, h1', htx]
   have e3 : qcp (b, false) = false := by simp [qcp, e2]
   have e4 : q30 (b, false) = some (.flt [101, 110, 116, 114, 121] (.flt [116, 120, 110] (.num 3))) := by simp [q30, e2, e3]
   have cI := zbc [101, 110, 116, 114, 121] (.flt [116, 120, 110] (.num 3))
   rw [e1]
   simp only [Er.av, q8f] at cI ⊢
   simp -implicitDefEqProofs -dsimp only [go_sem, seval, qu4, ↓J0 _ _ quq]
   refine cpn cI ?_
   simp -implicitDefEqProofs -dsimp only [go_sem, seval]
   have := endErr e3 (rTx k.2).2
   rw [qin]
   rw [e4] at this ⊢
   exact this
  ·have e1 : (q3e k.2).2 = .nilifc := by simp [q3e, htx]
   have e2 : qoj (b, false) = true := by simp [qoj, hA, hK, h1', htx]
   have c6 := qfq (rEn (b, false)).1 none none hfine
   have e5 : qcp (b, false) = ((!(rTx k.2).2.2 && decide ((rTx k.2).2.1 = [])) && qfu (rEn (b, false)).1) := by simp [qcp, e2, hen]
   rw [hen] at c6
   simp only [En.cells] at c6
   rw [e1]
   simp -implicitDefEqProofs -dsimp only [go_sem, seval, qu4, qin, ↓J0 _ _ q62]
   refine can (qw4 q7e) ?_
   rcases hdn : (!(rTx k.2).2.2 && decide ((rTx k.2).2.1 = [])) with _ | _
   ·have e3 : qcp (b, false) = false := by rw [e5, hdn]; rfl
    have e4 : q30 (b, false) = some (.flt [101, 110, 116, 114, 121] (.num 3)) := by simp [q30, e2, e3]
    simp -implicitDefEqProofs -dsimp only [go_sem, seval, hdn, ↓O8, G0, true_and, ↓J0 _ _ q0g]
    refine cpn cN ?_
    simp -implicitDefEqProofs -dsimp only [go_sem, seval, q8f]
    have := endErr e3 (rTx k.2).2
    rw [e4] at this ⊢
    exact this
   ·simp -implicitDefEqProofs -dsimp only [go_sem, seval, hdn, ↓O8, G0, true_and, ↓J0 _ _ qat]
    refine cpn c6 ?_
    rcases hok : qfu ⟨a.1, k.1, (q3e k.2).1, 0, 0, 0⟩ with _ | _
    ·have e3 : qcp (b, false) = false := by rw [e5, hdn, hen, hok]; rfl
     have e4 : q30 (b, false) = some (.flt [101, 110, 116, 114, 121] (.num 3)) := by simp [q30, e2, e3]
     simp -implicitDefEqProofs -dsimp only [go_sem, seval, hok, ↓O8, G0, true_and, ↓J0 _ _ q0g]
     refine cpn cN ?_
     simp -implicitDefEqProofs -dsimp only [go_sem, seval, q8f]
     have := endErr e3 (rTx k.2).2
     rw [e4] at this ⊢
     exact this
    ·have e3 : qcp (b, false) = true := by rw [e5, hdn, hen, hok]; rfl
     simp -implicitDefEqProofs -dsimp only [go_sem, seval, hok, ↓O8, G0, true_and]
     have := endOk e3 (rTx k.2).2
     rw [hen] at this
     exact this
 rcases h2 : decide (k.1 = 2) with _ | _
 case true =>
  have h2' := of_decide_eq_true h2
  have l3 := q23 (qw6 k.2) l2
  simp -implicitDefEqProofs -dsimp only [go_sem, seval, d1, d2, h1, h2, qin, ↓J0 _ _ qky]
  refine can (qys q7e l2) ?_
  simp -implicitDefEqProofs -dsimp only [go_sem, seval, qin, ↓J0 _ _ O1]
  refine can (q6h q7e 99 (by decide) l3) ?_
  have hen : rEn (b, false) = (⟨a.1, k.1, q98, (rID k.2).1.1, (rID k.2).1.2, (K4 99 (rID k.2).2).1⟩, (K4 99 (rID k.2).2).2) := by unfold rEn; simp only [hA, hK]; rw [if_neg (of_decide_eq_false h1), if_pos h2']
  have e2 : qoj (b, false) = true := by simp [qoj, hA, hK, of_decide_eq_false h1]
  have e5 : qcp (b, false) = ((!((K4 99 (rID k.2).2).2).2 && decide (((K4 99 (rID k.2).2).2).1 = [])) && qfu (rEn (b, false)).1) := by simp [qcp, e2, hen]
  have c6 := qfq (rEn (b, false)).1 (some 0) (some 0) hfine
  rw [hen] at c6
  simp only [En.cells, q98, List.length_nil, List.flatMap_nil] at c6
  simp -implicitDefEqProofs -dsimp only [go_sem, seval, qin, ↓J0 _ _ q62]
  refine can (qw4 q7e) ?_
  rcases hdn : (!((K4 99 (rID k.2).2).2).2 && decide (((K4 99 (rID k.2).2).2).1 = [])) with _ | _
  ·have e3 : qcp (b, false) = false := by rw [e5, hdn]; rfl
   have e4 : q30 (b, false) = some (.flt [101, 110, 116, 114, 121] (.num 3)) := by simp [q30, e2, e3]
   simp -implicitDefEqProofs -dsimp only [go_sem, seval, hdn, ↓O8, G0, true_and, ↓J0 _ _ q0g]
   refine cpn cN ?_
   simp -implicitDefEqProofs -dsimp only [go_sem, seval, q8f]
   have := endErr e3 ((K4 99 (rID k.2).2).2)
   rw [e4] at this ⊢
   exact this
  ·simp -implicitDefEqProofs -dsimp only [go_sem, seval, hdn, ↓O8, G0, true_and, ↓J0 _ _ qat]
   refine cpn c6 ?_
   rcases hok : qfu (⟨a.1, k.1, ⟨0, 0, false, [], []⟩, (rID k.2).1.1, (rID k.2).1.2, (K4 99 (rID k.2).2).1⟩ : En) with _ | _
   ·have e3 : qcp (b, false) = false := by rw [e5, hdn, hen]; simp only [q98, hok]; rfl
    have e4 : q30 (b, false) = some (.flt [101, 110, 116, 114, 121] (.num 3)) := by simp [q30, e2, e3]
    simp -implicitDefEqProofs -dsimp only [go_sem, seval, hok, ↓O8, G0, true_and, ↓J0 _ _ q0g]
    refine cpn cN ?_
    simp -implicitDefEqProofs -dsimp only [go_sem, seval, q8f]
    have := endErr e3 ((K4 99 (rID k.2).2).2)
    rw [e4] at this ⊢
    exact this
   ·have e3 : qcp (b, false) = true := by rw [e5, hdn, hen]; simp only [q98, hok]; rfl
    simp -implicitDefEqProofs -dsimp only [go_sem, seval, hok, ↓O8, G0, true_and]
    have e1 : qa3 (b, false) = (⟨a.1, k.1, ⟨0, 0, false, [], []⟩, (rID k.2).1.1, (rID k.2).1.2, (K4 99 (rID k.2).2).1⟩ : En) := by simp only [qa3, e3, if_true, hen, q98]
    have e4 : q30 (b, false) = none := by simp [q30, e3]
    rw [e1, e4]
    refine ⟨[], T, _, by simp, by simp, hT _, ?_, rfl, rfl⟩
    rw [qj6]
    exact Wk.tup ⟨Wk.agg ⟨.refl _, .refl _, .refl _, .refl _, .refl _, .fz, .fz, .refl _, .refl _, .refl _, trivial⟩, .refl _, trivial⟩
 have hen : rEn (b, false) = (⟨a.1, k.1, q98, 0, 0, 0⟩, k.2) := by unfold rEn; simp only [hA, hK]; rw [if_neg (of_decide_eq_false h1), if_neg (of_decide_eq_false h2)]
 have e2 : qoj (b, false) = true := by simp [qoj, hA, hK, of_decide_eq_false h1]
 have e5 : qcp (b, false) = ((!(k.2).2 && decide ((k.2).1 = [])) && qfu (rEn (b, false)).1) := by simp [qcp, e2, hen]
 have c6 := qfq (rEn (b, false)).1 (some 0) (some 0) hfine
 rw [hen] at c6
 simp only [En.cells, q98, List.length_nil, List.flatMap_nil] at c6
 simp -implicitDefEqProofs -dsimp only [go_sem, seval, d1, d2, h1, h2, qin, ↓J0 _ _ q62]
 refine can (qw4 q7e) ?_
 rcases hdn : (!(k.2).2 && decide ((k.2).1 = [])) with _ | _
 ·have e3 : qcp (b, false) = false := by rw [e5, hdn]; rfl
  have e4 : q30 (b, false) = some (.flt [101, 110, 116, 114, 121] (.num 3)) := by simp [q30, e2, e3]
  simp -implicitDefEqProofs -dsimp only [go_sem, seval, hdn, ↓O8, G0, true_and, ↓J0 _ _ q0g]
  refine cpn cN ?_
  simp -implicitDefEqProofs -dsimp only [go_sem, seval, q8f]
  have := endErr e3 (k.2)
  rw [e4] at this ⊢
  exact this
 ·simp -implicitDefEqProofs -dsimp only [go_sem, seval, hdn, ↓O8, G0, true_and, ↓J0 _ _ qat]
  refine cpn c6 ?_
  rcases hok : qfu (⟨a.1, k.1, ⟨0, 0, false, [], []⟩, 0, 0, 0⟩ : En) with _ | _
  ·have e3 : qcp (b, false) = false := by rw [e5, hdn, hen]; simp only [q98, hok]; rfl
   have e4 : q30 (b, false) = some (.flt [101, 110, 116, 114, 121] (.num 3)) := by simp [q30, e2, e3]
   simp -implicitDefEqProofs -dsimp only [go_sem, seval, hok, ↓O8, G0, true_and, ↓J0 _ _ q0g]
   refine cpn cN ?_
   simp -implicitDefEqProofs -dsimp only [go_sem, seval, q8f]
   have := endErr e3 (k.2)
   rw [e4] at this ⊢
   exact this
  ·have e3 : qcp (b, false) = true := by rw [e5, hdn, hen]; simp only [q98, hok]; rfl
   simp -implicitDefEqProofs -dsimp only [go_sem, seval, hok, ↓O8, G0, true_and]
   have e1 : qa3 (b, false) = (⟨a.1, k.1, ⟨0, 0, false, [], []⟩, 0, 0, 0⟩ : En) := by simp only [qa3, e3, if_true, hen, q98]
   have e4 : q30 (b, false) = none := by simp [q30, e3]
   rw [e1, e4]
   refine ⟨[], T, _, by simp, by simp, hT _, ?_, rfl, rfl⟩
   rw [qj6]
   exact Wk.tup ⟨Wk.agg ⟨.refl _, .refl _, .refl _, .refl _, .refl _, .fz, .fz, .refl _, .refl _, .refl _, trivial⟩, .refl _, trivial⟩
theorem zi6 (b : List UInt8) (c : Option Nat) (hb : b.length <= 1000000000) : PCalls prog qd1 [bts b c] (.tup [.agg ((qa3 (b, false)).cells none none), .i .i64 (qh9 (q30 (b, false)))]) := by
 refine K7 U4 z09 (by simp) fun T => ?_
 have h1 := zi5 b c hb
 have h2 := z15 (q30 (b, false))
 have hp : (qwr (q30 (b, false))).plain = true /\ ∀ k, (qwr (q30 (b, false))).offLp k = qwr (q30 (b, false)) := by
  cases q30 (b, false) with
  | none => exact ⟨rfl, fun _ => rfl⟩
  | some e => obtain ⟨t, v, he⟩ := e.ifc; simp only [qwr, he]; exact ⟨rfl, fun _ => rfl⟩
 simp only [En.cells] at h1
 generalize qwr (q30 (b, false)) = x at h1 h2 hp
 unfold qsc
 simp -implicitDefEqProofs -dsimp only [go_sem, seval, ↓J0 _ _ z0g]
 refine cpn h1 ?_
 simp -implicitDefEqProofs -dsimp only [go_sem, seval, hp.1, hp.2, ↓J0 _ _ qbk]
 refine cpn h2 ?_
 simp -implicitDefEqProofs -dsimp only [go_sem, seval, hp.1, hp.2]
 exact J9 rfl
end Go.Aw
