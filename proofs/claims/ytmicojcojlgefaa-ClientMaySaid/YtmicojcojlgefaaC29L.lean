import Derived.Test.YtmicojcojlgefaaC29K
import Derived.Test.YtmicojcojlgefaaK29M17Arg
namespace Go.Aw
open Go
open Go.Proofs.Try (prog)
set_option linter.all false
set_option maxHeartbeats 8000000
set_option maxRecDepth 8000
theorem qlc (o : Cp) (h : o.Wide) (cl sq : Int) : PCalls prog q52 [.agg o.cells, .agg [.i .i64 cl, .i .u64 sq]] (.b true) := by
 refine K4 U6 q8g (by simp) fun T => ?_
 have hf := h.our
 have c1 := qsb o h
 have c2 := qqu o.our hf
 have c3 := qqt o.our hf
 have c4 := qu9 o.our hf
 have c5 := qng o.our cl sq hf
 have c6 := qhd (txn o.our cl sq) none none (qec hf cl sq)
 have c7 := qqr o.our cl sq
 have c8 := qhe (txn o.our cl sq) none none none none (qec hf cl sq)
 have hbb : ∀ b : Bool, decide (b = b) = true := fun b => decide_eq_true rfl
 have cA := qoi
 generalize txn o.our cl sq = t at *
 generalize qqs o.our = mb at *
 generalize o.our = u at *
 simp only [Cp.cells] at c1 c2 c3 c4 c5 c7
 simp only [Tx.cells] at c5 c6 c7 c8
 unfold q55
 simp -implicitDefEqProofs -dsimp only [go_sem, seval, Cp.cells, ↓J0 _ _ qcm]
 refine cpn c1 ?_
 simp -implicitDefEqProofs -dsimp only [go_sem, seval, ↓J0 _ _ qb2]
 refine cpn c2 ?_
 simp -implicitDefEqProofs -dsimp only [go_sem, seval, ↓J0 _ _ q7n]
 refine cpn c3 ?_
 simp -implicitDefEqProofs -dsimp only [go_sem, seval, ↓J0 _ _ qdi]
 refine cpn c4 ?_
 simp -implicitDefEqProofs -dsimp only [go_sem, seval, qce, hbb, ↓O0, Y4, true_and, ↓J0 _ _ q5i]
 refine cpn c5 ?_
 simp -implicitDefEqProofs -dsimp only [go_sem, seval, ↓O0, Y4, true_and, ↓J0 _ _ q5h]
 refine cpn c6 ?_
 simp -implicitDefEqProofs -dsimp only [go_sem, seval, ↓O0, Y4, true_and, ↓J0 _ _ q7q]
 refine cpn c7 ?_
 simp -implicitDefEqProofs -dsimp only [go_sem, seval, ↓O0, Y4, true_and, ↓J0 _ _ q9s]
 refine cpn c8 ?_
 simp -implicitDefEqProofs -dsimp only [go_sem, seval, ↓O0, Y4, true_and, ↓J0 _ _ qb5]
 refine cpn cA ?_
 simp -implicitDefEqProofs -dsimp only [go_sem, seval]
 exact K2 rfl
structure Ev where
 k : Int
 o : Cp
 l : Lt Rf
structure Ev.Arg (e : Ev) : Prop where
 o : e.o.Wide
 l : e.l.Arg
end Go.Aw
