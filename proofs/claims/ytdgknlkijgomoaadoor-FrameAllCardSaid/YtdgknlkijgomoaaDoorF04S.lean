import Derived.Test.YtdgknlkijgomoaaDoorF04R
namespace Go.Aw
open Go
open Go.Proofs.Tryd (prog)
set_option linter.all false
set_option maxHeartbeats 4000000

def erOf (p : List UInt8 × Int) : Er := .flt p.1 (.num p.2)
def nxC (b : List UInt8) : Int := match nxE b with
  | some p => (erOf p).code
  | none => 0
/-- Next, with the code. -/
def nextR (b : List UInt8) : AV := match nxE b with
  | some p => .tup [.fz 0 [] (some 0), .i .i64 0, .i .i64 (erOf p).code]
  | none => .tup [bts (nxRec b) none, .i .i64 (szOf b + 7 : Nat), .i .i64 0]
theorem pc_Next (b : List UInt8) (cap : Option Nat) (hl : b.length ≤ 1000000000) : PCalls prog f_frame_Next [bts b cap] (nextR b) := by
  refine pcalls_of mixed t_frame_Next (by simp) fun T => ?_
  have h := pc_next b cap hl
  unfold nxR at h
  unfold s_frame_Next nextR
  rcases he : nxE b with _ | ⟨w, e⟩
  · rw [he] at h
    have hc := pc_Code none
    simp only [erAv, erCode] at h hc
    simp -implicitDefEqProofs -dsimp only [go_sem, Nat.reduceEqDiff, Nat.reduceAdd, Nat.reduceMul, Nat.reduceSub, Nat.reduceLT, Nat.reduceLeDiff, Nat.reduceBEq, reduceIte, reduceCtorEq, Int.reduceLT, Int.reduceLE, Int.reduceEq, Int.reduceNeg, Int.reduceToNat, Int.reduceAdd, Int.reduceSub, ↓g_call _ _ c_frame_next]
    refine CallK.pure h (aft_nil ?_)
    simp -implicitDefEqProofs -dsimp only [go_sem, Nat.reduceEqDiff, Nat.reduceAdd, Nat.reduceMul, Nat.reduceSub, Nat.reduceLT, Nat.reduceLeDiff, Nat.reduceBEq, reduceIte, reduceCtorEq, Int.reduceLT, Int.reduceLE, Int.reduceEq, Int.reduceNeg, Int.reduceToNat, Int.reduceAdd, Int.reduceSub, ↓g_call _ _ c_fault_Code]
    refine CallK.pure hc (aft_nil ?_)
    simp -implicitDefEqProofs -dsimp only [go_sem, Nat.reduceEqDiff, Nat.reduceAdd, Nat.reduceMul, Nat.reduceSub, Nat.reduceLT, Nat.reduceLeDiff, Nat.reduceBEq, reduceIte, reduceCtorEq, Int.reduceLT, Int.reduceLE, Int.reduceEq, Int.reduceNeg, Int.reduceToNat, Int.reduceAdd, Int.reduceSub]
    exact finL_pure rfl
  · rw [he] at h
    have hc := pc_Code (some (erOf (w, e)))
    simp only [erAv, erCode, erOf, Er.av] at h hc
    simp -implicitDefEqProofs -dsimp only [go_sem, Nat.reduceEqDiff, Nat.reduceAdd, Nat.reduceMul, Nat.reduceSub, Nat.reduceLT, Nat.reduceLeDiff, Nat.reduceBEq, reduceIte, reduceCtorEq, Int.reduceLT, Int.reduceLE, Int.reduceEq, Int.reduceNeg, Int.reduceToNat, Int.reduceAdd, Int.reduceSub, ↓g_call _ _ c_frame_next]
    refine CallK.pure h (aft_nil ?_)
    simp only [fault] at hc ⊢
    simp -implicitDefEqProofs -dsimp only [go_sem, Nat.reduceEqDiff, Nat.reduceAdd, Nat.reduceMul, Nat.reduceSub, Nat.reduceLT, Nat.reduceLeDiff, Nat.reduceBEq, reduceIte, reduceCtorEq, Int.reduceLT, Int.reduceLE, Int.reduceEq, Int.reduceNeg, Int.reduceToNat, Int.reduceAdd, Int.reduceSub, ↓g_call _ _ c_fault_Code]
    refine CallK.pure hc (aft_nil ?_)
    simp -implicitDefEqProofs -dsimp only [go_sem, Nat.reduceEqDiff, Nat.reduceAdd, Nat.reduceMul, Nat.reduceSub, Nat.reduceLT, Nat.reduceLeDiff, Nat.reduceBEq, reduceIte, reduceCtorEq, Int.reduceLT, Int.reduceLE, Int.reduceEq, Int.reduceNeg, Int.reduceToNat, Int.reduceAdd, Int.reduceSub]
    exact finL_pure rfl

def opE (b : List UInt8) : Option Er := match nxE b with
  | some p => some (.flt [111, 112, 101, 110] (erOf p))
  | none => if szOf b + 7 < b.length then some (.flt [98, 101, 104, 105, 110, 100] (.num 3)) else none
def opR (b : List UInt8) : AV := match opE b with
  | some e => .tup [.fz 0 [] (some 0), e.av]
  | none => .tup [bts (nxRec b) none, .nilifc]
theorem pc_open (b : List UInt8) (cap : Option Nat) (hl : b.length ≤ 1000000000) : PCalls prog f_frame_open [bts b cap] (opR b) := by
  refine pcalls_of mixed t_frame_open (by simp) fun T => ?_
  have h := pc_next b cap hl
  unfold nxR at h
  unfold s_frame_open opR opE
  rcases he : nxE b with _ | ⟨w, e⟩
  · rw [he] at h
    simp only at h
    simp -implicitDefEqProofs -dsimp only [go_sem, Nat.reduceEqDiff, Nat.reduceAdd, Nat.reduceMul, Nat.reduceSub, Nat.reduceLT, Nat.reduceLeDiff, Nat.reduceBEq, reduceIte, reduceCtorEq, Int.reduceLT, Int.reduceLE, Int.reduceEq, Int.reduceNeg, Int.reduceToNat, Int.reduceAdd, Int.reduceSub, ↓g_call _ _ c_frame_next]
    refine CallK.pure h (aft_nil ?_)
    have hn := pc_fNew [98, 101, 104, 105, 110, 100] 3
    rw [if_neg (by decide)] at hn
    by_cases h7 : szOf b + 7 < b.length
    · have d : decide (((szOf b + 7 : Nat) : Int) < b.length) = true := decide_eq_true (by omega)
      simp -implicitDefEqProofs -dsimp only [go_sem, Nat.reduceEqDiff, Nat.reduceAdd, Nat.reduceMul, Nat.reduceSub, Nat.reduceLT, Nat.reduceLeDiff, Nat.reduceBEq, reduceIte, reduceCtorEq, Int.reduceLT, Int.reduceLE, Int.reduceEq, Int.reduceNeg, Int.reduceToNat, Int.reduceAdd, Int.reduceSub, eqAv, d, ↓g_call _ _ c_fault_New]
      refine CallK.pure hn (aft_nil ?_)
      simp -implicitDefEqProofs -dsimp only [go_sem, Nat.reduceEqDiff, Nat.reduceAdd, Nat.reduceMul, Nat.reduceSub, Nat.reduceLT, Nat.reduceLeDiff, Nat.reduceBEq, reduceIte, reduceCtorEq, Int.reduceLT, Int.reduceLE, Int.reduceEq, Int.reduceNeg, Int.reduceToNat, Int.reduceAdd, Int.reduceSub, fault]
      rw [if_pos h7]
      exact finL_pure rfl
    · have d : decide (((szOf b + 7 : Nat) : Int) < b.length) = false := decide_eq_false (by omega)
      simp -implicitDefEqProofs -dsimp only [go_sem, Nat.reduceEqDiff, Nat.reduceAdd, Nat.reduceMul, Nat.reduceSub, Nat.reduceLT, Nat.reduceLeDiff, Nat.reduceBEq, reduceIte, reduceCtorEq, Int.reduceLT, Int.reduceLE, Int.reduceEq, Int.reduceNeg, Int.reduceToNat, Int.reduceAdd, Int.reduceSub, eqAv, d]
      rw [if_neg h7]
      exact finL_pure rfl
  · rw [he] at h
    have hi := pc_fIn [111, 112, 101, 110] (erOf (w, e))
    simp only [erOf, Er.av, fault] at h hi
    simp -implicitDefEqProofs -dsimp only [go_sem, Nat.reduceEqDiff, Nat.reduceAdd, Nat.reduceMul, Nat.reduceSub, Nat.reduceLT, Nat.reduceLeDiff, Nat.reduceBEq, reduceIte, reduceCtorEq, Int.reduceLT, Int.reduceLE, Int.reduceEq, Int.reduceNeg, Int.reduceToNat, Int.reduceAdd, Int.reduceSub, ↓g_call _ _ c_frame_next]
    refine CallK.pure h (aft_nil ?_)
    simp -implicitDefEqProofs -dsimp only [go_sem, Nat.reduceEqDiff, Nat.reduceAdd, Nat.reduceMul, Nat.reduceSub, Nat.reduceLT, Nat.reduceLeDiff, Nat.reduceBEq, reduceIte, reduceCtorEq, Int.reduceLT, Int.reduceLE, Int.reduceEq, Int.reduceNeg, Int.reduceToNat, Int.reduceAdd, Int.reduceSub, eqAv, fault, ↓g_call _ _ c_fault_In]
    refine CallK.pure hi (aft_nil ?_)
    simp -implicitDefEqProofs -dsimp only [go_sem, Nat.reduceEqDiff, Nat.reduceAdd, Nat.reduceMul, Nat.reduceSub, Nat.reduceLT, Nat.reduceLeDiff, Nat.reduceBEq, reduceIte, reduceCtorEq, Int.reduceLT, Int.reduceLE, Int.reduceEq, Int.reduceNeg, Int.reduceToNat, Int.reduceAdd, Int.reduceSub]
    exact finL_pure rfl

def OpenR (b : List UInt8) : AV := match opE b with
  | some e => .tup [.fz 0 [] (some 0), .i .i64 e.code]
  | none => .tup [bts (nxRec b) none, .i .i64 0]
theorem pc_Open (b : List UInt8) (cap : Option Nat) (hl : b.length ≤ 1000000000) : PCalls prog f_frame_Open [bts b cap] (OpenR b) := by
  refine pcalls_of mixed t_frame_Open (by simp) fun T => ?_
  have h := pc_open b cap hl
  have hc := pc_Code (opE b)
  unfold opR at h
  unfold s_frame_Open OpenR
  rcases he : opE b with _ | e
  · rw [he] at h hc
    simp only [erAv, erCode] at h hc
    simp -implicitDefEqProofs -dsimp only [go_sem, Nat.reduceEqDiff, Nat.reduceAdd, Nat.reduceMul, Nat.reduceSub, Nat.reduceLT, Nat.reduceLeDiff, Nat.reduceBEq, reduceIte, reduceCtorEq, Int.reduceLT, Int.reduceLE, Int.reduceEq, Int.reduceNeg, Int.reduceToNat, Int.reduceAdd, Int.reduceSub, ↓g_call _ _ c_frame_open]
    refine CallK.pure h (aft_nil ?_)
    simp -implicitDefEqProofs -dsimp only [go_sem, Nat.reduceEqDiff, Nat.reduceAdd, Nat.reduceMul, Nat.reduceSub, Nat.reduceLT, Nat.reduceLeDiff, Nat.reduceBEq, reduceIte, reduceCtorEq, Int.reduceLT, Int.reduceLE, Int.reduceEq, Int.reduceNeg, Int.reduceToNat, Int.reduceAdd, Int.reduceSub, ↓g_call _ _ c_fault_Code]
    refine CallK.pure hc (aft_nil ?_)
    simp -implicitDefEqProofs -dsimp only [go_sem, Nat.reduceEqDiff, Nat.reduceAdd, Nat.reduceMul, Nat.reduceSub, Nat.reduceLT, Nat.reduceLeDiff, Nat.reduceBEq, reduceIte, reduceCtorEq, Int.reduceLT, Int.reduceLE, Int.reduceEq, Int.reduceNeg, Int.reduceToNat, Int.reduceAdd, Int.reduceSub]
    exact finL_pure rfl
  · rw [he] at h hc
    obtain ⟨t, v, ev⟩ := e.ifc
    simp only [erAv, erCode, ev] at h hc
    simp -implicitDefEqProofs -dsimp only [go_sem, Nat.reduceEqDiff, Nat.reduceAdd, Nat.reduceMul, Nat.reduceSub, Nat.reduceLT, Nat.reduceLeDiff, Nat.reduceBEq, reduceIte, reduceCtorEq, Int.reduceLT, Int.reduceLE, Int.reduceEq, Int.reduceNeg, Int.reduceToNat, Int.reduceAdd, Int.reduceSub, ↓g_call _ _ c_frame_open]
    refine CallK.pure h (aft_nil ?_)
    simp -implicitDefEqProofs -dsimp only [go_sem, Nat.reduceEqDiff, Nat.reduceAdd, Nat.reduceMul, Nat.reduceSub, Nat.reduceLT, Nat.reduceLeDiff, Nat.reduceBEq, reduceIte, reduceCtorEq, Int.reduceLT, Int.reduceLE, Int.reduceEq, Int.reduceNeg, Int.reduceToNat, Int.reduceAdd, Int.reduceSub, ↓g_call _ _ c_fault_Code]
    refine CallK.pure hc (aft_nil ?_)
    simp -implicitDefEqProofs -dsimp only [go_sem, Nat.reduceEqDiff, Nat.reduceAdd, Nat.reduceMul, Nat.reduceSub, Nat.reduceLT, Nat.reduceLeDiff, Nat.reduceBEq, reduceIte, reduceCtorEq, Int.reduceLT, Int.reduceLE, Int.reduceEq, Int.reduceNeg, Int.reduceToNat, Int.reduceAdd, Int.reduceSub]
    exact finL_pure rfl
end Go.Aw
