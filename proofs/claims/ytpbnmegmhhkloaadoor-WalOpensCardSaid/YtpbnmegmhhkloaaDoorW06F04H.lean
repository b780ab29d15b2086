import Derived.Test.YtpbnmegmhhkloaaDoorW06Ds
import Derived.Test.YtpbnmegmhhkloaaDoorAwD
namespace Go.Aw
open Go
open Go.Proofs.Tryd (prog)
set_option linter.all false
set_option maxHeartbeats 4000000
theorem qi5 (w : List UInt8) (e : Int) : PCalls prog O1 [.s w, .i .i64 e] (if e = 0 then .nilifc else q2a w (qde e)) := by
 refine K7 O9 qd5 (by simp) fun T => ?_
 unfold q8j
 by_cases h : e = 0
 ·subst h
  simp -implicitDefEqProofs -dsimp only [go_sem, seval, decide_true]
  exact K0 rfl
 ·have d : decide (e = 0) = false := decide_eq_false h
  simp -implicitDefEqProofs -dsimp only [go_sem, seval, d, h]
  intro id hid
  refine J7 ?_
  simp -implicitDefEqProofs -dsimp only [go_sem, seval]
  refine ⟨[id], T, _, by simp, by simp [Tab.put_same], fun j => ?_, ?_, rfl, rfl⟩
  ·simp only [q6n]
   rw [Tab.put_put, Tab.put_self hid]; exact .inr (.inl rfl)
  ·simp only [qfv, q8u, q8s, List.mem_singleton, if_true, Tab.put_same, List.drop_zero]
   exact .refl _
theorem qdg : J6 prog q4i = true := by kernel_rfl
def qqr : Option Er -> AV
 | none => .nilifc
 | some e => e.av
def qe8 : Option Er -> Int
 | none => 0
 | some e => e.code
theorem Er.ifc (e : Er) : ∃ t v, e.av = .ifc t v := by cases e <;> exact ⟨_, _, rfl⟩
theorem qmf (e : Option Er) : PCalls prog q1n [qqr e] (.i .i64 (qe8 e)) := by
 refine K7 O9 qc6 (by simp) fun T => ?_
 unfold q6z
 cases e with
 | none =>
  simp -implicitDefEqProofs -dsimp only [go_sem, seval, qqr, qe8, q63]
  intro id hid
  refine J7 ?_
  simp -implicitDefEqProofs -dsimp only [go_sem, seval, q63]
  exact ((TabLe.refl T).put hid).fin
 | some e =>
  obtain ⟨t, v, he⟩ := e.ifc
  have ca := fun (T : Tab) id old hT => qdf (T := T) (id := id) (old := old) e hT
  simp only [qqr, qe8, he] at ca ⊢
  simp -implicitDefEqProofs -dsimp only [go_sem, seval, q63]
  intro id hid
  refine J7 ?_
  simp -implicitDefEqProofs -dsimp only [go_sem, seval, q63, ↓J2 _ _ qdg]
  refine can (ca _ id 0 (Tab.put_same ..)) ?_
  simp -implicitDefEqProofs -dsimp only [go_sem, seval, Tab.put_same]
  rw [Tab.put_put]
  exact ((TabLe.refl T).put hid).fin
end Go.Aw
