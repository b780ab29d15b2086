import Derived.Test.YtpbnmegmhhkloaaDoorW06Ds
import Derived.Test.YtpbnmegmhhkloaaDoorAwD
namespace Go.Aw
open Go
open Go.Proofs.Tryd (prog)
set_option linter.all false
set_option maxHeartbeats 4000000
theorem qie (w : List UInt8) (e : Int) : PCalls prog N8 [.s w, .i .i64 e] (if e = 0 then .nilifc else q2b w (qdf e)) := by
 refine K6 O5 qd6 (by simp) fun T => ?_
 unfold q8p
 by_cases h : e = 0
 ·subst h
  simp -implicitDefEqProofs -dsimp only [go_sem, seval, decide_true]
  exact J9 rfl
 ·have d : decide (e = 0) = false := decide_eq_false h
  simp -implicitDefEqProofs -dsimp only [go_sem, seval, d, h]
  intro id hid
  refine J7 ?_
  simp -implicitDefEqProofs -dsimp only [go_sem, seval]
  refine ⟨[id], T, _, by simp, by simp [Tab.put_same], fun j => ?_, ?_, rfl, rfl⟩
  ·simp only [q6a]
   rw [Tab.put_put, Tab.put_self hid]; exact .inr (.inl rfl)
  ·simp only [qdq, q5b, q78, List.mem_singleton, if_true, Tab.put_same, List.drop_zero]
   exact .refl _
theorem qdh : J6 prog q4o = true := by kernel_rfl
def qr9 : Option Er -> AV
 | none => .nilifc
 | some e => e.av
def qe7 : Option Er -> Int
 | none => 0
 | some e => e.code
theorem Er.ifc (e : Er) : ∃ t v, e.av = .ifc t v := by cases e <;> exact ⟨_, _, rfl⟩
theorem qmm (e : Option Er) : PCalls prog q1o [qr9 e] (.i .i64 (qe7 e)) := by
 refine K6 O5 qc8 (by simp) fun T => ?_
 unfold q75
 cases e with
 | none =>
  simp -implicitDefEqProofs -dsimp only [go_sem, seval, qr9, qe7, q6q]
  intro id hid
  refine J7 ?_
  simp -implicitDefEqProofs -dsimp only [go_sem, seval, q6q]
  exact ((TabLe.refl T).put hid).fin
 | some e =>
  obtain ⟨t, v, he⟩ := e.ifc
  have ca := fun (T : Tab) id old hT => qdg (T := T) (id := id) (old := old) e hT
  simp only [qr9, qe7, he] at ca ⊢
  simp -implicitDefEqProofs -dsimp only [go_sem, seval, q6q]
  intro id hid
  refine J7 ?_
  simp -implicitDefEqProofs -dsimp only [go_sem, seval, q6q, ↓J2 _ _ qdh]
  refine can (ca _ id 0 (Tab.put_same ..)) ?_
  simp -implicitDefEqProofs -dsimp only [go_sem, seval, Tab.put_same]
  rw [Tab.put_put]
  exact ((TabLe.refl T).put hid).fin
end Go.Aw
