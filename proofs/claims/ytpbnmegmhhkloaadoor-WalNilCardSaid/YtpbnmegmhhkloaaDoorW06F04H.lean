import Derived.Test.YtpbnmegmhhkloaaDoorW06Ds
import Derived.Test.YtpbnmegmhhkloaaDoorAwD
namespace Go.Aw
open Go
open Go.Proofs.Tryd (prog)
set_option linter.all false
set_option maxHeartbeats 4000000
theorem qhs (w : List UInt8) (e : Int) : PCalls prog N8 [.s w, .i .i64 e] (if e = 0 then .nilifc else q28 w (qd3 e)) := by
 refine K0 N5 qcu (by simp) fun T => ?_
 unfold q8k
 by_cases h : e = 0
 ·subst h
  simp -implicitDefEqProofs -dsimp only [go_sem, seval, decide_true]
  exact J7 rfl
 ·have d : decide (e = 0) = false := decide_eq_false h
  simp -implicitDefEqProofs -dsimp only [go_sem, seval, d, h]
  intro id hid
  refine J8 ?_
  simp -implicitDefEqProofs -dsimp only [go_sem, seval]
  refine ⟨[id], T, _, by simp, by simp [Tab.put_same], fun j => ?_, ?_, rfl, rfl⟩
  ·simp only [q6s]
   rw [Tab.put_put, Tab.put_self hid]; exact .inr (.inl rfl)
  ·simp only [qfg, q8u, q8s, List.mem_singleton, if_true, Tab.put_same, List.drop_zero]
   exact .refl _
theorem qd5 : J6 prog q4o = true := by kernel_rfl
def qqi : Option Er -> AV
 | none => .nilifc
 | some e => e.av
def qdv : Option Er -> Int
 | none => 0
 | some e => e.code
theorem Er.ifc (e : Er) : ∃ t v, e.av = .ifc t v := by cases e <;> exact ⟨_, _, rfl⟩
theorem qm4 (e : Option Er) : PCalls prog q1j [qqi e] (.i .i64 (qdv e)) := by
 refine K0 N5 qbu (by simp) fun T => ?_
 unfold q73
 cases e with
 | none =>
  simp -implicitDefEqProofs -dsimp only [go_sem, seval, qqi, qdv, q56]
  intro id hid
  refine J8 ?_
  simp -implicitDefEqProofs -dsimp only [go_sem, seval, q56]
  exact ((TabLe.refl T).put hid).fin
 | some e =>
  obtain ⟨t, v, he⟩ := e.ifc
  have ca := fun (T : Tab) id old hT => qd4 (T := T) (id := id) (old := old) e hT
  simp only [qqi, qdv, he] at ca ⊢
  simp -implicitDefEqProofs -dsimp only [go_sem, seval, q56]
  intro id hid
  refine J8 ?_
  simp -implicitDefEqProofs -dsimp only [go_sem, seval, q56, ↓J2 _ _ qd5]
  refine can (ca _ id 0 (Tab.put_same ..)) ?_
  simp -implicitDefEqProofs -dsimp only [go_sem, seval, Tab.put_same]
  rw [Tab.put_put]
  exact ((TabLe.refl T).put hid).fin
end Go.Aw
