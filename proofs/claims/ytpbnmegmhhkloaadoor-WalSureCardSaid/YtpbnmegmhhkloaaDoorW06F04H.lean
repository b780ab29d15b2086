import Derived.Test.YtpbnmegmhhkloaaDoorW06Ds
import Derived.Test.YtpbnmegmhhkloaaDoorAwD
namespace Go.Aw
open Go
open Go.Proofs.Tryd (prog)
set_option linter.all false
set_option maxHeartbeats 4000000
theorem qjv (w : List UInt8) (e : Int) : PCalls prog O2 [.s w, .i .i64 e] (if e = 0 then .nilifc else q2w w (qes e)) := by
 refine K7 O5 qej (by simp) fun T => ?_
 unfold q9q
 by_cases h : e = 0
 ·subst h
  simp -implicitDefEqProofs -dsimp only [go_sem, seval, decide_true]
  exact J8 rfl
 ·have d : decide (e = 0) = false := decide_eq_false h
  simp -implicitDefEqProofs -dsimp only [go_sem, seval, d, h]
  intro id hid
  refine J7 ?_
  simp -implicitDefEqProofs -dsimp only [go_sem, seval]
  refine ⟨[id], T, _, by simp, by simp [Tab.put_same], fun j => ?_, ?_, rfl, rfl⟩
  ·simp only [q75]
   rw [Tab.put_put, Tab.put_self hid]; exact .inr (.inl rfl)
  ·simp only [qf6, q65, q64, List.mem_singleton, if_true, Tab.put_same, List.drop_zero]
   exact .refl _
theorem qeu : J4 prog q5j = true := by kernel_rfl
def qt6 : Option Er -> AV
 | none => .nilifc
 | some e => e.av
def qfn : Option Er -> Int
 | none => 0
 | some e => e.code
theorem Er.ifc (e : Er) : ∃ t v, e.av = .ifc t v := by cases e <;> exact ⟨_, _, rfl⟩
theorem qoh (e : Option Er) : PCalls prog q22 [qt6 e] (.i .i64 (qfn e)) := by
 refine K7 O5 qdj (by simp) fun T => ?_
 unfold q85
 cases e with
 | none =>
  simp -implicitDefEqProofs -dsimp only [go_sem, seval, qt6, qfn, q7p]
  intro id hid
  refine J7 ?_
  simp -implicitDefEqProofs -dsimp only [go_sem, seval, q7p]
  exact ((TabLe.refl T).put hid).fin
 | some e =>
  obtain ⟨t, v, he⟩ := e.ifc
  have ca := fun (T : Tab) id old hT => qet (T := T) (id := id) (old := old) e hT
  simp only [qt6, qfn, he] at ca ⊢
  simp -implicitDefEqProofs -dsimp only [go_sem, seval, q7p]
  intro id hid
  refine J7 ?_
  simp -implicitDefEqProofs -dsimp only [go_sem, seval, q7p, ↓J2 _ _ qeu]
  refine can (ca _ id 0 (Tab.put_same ..)) ?_
  simp -implicitDefEqProofs -dsimp only [go_sem, seval, Tab.put_same]
  rw [Tab.put_put]
  exact ((TabLe.refl T).put hid).fin
end Go.Aw
