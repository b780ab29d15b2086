import Derived.Test.YtpbnmegmhhkloaaDoorW6H
namespace Go.Aw
open Go
open Go.Proofs.Tryd (prog)
set_option linter.all false
set_option maxHeartbeats 8000000
set_option maxRecDepth 8000
theorem Dw.wr {d d' : Dk} (h : Dw d) (hd' : d'.Ok) (hw : WrC d d') : Dw d' := ⟨hd', by have := hw.left; have := h.left; omega⟩
theorem qr5 (p : Bs) (c : Option Nat) (hp : Len p.length) : PCalls prog Z3 [bts p c] (bts (p.take 40) none) := by
 refine K6 O5 q5w (by simp) fun T => ?_
 unfold Len at hp
 unfold q1q
 by_cases h : 40 < p.length
 ·have d : decide ((40 : Int) < (p.length : Int)) = true := decide_eq_true (by omega)
  have h1 : (0 <= 40 /\ 40 <= p.length) = True := eq_true ⟨by omega, by omega⟩
  have h40 : (40 <= p.length) = True := eq_true (by omega)
  have e : (p.take 40).length = 40 := by rw [List.length_take]; omega
  simp -implicitDefEqProofs -dsimp only [go_sem, seval, bts, d, h1, h40, N7]
  refine K8 ?_ rfl
  rw [e]
  exact .fz
 ·have d : decide ((40 : Int) < (p.length : Int)) = false := decide_eq_false (by omega)
  have e : p.take 40 = p := List.take_of_length_le (by omega)
  rw [e]
  simp -implicitDefEqProofs -dsimp only [go_sem, seval, bts, d]
  exact K8 .fz rfl
end Go.Aw
