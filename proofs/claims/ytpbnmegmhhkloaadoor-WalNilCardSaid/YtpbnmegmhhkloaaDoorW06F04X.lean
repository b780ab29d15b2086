import Derived.Test.YtpbnmegmhhkloaaDoorW06F04W
namespace Go.Aw
open Go
open Go.Proofs.Tryd (prog)
set_option linter.all false
set_option maxHeartbeats 4000000
theorem qht (p : List UInt8) (rest : List UInt8) : bAt (frm p ++ rest) 0 = 197 /\ bAt (frm p ++ rest) 1 = hiB p.length /\ bAt (frm p ++ rest) 2 = loB p.length := ⟨rfl, rfl, rfl⟩
theorem qks {p : List UInt8} (h : p.length <= 65535) (rest : List UInt8) : q61 (frm p ++ rest) = p.length := by
 obtain ⟨_, h1, h2⟩ := qht p rest
 unfold q61
 rw [h1, h2]
 simp [hiB, loB]
 omega
theorem qf9 (l : List UInt8) : q27 (q0d l) = true := by
 have e : (q0d l).length = l.length + 4 := by simp only [q0d, List.length_append, q3m]
 have e2 : (q0d l).take ((q0d l).length - 4) = l := by rw [e, show l.length + 4 - 4 = l.length by omega, q0d, List.take_left]
 rw [q27, e2, decide_eq_true (by omega)]; simp
theorem qq1 {p : List UInt8} (h : 1 <= p.length /\ p.length <= 65535) (rest : List UInt8) : nxE (frm p ++ rest) = none /\ q62 (frm p ++ rest) = p := by
 have hs := qks h.2 rest
 have hl := I1 p
 have h0 := (qht p rest).1
 have et : (frm p ++ rest).take (p.length + 7) = frm p := by rw [<- hl, List.take_left]
 refine ⟨?_, ?_⟩
 ·unfold nxE
  rw [if_neg (by simp [frm]), if_neg (by rw [h0]; simp), if_neg (by rw [List.length_append]; omega), hs, if_neg (by omega), if_neg (by rw [List.length_append]; omega), et]
  rw [if_neg]
  show ¬ q27 (q0d (hiB p.length :: loB p.length :: p)) = false
  rw [qf9]; simp
 ·unfold q62
  rw [hs]
  show ((197 :: (hiB p.length :: loB p.length :: p ++ qls (qh5 (hiB p.length :: loB p.length :: p)))) ++ rest |>.take (p.length + 3)).drop 3 = p
  simp
def fill (x : UInt8) (j d : Nat) : List UInt8 := List.replicate j x ++ List.replicate d 0
end Go.Aw
