import Derived.Test.YtpbnmegmhhkloaaDoorW06F04W
namespace Go.Aw
open Go
open Go.Proofs.Tryd (prog)
set_option linter.all false
set_option maxHeartbeats 4000000
theorem qev (p : List UInt8) (rest : List UInt8) : bAt (frm p ++ rest) 0 = 197 /\ bAt (frm p ++ rest) 1 = hiB p.length /\ bAt (frm p ++ rest) 2 = loB p.length := ⟨rfl, rfl, rfl⟩
theorem qjx {p : List UInt8} (h : p.length <= 65535) (rest : List UInt8) : q5z (frm p ++ rest) = p.length := by
 obtain ⟨_, h1, h2⟩ := qev p rest
 unfold q5z
 rw [h1, h2]
 simp [hiB, loB]
 omega
theorem qh8 (l : List UInt8) : q2v (q0x l) = true := by
 have e : (q0x l).length = l.length + 4 := by simp only [q0x, List.length_append, q4g]
 have e2 : (q0x l).take ((q0x l).length - 4) = l := by rw [e, show l.length + 4 - 4 = l.length by omega, q0x, List.take_left]
 rw [q2v, e2, decide_eq_true (by omega)]; simp
theorem qsm {p : List UInt8} (h : 1 <= p.length /\ p.length <= 65535) (rest : List UInt8) : nxE (frm p ++ rest) = none /\ q70 (frm p ++ rest) = p := by
 have hs := qjx h.2 rest
 have hl := U5 p
 have h0 := (qev p rest).1
 have et : (frm p ++ rest).take (p.length + 7) = frm p := by rw [<- hl, List.take_left]
 refine ⟨?_, ?_⟩
 ·unfold nxE
  rw [if_neg (by simp [frm]), if_neg (by rw [h0]; simp), if_neg (by rw [List.length_append]; omega), hs, if_neg (by omega), if_neg (by rw [List.length_append]; omega), et]
  rw [if_neg]
  show ¬ q2v (q0x (hiB p.length :: loB p.length :: p)) = false
  rw [qh8]; simp
 ·unfold q70
  rw [hs]
  show ((197 :: (hiB p.length :: loB p.length :: p ++ qo5 (qj8 (hiB p.length :: loB p.length :: p)))) ++ rest |>.take (p.length + 3)).drop 3 = p
  simp
theorem q3e : ∀ (l : List UInt8), q0v (J1 l) = some l
 | [] => rfl
 | b :: l => by
  have ih := q3e l
  show (match q90 (.i .u8 b.toNat), q0v (J1 l) with
   | some b, some r => some (b :: r)
   | _, _ => none) = _
  rw [ih]
  simp [q90]
def fill (x : UInt8) (j d : Nat) : List UInt8 := List.replicate j x ++ List.replicate d 0
end Go.Aw
