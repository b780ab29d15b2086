import Derived.Test.YtpbnmegmhhkloaaDoorW06F04W
namespace Go.Aw
open Go
open Go.Proofs.Tryd (prog)
set_option linter.all false
set_option maxHeartbeats 4000000
theorem qi6 (p : List UInt8) (rest : List UInt8) : bAt (frm p ++ rest) 0 = 197 /\ bAt (frm p ++ rest) 1 = hiB p.length /\ bAt (frm p ++ rest) 2 = loB p.length := ⟨rfl, rfl, rfl⟩
theorem ql3 {p : List UInt8} (h : p.length <= 65535) (rest : List UInt8) : q5y (frm p ++ rest) = p.length := by
 obtain ⟨_, h1, h2⟩ := qi6 p rest
 unfold q5y
 rw [h1, h2]
 simp [hiB, loB]
 omega
theorem qfo (l : List UInt8) : q29 (q0i l) = true := by
 have e : (q0i l).length = l.length + 4 := by simp only [q0i, List.length_append, q3i]
 have e2 : (q0i l).take ((q0i l).length - 4) = l := by rw [e, show l.length + 4 - 4 = l.length by omega, q0i, List.take_left]
 rw [q29, e2, decide_eq_true (by omega)]; simp
theorem qqb {p : List UInt8} (h : 1 <= p.length /\ p.length <= 65535) (rest : List UInt8) : nxE (frm p ++ rest) = none /\ q5z (frm p ++ rest) = p := by
 have hs := ql3 h.2 rest
 have hl := I0 p
 have h0 := (qi6 p rest).1
 have et : (frm p ++ rest).take (p.length + 7) = frm p := by rw [<- hl, List.take_left]
 refine ⟨?_, ?_⟩
 ·unfold nxE
  rw [if_neg (by simp [frm]), if_neg (by rw [h0]; simp), if_neg (by rw [List.length_append]; omega), hs, if_neg (by omega), if_neg (by rw [List.length_append]; omega), et]
  rw [if_neg]
  show ¬ q29 (q0i (hiB p.length :: loB p.length :: p)) = false
  rw [qfo]; simp
 ·unfold q5z
  rw [hs]
  show ((197 :: (hiB p.length :: loB p.length :: p ++ qm3 (qhi (hiB p.length :: loB p.length :: p)))) ++ rest |>.take (p.length + 3)).drop 3 = p
  simp
theorem q2p : ∀ (l : List UInt8), q0g (J1 l) = some l
 | [] => rfl
 | b :: l => by
  have ih := q2p l
  show (match q7v (.i .u8 b.toNat), q0g (J1 l) with
   | some b, some r => some (b :: r)
   | _, _ => none) = _
  rw [ih]
  simp [q7v]
def fill (x : UInt8) (j d : Nat) : List UInt8 := List.replicate j x ++ List.replicate d 0
end Go.Aw
