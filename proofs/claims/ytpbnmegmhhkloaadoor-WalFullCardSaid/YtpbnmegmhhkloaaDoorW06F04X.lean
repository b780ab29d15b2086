import Derived.Test.YtpbnmegmhhkloaaDoorW06F04W
namespace Go.Aw
open Go
open Go.Proofs.Tryd (prog)
set_option linter.all false
set_option maxHeartbeats 4000000
theorem qif (p : List UInt8) (rest : List UInt8) : bAt (frm p ++ rest) 0 = 197 /\ bAt (frm p ++ rest) 1 = hiB p.length /\ bAt (frm p ++ rest) 2 = loB p.length := ⟨rfl, rfl, rfl⟩
theorem qld {p : List UInt8} (h : p.length <= 65535) (rest : List UInt8) : q67 (frm p ++ rest) = p.length := by
 obtain ⟨_, h1, h2⟩ := qif p rest
 unfold q67
 rw [h1, h2]
 simp [hiB, loB]
 omega
theorem qfp (l : List UInt8) : q2a (q0k l) = true := by
 have e : (q0k l).length = l.length + 4 := by simp only [q0k, List.length_append, q3j]
 have e2 : (q0k l).take ((q0k l).length - 4) = l := by rw [e, show l.length + 4 - 4 = l.length by omega, q0k, List.take_left]
 rw [q2a, e2, decide_eq_true (by omega)]; simp
theorem qqq {p : List UInt8} (h : 1 <= p.length /\ p.length <= 65535) (rest : List UInt8) : nxE (frm p ++ rest) = none /\ q68 (frm p ++ rest) = p := by
 have hs := qld h.2 rest
 have hl := G9 p
 have h0 := (qif p rest).1
 have et : (frm p ++ rest).take (p.length + 7) = frm p := by rw [<- hl, List.take_left]
 refine ⟨?_, ?_⟩
 ·unfold nxE
  rw [if_neg (by simp [frm]), if_neg (by rw [h0]; simp), if_neg (by rw [List.length_append]; omega), hs, if_neg (by omega), if_neg (by rw [List.length_append]; omega), et]
  rw [if_neg]
  show ¬ q2a (q0k (hiB p.length :: loB p.length :: p)) = false
  rw [qfp]; simp
 ·unfold q68
  rw [hs]
  show ((197 :: (hiB p.length :: loB p.length :: p ++ qma (qhr (hiB p.length :: loB p.length :: p)))) ++ rest |>.take (p.length + 3)).drop 3 = p
  simp
theorem q2o : ∀ (l : List UInt8), q0i (J1 l) = some l
 | [] => rfl
 | b :: l => by
  have ih := q2o l
  show (match q81 (.i .u8 b.toNat), q0i (J1 l) with
   | some b, some r => some (b :: r)
   | _, _ => none) = _
  rw [ih]
  simp [q81]
def fill (x : UInt8) (j d : Nat) : List UInt8 := List.replicate j x ++ List.replicate d 0
end Go.Aw
