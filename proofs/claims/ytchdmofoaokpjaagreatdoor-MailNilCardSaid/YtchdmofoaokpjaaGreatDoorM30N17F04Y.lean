import Derived.Test.YtchdmofoaokpjaaGreatDoorM30N17F04S
import Derived.Test.YtchdmofoaokpjaaGreatDoorM30N17E12R
namespace Go.Aw
open Go
open Go.Proofs.Tryz (prog)
set_option linter.all false
set_option maxHeartbeats 4000000
end Go.Aw
namespace Go.Aw
open Go
open Go.Proofs.Tryz (prog)
set_option linter.all false
set_option maxHeartbeats 4000000
theorem ze8 {q : List UInt8} {m : W} {p : Nat} (hm : m ≠ 0#32) (hp : p + 31 < 8 * (frm q).length) : opE (qd0 (frm q) p m 32) ≠ none := by
 intro h
 obtain ⟨F, hF⟩ : ∃ F, qd0 (frm q) p m 32 = F := ⟨_, rfl⟩
 have hlen : F.length = q.length + 7 := by rw [<- hF, qae, qhp]
 rw [hF] at h
 unfold opE at h
 rcases hn : nxE F with _ | pr
 ·rw [hn] at h
  simp only at h
  split at h
  ·cases h
  rename_i h7
  unfold nxE at hn
  split at hn
  ·cases hn
  split at hn
  ·cases hn
  rename_i h197
  split at hn
  ·cases hn
  split at hn
  ·cases hn
  split at hn
  ·cases hn
  rename_i h8
  split at hn
  ·cases hn
  rename_i hw
  have e1 : F.take (qr5 F + 7) = F := List.take_of_length_le (by omega)
  rw [e1] at hw
  have hw' : qd2 (F.drop 1) = true := by simpa using hw
  rw [qd2, Bool.and_eq_true] at hw'
  have hs := of_decide_eq_true hw'.2
  obtain ⟨x, xs, e2⟩ : ∃ x xs, F = x :: xs := by
   cases F with
   | nil => simp at hlen
   | cons x xs => exact ⟨x, xs, rfl⟩
  have ex : x = 197 := by
   have : bAt F 0 = 197 := by simpa using h197
   rw [e2] at this; exact this
  rw [e2, List.drop_one, List.tail_cons] at hs
  rw [e2, List.length_cons] at hlen
  refine zdj (a := [197]) (b := xs) (m := m) (p := p) hm (by rw [qhp] at hp; simp only [List.length_cons, List.length_nil]; omega) (c := hiB q.length :: loB q.length :: q) ?_ ?_ _ hs.symm
  ·show qd0 (frm q) p m 32 = 197 :: xs
   rw [hF, e2, ex]
  ·simp only [q5z, List.length_append, qd1, List.length_cons]; omega
 ·rw [hn] at h; cases h
end Go.Aw
namespace Go.Aw
open Go
open Go.Proofs.Tryz (prog)
set_option linter.all false
set_option maxHeartbeats 4000000
theorem z04 (p : List UInt8) (rest : List UInt8) : bAt (frm p ++ rest) 0 = 197 /\ bAt (frm p ++ rest) 1 = hiB p.length /\ bAt (frm p ++ rest) 2 = loB p.length := ⟨rfl, rfl, rfl⟩
theorem z3o {p : List UInt8} (h : p.length <= 65535) (rest : List UInt8) : qr5 (frm p ++ rest) = p.length := by
 obtain ⟨_, h1, h2⟩ := z04 p rest
 unfold qr5
 rw [h1, h2]
 simp [hiB, loB]
 omega
theorem qwh (l : List UInt8) : qd2 (q5z l) = true := by
 have e : (q5z l).length = l.length + 4 := by simp only [q5z, List.length_append, qd1]
 have e2 : (q5z l).take ((q5z l).length - 4) = l := by rw [e, show l.length + 4 - 4 = l.length by omega, q5z, List.take_left]
 rw [qd2, e2, decide_eq_true (by omega)]; simp
theorem zah {p : List UInt8} (h : 1 <= p.length /\ p.length <= 65535) (rest : List UInt8) : nxE (frm p ++ rest) = none /\ qh2 (frm p ++ rest) = p := by
 have hs := z3o h.2 rest
 have hl := qhp p
 have h0 := (z04 p rest).1
 have et : (frm p ++ rest).take (p.length + 7) = frm p := by rw [<- hl, List.take_left]
 refine ⟨?_, ?_⟩
 ·unfold nxE
  rw [if_neg (by simp [frm]), if_neg (by rw [h0]; simp), if_neg (by rw [List.length_append]; omega), hs, if_neg (by omega), if_neg (by rw [List.length_append]; omega), et]
  rw [if_neg]
  show ¬ qd2 (q5z (hiB p.length :: loB p.length :: p)) = false
  rw [qwh]; simp
 ·unfold qh2
  rw [hs]
  show ((197 :: (hiB p.length :: loB p.length :: p ++ z3g (qza (hiB p.length :: loB p.length :: p)))) ++ rest |>.take (p.length + 3)).drop 3 = p
  simp
theorem zai {p : List UInt8} (h : 1 <= p.length /\ p.length <= 65535) : opE (frm p) = none /\ qh2 (frm p) = p := by
 have := zah h []
 rw [List.append_nil] at this
 have hs := z3o h.2 []
 rw [List.append_nil] at hs
 refine ⟨?_, this.2⟩
 unfold opE
 rw [this.1]
 simp only
 rw [hs, if_neg (by rw [qhp]; omega)]
def fill (x : UInt8) (j d : Nat) : List UInt8 := List.replicate j x ++ List.replicate d 0
end Go.Aw
namespace Go.Aw
open Go
open Go.Proofs.Tryz (prog)
set_option linter.all false
set_option maxHeartbeats 4000000
end Go.Aw
