import Derived.Test.YtchdmofoaokpjaaGreatDoorM30N17F04S
import Derived.Test.YtchdmofoaokpjaaGreatDoorM30N17E12R
namespace Go.Aw
open Go
open Go.Proofs.Tryz (prog)
set_option linter.all false
set_option maxHeartbeats 4000000
end Go.Aw
namespace Go.Aw
open Go
open Go.Proofs.Tryz (prog)
set_option linter.all false
set_option maxHeartbeats 4000000
theorem zby {q : List UInt8} {m : W} {p : Nat} (hm : m ≠ 0#32) (hp : p + 31 < 8 * (frm q).length) : opE (qc0 (frm q) p m 32) ≠ none := by
 intro h
 obtain ⟨F, hF⟩ : ∃ F, qc0 (frm q) p m 32 = F := ⟨_, rfl⟩
 have hlen : F.length = q.length + 7 := by rw [<- hF, q9n, qga]
 rw [hF] at h
 unfold opE at h
 rcases hn : nxE F with _ | pr
 ·rw [hn] at h
  simp only at h
  split at h
  ·cases h
  rename_i h7
  unfold nxE at hn
  split at hn
  ·cases hn
  split at hn
  ·cases hn
  rename_i h197
  split at hn
  ·cases hn
  split at hn
  ·cases hn
  split at hn
  ·cases hn
  rename_i h8
  split at hn
  ·cases hn
  rename_i hw
  have e1 : F.take (qpv F + 7) = F := List.take_of_length_le (by omega)
  rw [e1] at hw
  have hw' : qc2 (F.drop 1) = true := by simpa using hw
  rw [qc2, Bool.and_eq_true] at hw'
  have hs := of_decide_eq_true hw'.2
  obtain ⟨x, xs, e2⟩ : ∃ x xs, F = x :: xs := by
   cases F with
   | nil => simp at hlen
   | cons x xs => exact ⟨x, xs, rfl⟩
  have ex : x = 197 := by
   have : bAt F 0 = 197 := by simpa using h197
   rw [e2] at this; exact this
  rw [e2, List.drop_one, List.tail_cons] at hs
  rw [e2, List.length_cons] at hlen
  refine zb9 (a := [197]) (b := xs) (m := m) (p := p) hm (by rw [qga] at hp; simp only [List.length_cons, List.length_nil]; omega) (c := hiB q.length :: loB q.length :: q) ?_ ?_ _ hs.symm
  ·show qc0 (frm q) p m 32 = 197 :: xs
   rw [hF, e2, ex]
  ·simp only [q5l, List.length_append, qc1, List.length_cons]; omega
 ·rw [hn] at h; cases h
end Go.Aw
namespace Go.Aw
open Go
open Go.Proofs.Tryz (prog)
set_option linter.all false
set_option maxHeartbeats 4000000
theorem qyi (p : List UInt8) (rest : List UInt8) : bAt (frm p ++ rest) 0 = 197 /\ bAt (frm p ++ rest) 1 = hiB p.length /\ bAt (frm p ++ rest) 2 = loB p.length := ⟨rfl, rfl, rfl⟩
theorem z1t {p : List UInt8} (h : p.length <= 65535) (rest : List UInt8) : qpv (frm p ++ rest) = p.length := by
 obtain ⟨_, h1, h2⟩ := qyi p rest
 unfold qpv
 rw [h1, h2]
 simp [hiB, loB]
 omega
theorem quz (l : List UInt8) : qc2 (q5l l) = true := by
 have e : (q5l l).length = l.length + 4 := by simp only [q5l, List.length_append, qc1]
 have e2 : (q5l l).take ((q5l l).length - 4) = l := by rw [e, show l.length + 4 - 4 = l.length by omega, q5l, List.take_left]
 rw [qc2, e2, decide_eq_true (by omega)]; simp
theorem z8h {p : List UInt8} (h : 1 <= p.length /\ p.length <= 65535) (rest : List UInt8) : nxE (frm p ++ rest) = none /\ qfn (frm p ++ rest) = p := by
 have hs := z1t h.2 rest
 have hl := qga p
 have h0 := (qyi p rest).1
 have et : (frm p ++ rest).take (p.length + 7) = frm p := by rw [<- hl, List.take_left]
 refine ⟨?_, ?_⟩
 ·unfold nxE
  rw [if_neg (by simp [frm]), if_neg (by rw [h0]; simp), if_neg (by rw [List.length_append]; omega), hs, if_neg (by omega), if_neg (by rw [List.length_append]; omega), et]
  rw [if_neg]
  show ¬ qc2 (q5l (hiB p.length :: loB p.length :: p)) = false
  rw [quz]; simp
 ·unfold qfn
  rw [hs]
  show ((197 :: (hiB p.length :: loB p.length :: p ++ z1n (qxr (hiB p.length :: loB p.length :: p)))) ++ rest |>.take (p.length + 3)).drop 3 = p
  simp
theorem z8i {p : List UInt8} (h : 1 <= p.length /\ p.length <= 65535) : opE (frm p) = none /\ qfn (frm p) = p := by
 have := z8h h []
 rw [List.append_nil] at this
 have hs := z1t h.2 []
 rw [List.append_nil] at hs
 refine ⟨?_, this.2⟩
 unfold opE
 rw [this.1]
 simp only
 rw [hs, if_neg (by rw [qga]; omega)]
def fill (x : UInt8) (j d : Nat) : List UInt8 := List.replicate j x ++ List.replicate d 0
end Go.Aw
namespace Go.Aw
open Go
open Go.Proofs.Tryz (prog)
set_option linter.all false
set_option maxHeartbeats 4000000
end Go.Aw
