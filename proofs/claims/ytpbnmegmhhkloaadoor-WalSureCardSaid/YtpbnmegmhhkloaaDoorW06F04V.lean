import Derived.Test.YtpbnmegmhhkloaaDoorW06F04U
namespace Go.Aw
open Go
open Go.Proofs.Tryd (prog)
set_option linter.all false
set_option maxHeartbeats 4000000
theorem U5 (p : List UInt8) : (frm p).length = p.length + 7 := by simp only [frm, q0x, List.length_append, q4g, List.length_cons]
theorem qvo {q : List UInt8} {m : W} {p : Nat} (hm : m ≠ 0#32) (hp : p + 31 < 8 * (frm q).length) : opE (q41 (frm q) p m 32) ≠ none := by
 intro h
 obtain ⟨F, hF⟩ : ∃ F, q41 (frm q) p m 32 = F := ⟨_, rfl⟩
 have hlen : F.length = q.length + 7 := by rw [<- hF, q2i, U5]
 rw [hF] at h
 unfold opE at h
 rcases hn : nxE F with _ | pr
 ·rw [hn] at h
  simp only at h
  split at h
  ·cases h
  rename_i h7
  unfold nxE at hn
  split at hn
  ·cases hn
  split at hn
  ·cases hn
  rename_i h197
  split at hn
  ·cases hn
  split at hn
  ·cases hn
  split at hn
  ·cases hn
  rename_i h8
  split at hn
  ·cases hn
  rename_i hw
  have e1 : F.take (q5z F + 7) = F := List.take_of_length_le (by omega)
  rw [e1] at hw
  have hw' : q2v (F.drop 1) = true := by simpa using hw
  rw [q2v, Bool.and_eq_true] at hw'
  have hs := of_decide_eq_true hw'.2
  obtain ⟨x, xs, e2⟩ : ∃ x xs, F = x :: xs := by
   cases F with
   | nil => simp at hlen
   | cons x xs => exact ⟨x, xs, rfl⟩
  have ex : x = 197 := by
   have : bAt F 0 = 197 := by simpa using h197
   rw [e2] at this; exact this
  rw [e2, List.drop_one, List.tail_cons] at hs
  rw [e2, List.length_cons] at hlen
  refine qv6 (a := [197]) (b := xs) (m := m) (p := p) hm (by rw [U5] at hp; simp only [List.length_cons, List.length_nil]; omega) (c := hiB q.length :: loB q.length :: q) ?_ ?_ _ hs.symm
  ·show q41 (frm q) p m 32 = 197 :: xs
   rw [hF, e2, ex]
  ·simp only [q0x, List.length_append, q4g, List.length_cons]; omega
 ·rw [hn] at h; cases h
end Go.Aw
