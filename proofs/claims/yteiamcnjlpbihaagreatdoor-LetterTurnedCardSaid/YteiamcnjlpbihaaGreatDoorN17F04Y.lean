import Derived.Test.YteiamcnjlpbihaaGreatDoorN17F04S
import Derived.Test.YteiamcnjlpbihaaGreatDoorN17E12R
namespace Go.Aw
open Go
open Go.Proofs.Tryz (prog)
set_option linter.all false
set_option maxHeartbeats 4000000
theorem zgq (m : W) (j : Nat) (hj : j < 32) : decide (IntKind.u32.wrap ((BitVec.ofInt IntKind.u32.bits ((m.toNat : Int).fdiv (2 ^ (min j 32))) &&& BitVec.ofInt IntKind.u32.bits 1).toNat : Int) = 1) = m.getLsbD j := by
 have e1 : (m.toNat : Int).fdiv (2 ^ (min j 32)) = ((m >>> j).toNat : Int) := by
  rw [Nat.min_eq_left (by omega), Int.fdiv_eq_ediv_of_nonneg _ (Int.pow_nonneg (by decide)), BitVec.toNat_ushiftRight, Nat.shiftRight_eq_div_pow]; norm_cast
 rw [e1, z6i]
 have h : (m >>> j) &&& 1#32 = if m.getLsbD j then 1#32 else 0#32 := by
  apply BitVec.eq_of_getLsbD_eq
  intro i hi
  rw [BitVec.getLsbD_and, BitVec.getLsbD_ushiftRight, BitVec.getLsbD_one]
  by_cases h0 : i = 0
  ·subst h0; cases hx : m.getLsbD j <;> simp [hx]
  ·cases hx : m.getLsbD j <;> simp [h0]
 rw [h]
 cases m.getLsbD j <;> decide
theorem zhx (a : UInt8) (r : Nat) (hr : r < 8) : IntKind.u8.wrap ((BitVec.ofInt IntKind.u8.bits (a.toNat : Int) ^^^ BitVec.ofInt IntKind.u8.bits (IntKind.u8.wrap (1 * 2 ^ (min r 8)))).toNat : Int) = ((qwd a r).toNat : Int) := by
 have e1 : ∀ r : Fin 8, (BitVec.ofInt 8 (IntKind.u8.wrap (1 * 2 ^ (min r.val 8))) : BitVec 8) = 1#8 <<< r.val := by decide
 show IntKind.u8.wrap (((BitVec.ofInt 8 (a.toNat : Int) ^^^ BitVec.ofInt 8 (IntKind.u8.wrap (1 * 2 ^ (min r 8))) : BitVec 8)).toNat : Int) = _
 rw [e1 ⟨r, hr⟩, BitVec.ofInt_natCast, show BitVec.ofNat 8 a.toNat = a.toBitVec from BitVec.eq_of_toNat_eq (by simp)]
 have e2 : ∀ x : BitVec 8, IntKind.u8.wrap (x.toNat : Int) = ((UInt8.ofBitVec x).toNat : Int) := fun x => by
  have h := x.isLt
  show IntKind.u8.wrap (x.toNat : Int) = (x.toNat : Int)
  generalize x.toNat = n at h ⊢
  simp only [IntKind.wrap, IntKind.signed, IntKind.bits]
  simp
  omega
 exact e2 _
end Go.Aw
namespace Go.Aw
open Go
open Go.Proofs.Tryz (prog)
set_option linter.all false
set_option maxHeartbeats 4000000
theorem z6t {q : List UInt8} {m : W} {p : Nat} (hm : m ≠ 0#32) (hp : p + 31 < 8 * (frm q).length) : opE (q3e (frm q) p m 32) ≠ none := by
 intro h
 obtain ⟨F, hF⟩ : ∃ F, q3e (frm q) p m 32 = F := ⟨_, rfl⟩
 have hlen : F.length = q.length + 7 := by rw [<- hF, q4x, qrk]
 rw [hF] at h
 unfold opE at h
 rcases hn : nxE F with _ | pr
 ·rw [hn] at h
  simp only at h
  split at h
  ·cases h
  rename_i h7
  unfold nxE at hn
  split at hn
  ·cases hn
  split at hn
  ·cases hn
  rename_i h197
  split at hn
  ·cases hn
  split at hn
  ·cases hn
  split at hn
  ·cases hn
  rename_i h8
  split at hn
  ·cases hn
  rename_i hw
  have e1 : F.take (qwh F + 7) = F := List.take_of_length_le (by omega)
  rw [e1] at hw
  have hw' : qm1 (F.drop 1) = true := by simpa using hw
  rw [qm1, Bool.and_eq_true] at hw'
  have hs := of_decide_eq_true hw'.2
  obtain ⟨x, xs, e2⟩ : ∃ x xs, F = x :: xs := by
   cases F with
   | nil => simp at hlen
   | cons x xs => exact ⟨x, xs, rfl⟩
  have ex : x = 197 := by
   have : bAt F 0 = 197 := by simpa using h197
   rw [e2] at this; exact this
  rw [e2, List.drop_one, List.tail_cons] at hs
  rw [e2, List.length_cons] at hlen
  refine zgb (a := [197]) (b := xs) (m := m) (p := p) hm (by rw [qrk] at hp; simp only [List.length_cons, List.length_nil]; omega) (c := hiB q.length :: loB q.length :: q) ?_ ?_ _ hs.symm
  ·show q3e (frm q) p m 32 = 197 :: xs
   rw [hF, e2, ex]
  ·simp only [qd9, List.length_append, qoj, List.length_cons]; omega
 ·rw [hn] at h; cases h
end Go.Aw
namespace Go.Aw
open Go
open Go.Proofs.Tryz (prog)
set_option linter.all false
set_option maxHeartbeats 4000000
def fill (x : UInt8) (j d : Nat) : List UInt8 := List.replicate j x ++ List.replicate d 0
end Go.Aw
namespace Go.Aw
open Go
open Go.Proofs.Tryz (prog)
set_option linter.all false
set_option maxHeartbeats 4000000
end Go.Aw
