import Derived.Test.YtchdmofoaokpjaaGreatDoorM30N17F04S
import Derived.Test.YtchdmofoaokpjaaGreatDoorM30N17E12R
namespace Go.Aw
open Go
open Go.Proofs.Tryz (prog)
set_option linter.all false
set_option maxHeartbeats 4000000
theorem zeh (m : W) (j : Nat) (hj : j < 32) : decide (IntKind.u32.wrap ((BitVec.ofInt IntKind.u32.bits ((m.toNat : Int).fdiv (2 ^ (min j 32))) &&& BitVec.ofInt IntKind.u32.bits 1).toNat : Int) = 1) = m.getLsbD j := by
 have e1 : (m.toNat : Int).fdiv (2 ^ (min j 32)) = ((m >>> j).toNat : Int) := by
  rw [Nat.min_eq_left (by omega), Int.fdiv_eq_ediv_of_nonneg _ (Int.pow_nonneg (by decide)), BitVec.toNat_ushiftRight, Nat.shiftRight_eq_div_pow]; norm_cast
 rw [e1, z40]
 have h : (m >>> j) &&& 1#32 = if m.getLsbD j then 1#32 else 0#32 := by
  apply BitVec.eq_of_getLsbD_eq
  intro i hi
  rw [BitVec.getLsbD_and, BitVec.getLsbD_ushiftRight, BitVec.getLsbD_one]
  by_cases h0 : i = 0
  ·subst h0; cases hx : m.getLsbD j <;> simp [hx]
  ·cases hx : m.getLsbD j <;> simp [h0]
 rw [h]
 cases m.getLsbD j <;> decide
theorem zfr (a : UInt8) (r : Nat) (hr : r < 8) : IntKind.u8.wrap ((BitVec.ofInt IntKind.u8.bits (a.toNat : Int) ^^^ BitVec.ofInt IntKind.u8.bits (IntKind.u8.wrap (1 * 2 ^ (min r 8)))).toNat : Int) = ((qt3 a r).toNat : Int) := by
 have e1 : ∀ r : Fin 8, (BitVec.ofInt 8 (IntKind.u8.wrap (1 * 2 ^ (min r.val 8))) : BitVec 8) = 1#8 <<< r.val := by decide
 show IntKind.u8.wrap (((BitVec.ofInt 8 (a.toNat : Int) ^^^ BitVec.ofInt 8 (IntKind.u8.wrap (1 * 2 ^ (min r 8))) : BitVec 8)).toNat : Int) = _
 rw [e1 ⟨r, hr⟩, BitVec.ofInt_natCast, show BitVec.ofNat 8 a.toNat = a.toBitVec from BitVec.eq_of_toNat_eq (by simp)]
 have e2 : ∀ x : BitVec 8, IntKind.u8.wrap (x.toNat : Int) = ((UInt8.ofBitVec x).toNat : Int) := fun x => by
  have h := x.isLt
  show IntKind.u8.wrap (x.toNat : Int) = (x.toNat : Int)
  generalize x.toNat = n at h ⊢
  simp only [IntKind.wrap, IntKind.signed, IntKind.bits]
  simp
  omega
 exact e2 _
end Go.Aw
namespace Go.Aw
open Go
open Go.Proofs.Tryz (prog)
set_option linter.all false
set_option maxHeartbeats 4000000
theorem zb0 {q : List UInt8} {m : W} {p : Nat} (hm : m ≠ 0#32) (hp : p + 31 < 8 * (frm q).length) : opE (q0m (frm q) p m 32) ≠ none := by
 intro h
 obtain ⟨F, hF⟩ : ∃ F, q0m (frm q) p m 32 = F := ⟨_, rfl⟩
 have hlen : F.length = q.length + 7 := by rw [<- hF, q1z, qfj]
 rw [hF] at h
 unfold opE at h
 rcases hn : nxE F with _ | pr
 ·rw [hn] at h
  simp only at h
  split at h
  ·cases h
  rename_i h7
  unfold nxE at hn
  split at hn
  ·cases hn
  split at hn
  ·cases hn
  rename_i h197
  split at hn
  ·cases hn
  split at hn
  ·cases hn
  split at hn
  ·cases hn
  rename_i h8
  split at hn
  ·cases hn
  rename_i hw
  have e1 : F.take (qr8 F + 7) = F := List.take_of_length_le (by omega)
  rw [e1] at hw
  have hw' : qda (F.drop 1) = true := by simpa using hw
  rw [qda, Bool.and_eq_true] at hw'
  have hs := of_decide_eq_true hw'.2
  obtain ⟨x, xs, e2⟩ : ∃ x xs, F = x :: xs := by
   cases F with
   | nil => simp at hlen
   | cons x xs => exact ⟨x, xs, rfl⟩
  have ex : x = 197 := by
   have : bAt F 0 = 197 := by simpa using h197
   rw [e2] at this; exact this
  rw [e2, List.drop_one, List.tail_cons] at hs
  rw [e2, List.length_cons] at hlen
  refine ze2 (a := [197]) (b := xs) (m := m) (p := p) hm (by rw [qfj] at hp; simp only [List.length_cons, List.length_nil]; omega) (c := hiB q.length :: loB q.length :: q) ?_ ?_ _ hs.symm
  ·show q0m (frm q) p m 32 = 197 :: xs
   rw [hF, e2, ex]
  ·simp only [q6a, List.length_append, qd9, List.length_cons]; omega
 ·rw [hn] at h; cases h
end Go.Aw
namespace Go.Aw
open Go
open Go.Proofs.Tryz (prog)
set_option linter.all false
set_option maxHeartbeats 4000000
theorem z0d (p : List UInt8) (rest : List UInt8) : bAt (frm p ++ rest) 0 = 197 /\ bAt (frm p ++ rest) 1 = hiB p.length /\ bAt (frm p ++ rest) 2 = loB p.length := ⟨rfl, rfl, rfl⟩
theorem z47 {p : List UInt8} (h : p.length <= 65535) (rest : List UInt8) : qr8 (frm p ++ rest) = p.length := by
 obtain ⟨_, h1, h2⟩ := z0d p rest
 unfold qr8
 rw [h1, h2]
 simp [hiB, loB]
 omega
theorem qwl (l : List UInt8) : qda (q6a l) = true := by
 have e : (q6a l).length = l.length + 4 := by simp only [q6a, List.length_append, qd9]
 have e2 : (q6a l).take ((q6a l).length - 4) = l := by rw [e, show l.length + 4 - 4 = l.length by omega, q6a, List.take_left]
 rw [qda, e2, decide_eq_true (by omega)]; simp
theorem zb1 {p : List UInt8} (h : 1 <= p.length /\ p.length <= 65535) (rest : List UInt8) : nxE (frm p ++ rest) = none /\ qh2 (frm p ++ rest) = p := by
 have hs := z47 h.2 rest
 have hl := qfj p
 have h0 := (z0d p rest).1
 have et : (frm p ++ rest).take (p.length + 7) = frm p := by rw [<- hl, List.take_left]
 refine ⟨?_, ?_⟩
 ·unfold nxE
  rw [if_neg (by simp [frm]), if_neg (by rw [h0]; simp), if_neg (by rw [List.length_append]; omega), hs, if_neg (by omega), if_neg (by rw [List.length_append]; omega), et]
  rw [if_neg]
  show ¬ qda (q6a (hiB p.length :: loB p.length :: p)) = false
  rw [qwl]; simp
 ·unfold qh2
  rw [hs]
  show ((197 :: (hiB p.length :: loB p.length :: p ++ z3y (qzj (hiB p.length :: loB p.length :: p)))) ++ rest |>.take (p.length + 3)).drop 3 = p
  simp
theorem zb2 {p : List UInt8} (h : 1 <= p.length /\ p.length <= 65535) : opE (frm p) = none /\ qh2 (frm p) = p := by
 have := zb1 h []
 rw [List.append_nil] at this
 have hs := z47 h.2 []
 rw [List.append_nil] at hs
 refine ⟨?_, this.2⟩
 unfold opE
 rw [this.1]
 simp only
 rw [hs, if_neg (by rw [qfj]; omega)]
def fill (x : UInt8) (j d : Nat) : List UInt8 := List.replicate j x ++ List.replicate d 0
end Go.Aw
namespace Go.Aw
open Go
open Go.Proofs.Tryz (prog)
set_option linter.all false
set_option maxHeartbeats 4000000
end Go.Aw
