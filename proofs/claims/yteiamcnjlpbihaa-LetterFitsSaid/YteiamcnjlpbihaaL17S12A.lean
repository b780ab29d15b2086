import Derived.Test.YteiamcnjlpbihaaL17S12R
import Derived.Test.YteiamcnjlpbihaaAwD
namespace Go.Aw
open Go
open Go.Proofs.Try (prog)
set_option linter.all false
set_option maxHeartbeats 4000000

/-! A reader. -/
def rdRow (s : RS) : Slot := .row 2 [bts s.1 none, .b s.2]
def rT (T : Tab) (id : Nat) (s : RS) : Tab := T.put id (rdRow s)
theorem rT_at {T : Tab} {id : Nat} {s : RS} : rT T id s id = .row 2 [bts s.1 none, .b s.2] := Tab.put_same ..
theorem rT_rT {T : Tab} {id : Nat} {s s' : RS} : rT (rT T id s) id s' = rT T id s' := Tab.put_put ..

theorem byteCells_take (l : List UInt8) (k : Nat) : (byteCells l).take k = byteCells (l.take k) := by simp [byteCells, List.map_take]
theorem byteCells_drop (l : List UInt8) (k : Nat) : (byteCells l).drop k = byteCells (l.drop k) := by simp [byteCells, List.map_drop]
theorem and_low (y : UInt8) : IntKind.u8.wrap ((BitVec.ofInt IntKind.u8.bits (y.toNat : Int) &&& BitVec.ofInt IntKind.u8.bits 127).toNat : Nat) = ((y.toNat % 128 : Nat) : Int) := by
  have h := and127 ⟨y.toNat, y.toNat_lt⟩
  simp only at h
  rw [show IntKind.u8.bits = 8 from rfl, h, wrap_u8]
  omega
theorem shl7 {c k : Nat} (h : c * 128 ^ k < 18446744073709551616) (hk : k ≤ 9) (hc : c < 128) : IntKind.u64.wrap (IntKind.u64.wrap (c : Int) * 2 ^ (min ((7 * k : Nat) : Int).toNat 64)) = ((c * 128 ^ k : Nat) : Int) := by
  rw [wrap_u64n (n := c) (by omega), Int.toNat_natCast, Nat.min_eq_left (by omega)]
  have e : ((c : Int) * 2 ^ (7 * k)) = ((c * 128 ^ k : Nat) : Int) := by rw [pow128]; push_cast; rfl
  rw [e, wrap_u64n h]
theorem or_high {a c k : Nat} (ha : a < 128 ^ k) (h : a + c * 128 ^ k < 18446744073709551616) : IntKind.u64.wrap ((BitVec.ofInt IntKind.u64.bits (a : Int) ||| BitVec.ofInt IntKind.u64.bits ((c * 128 ^ k : Nat) : Int)).toNat : Nat) = ((a + c * 128 ^ k : Nat) : Int) := by
  have e : (BitVec.ofInt IntKind.u64.bits (a : Int) ||| BitVec.ofInt IntKind.u64.bits ((c * 128 ^ k : Nat) : Int)).toNat = a + c * 128 ^ k := by
    show (BitVec.ofInt 64 (a : Int) ||| BitVec.ofInt 64 ((c * 128 ^ k : Nat) : Int)).toNat = _
    rw [BitVec.toNat_or, BitVec.ofInt_natCast, BitVec.ofInt_natCast, BitVec.toNat_ofNat, BitVec.toNat_ofNat, Nat.mod_eq_of_lt (by omega), Nat.mod_eq_of_lt (by omega)]
    rw [pow128] at ha ⊢
    have := Nat.two_pow_add_eq_or_of_lt ha c
    rw [Nat.or_comm, Nat.mul_comm c, ← this, Nat.add_comm]
  rw [e, wrap_u64n h]
theorem acc_lt {a c k : Nat} (ha : a < 128 ^ k) (hc : c < 128) (h : k ≤ 8 ∨ (k = 9 ∧ c ≤ 1)) : a + c * 128 ^ k < 18446744073709551616 := by
  rcases h with h | ⟨rfl, h⟩
  · have h8 : 128 ^ k ≤ 128 ^ 8 := Nat.pow_le_pow_right (by decide) h
    have h88 : (128 : Nat) ^ 8 = 72057594037927936 := by decide
    have : c * 128 ^ k ≤ 127 * 128 ^ k := Nat.mul_le_mul_right _ (by omega)
    omega
  · have : (128 : Nat) ^ 9 = 9223372036854775808 := by decide
    rw [this] at ha ⊢
    omega

def decR (b : List UInt8) : Nat × Nat := match dec 0 0 b with
  | some r => r
  | none => (0, 0)
theorem rMost_eq {k : Nat} {s : RS} (h : s.2 = false) : rMost k s = if (decR s.1).2 = 0 ∨ k < (decR s.1).1 then (0, (s.1, true)) else ((decR s.1).1, (s.1.drop (decR s.1).2, false)) := by
  unfold rMost decR
  rw [if_neg (by rw [h]; decide)]
  cases hd : dec 0 0 s.1 with
  | none => simp
  | some r =>
    obtain ⟨n, z⟩ := r
    obtain ⟨h1, h2, _⟩ := dec_take hd
    have hz : z ≠ 0 := by
      have := List.length_pos_iff.2 (enc_ne n)
      omega
    simp only [hz, false_or]
    by_cases hk : n ≤ k
    · rw [if_pos hk, if_neg (by omega)]
    · rw [if_neg hk, if_pos (by omega)]
theorem decR_le (b : List UInt8) : (decR b).2 ≤ b.length ∧ (decR b).1 < 18446744073709551616 := by
  unfold decR
  cases hd : dec 0 0 b with
  | none => simp
  | some r =>
    obtain ⟨n, z⟩ := r
    obtain ⟨h1, h2, h3, h4⟩ := dec_take hd
    exact ⟨h2, h4⟩

theorem bytesAv_cells : ∀ (l : List UInt8), bytesAv (byteCells l) = some l
  | [] => rfl
  | b :: l => by
    have ih := bytesAv_cells l
    simp only [byteCells, List.map_cons, bytesAv, byteAv] at ih ⊢
    rw [ih]
    simp
theorem pc_Clone_byte (xs : List UInt8) (cap : Option Nat) (hn : xs.length ≤ 1000000000) : PCalls prog f_slices_Clone_byte_byte [bts xs cap] (bts xs none) := by
  refine pcalls_of mixed t_slices_Clone_byte_byte (by simp) fun T => ?_
  unfold s_slices_Clone_byte_byte
  have main : ∀ K : AV → Tab → Prop, (∀ v T', Own T 1 v xs.length (byteCells xs) T' → K v T') → appStep 1 1 T (.fz 0 [] (some 0)) (.fz xs.length (byteCells xs) cap) K := fun K hK =>
    (Own.nil T 1).app (m := xs.length) (news := byteCells xs) (by simp [slCells, byteCells_length]) rfl (by omega) (by omega) (by simpa using hK)
  simp -implicitDefEqProofs -dsimp only [go_sem, seval, bts, snl_fz]
  split
  · refine main _ fun v T' h => ?_
    refine aft_nil ?_
    obtain ⟨q1, q2, q3, q4, q5, q6⟩ := h.form
    simp -implicitDefEqProofs -dsimp only [go_sem, seval, q1]
    exact h.fzn
  · rename_i h0
    have e : xs = [] := List.length_eq_zero_iff.1 (by omega)
    subst e
    intro b
    refine br_split (fun h => ?_) (fun h => ?_) <;> simp -implicitDefEqProofs -dsimp only [go_sem, seval]
    · exact (Own.nil T 1).fzn
    · refine main _ fun v T' h => ?_
      refine aft_nil ?_
      obtain ⟨q1, q2, q3, q4, q5, q6⟩ := h.form
      simp -implicitDefEqProofs -dsimp only [go_sem, seval, q1]
      exact h.fzn
/-! A reader in a table. -/
theorem rT_self {T : Tab} {id : Nat} {s : RS} (h : T id = rdRow s) : rT T id s = T := Tab.put_self h
theorem rT_row {T : Tab} {id : Nat} {s : RS} : rT T id s id = rdRow s := Tab.put_same ..
section
variable {T : Tab} {id : Nat} {s : RS}
end
theorem Own.rd {B T1 : Tab} {id z n : Nat} {v : AV} {xs : List AV} {s : RS} (h : Own (rT B id s) z v n xs T1) (s' : RS) : Own (rT B id s') z v n xs (rT T1 id s') := by
  have hB : rT B id s id ≠ .unused := by rw [rT_row]; simp [rdRow]
  obtain ⟨T0, h1, h2⟩ := Owns.base_put (s := rdRow s') hB (Owns.one h)
  have e : T0 = rT B id s' := by
    rw [show T0 = (rT B id s).put id (rdRow s') from h1]; exact Tab.put_put ..
  rw [e] at h2
  exact h2
theorem Own.rdAt {B T1 : Tab} {id z n : Nat} {v : AV} {xs : List AV} {s : RS} (h : Own (rT B id s) z v n xs T1) : T1 id = rdRow s := by
  rw [h.at (by rw [rT_row]; simp [rdRow]), rT_row]

theorem Owns.rd {B T1 : Tab} {id : Nat} {l : List Ow} {s : RS} (h : Owns (rT B id s) l T1) (s' : RS) : Owns (rT B id s') l (rT T1 id s') := by
  have hB : rT B id s id ≠ .unused := by rw [rT_row]; simp [rdRow]
  have := Owns.base_put (s := rdRow s') hB h
  rw [show (rT B id s).put id (rdRow s') = rT B id s' from Tab.put_put ..] at this
  exact this
theorem Owns.rdAt {B T1 : Tab} {id : Nat} {l : List Ow} {s : RS} (h : Owns (rT B id s) l T1) : T1 id = rdRow s := by
  rw [Owns.base_get (by rw [rT_row]; simp [rdRow]) h, rT_row]
end Go.Aw
