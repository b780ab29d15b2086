/-
  Numbers read from bytes: what the packages' way of reading them makes, and that it is the inverse of writing.
-/
import Derived.Test.YtchkfbfbhaldfaaAwOct
namespace Go.Aw
open Go
set_option linter.all false

/-- The number that stands first, and how many bytes it has. -/
def dec : Nat → Nat → List UInt8 → Option (Nat × Nat)
  | _, _, [] => none
  | i, a, c :: cs => if 9 < i ∨ (i = 9 ∧ 1 < c.toNat) then none else
      if c.toNat < 128 then (if c.toNat = 0 ∧ 0 < i then none else some (a + c.toNat % 128 * 128 ^ i, i + 1)) else dec (i + 1) (a + c.toNat % 128 * 128 ^ i) cs

theorem dec_nil (i a : Nat) : dec i a [] = none := rfl

theorem pow128 (i : Nat) : 128 ^ i = 2 ^ (7 * i) := by rw [show 128 = 2 ^ 7 from rfl, ← Nat.pow_mul]

theorem enc_ne (m : Nat) : enc m ≠ [] := by rw [enc]; split <;> simp
theorem enc_len : ∀ (k m : Nat), m < 128 ^ (k + 1) → (enc m).length ≤ k + 1
  | 0, m, h => by rw [enc_small (by omega)]; simp
  | k + 1, m, h => by
    by_cases h1 : m < 128
    · rw [enc_small h1]; simp
    · rw [enc_big h1]
      have := enc_len k (m / 128) (by rw [Nat.div_lt_iff_lt_mul (by decide)]; rw [Nat.pow_succ] at h; omega)
      simp; omega
theorem enc_len10 {m : Nat} (h : m < 18446744073709551616) : (enc m).length ≤ 10 := enc_len 9 m (by omega)

/-- What was written is read. -/
theorem dec_enc : ∀ (k n i a : Nat) (rest : List UInt8), i + k = 9 → n < 128 ^ (k + 1) → n * 128 ^ i < 18446744073709551616 → (0 < i → 0 < n) → dec i a (enc n ++ rest) = some (a + n * 128 ^ i, i + (enc n).length)
  | k, n, i, a, rest, hk, hn, hb, h0 => by
    by_cases hs : n < 128
    · rw [enc_small hs]
      have e : (UInt8.ofNat n).toNat = n := by rw [UInt8.toNat_ofNat_of_lt' (by show n < 256; omega)]
      simp only [List.cons_append, List.nil_append, dec, e, List.length_cons, List.length_nil, Nat.zero_add]
      rw [if_neg, if_pos hs, if_neg, Nat.mod_eq_of_lt hs]
      · rintro ⟨h1, h2⟩; have := h0 h2; omega
      · rintro (h | ⟨rfl, h⟩)
        · omega
        · have : (128 : Nat) ^ 9 = 9223372036854775808 := by decide
          rw [this] at hb
          omega
    · rw [enc_big hs]
      have e : (UInt8.ofNat (n % 128 + 128)).toNat = n % 128 + 128 := by rw [UInt8.toNat_ofNat_of_lt' (by show n % 128 + 128 < 256; omega)]
      have hk0 : k ≠ 0 := by rintro rfl; simp at hn; omega
      obtain ⟨j, rfl⟩ := Nat.exists_eq_succ_of_ne_zero hk0
      have hp : 0 < 128 ^ i := Nat.pow_pos (by decide)
      have hdiv : n / 128 * 128 + n % 128 = n := by omega
      have hsplit : n * 128 ^ i = n % 128 * 128 ^ i + n / 128 * 128 ^ (i + 1) := by
        rw [Nat.pow_succ]
        calc n * 128 ^ i = (n / 128 * 128 + n % 128) * 128 ^ i := by rw [hdiv]
          _ = n % 128 * 128 ^ i + n / 128 * (128 ^ i * 128) := by rw [Nat.add_mul, Nat.add_comm, Nat.mul_assoc, Nat.mul_comm 128]
      simp only [List.cons_append, dec, e, List.length_cons]
      rw [if_neg (by omega), if_neg (by omega), dec_enc j (n / 128) (i + 1) _ rest (by omega) (by rw [Nat.div_lt_iff_lt_mul (by decide)]; rw [Nat.pow_succ] at hn; omega) (by omega) (by intro _; omega)]
      rw [show (n % 128 + 128) % 128 = n % 128 by omega, hsplit]
      congr 2
      · omega
      · omega
theorem dec_put {n : Nat} (h : n < 18446744073709551616) (rest : List UInt8) : dec 0 0 (enc n ++ rest) = some (n, (enc n).length) := by
  rw [dec_enc 9 n 0 0 rest rfl (by omega) (by simpa using h) (by omega)]; simp

/-- What is read was written so. -/
theorem dec_inv : ∀ (bs : List UInt8) (i a n z : Nat), i ≤ 10 → a < 128 ^ i → dec i a bs = some (n, z) → ∃ m, n = a + m * 128 ^ i ∧ z = i + (enc m).length ∧ (enc m).length ≤ bs.length ∧ bs.take (enc m).length = enc m ∧ n < 18446744073709551616 ∧ (0 < i → 0 < m)
  | [], _, _, _, _, _, _, h => by simp [dec] at h
  | c :: cs, i, a, n, z, hi, ha, h => by
    simp only [dec] at h
    have hc := c.toNat_lt
    split at h
    · cases h
    · rename_i hn
      have hi9 : i ≤ 9 := by omega
      have hp : 0 < 128 ^ i := Nat.pow_pos (by decide)
      split at h
      · rename_i hs
        split at h
        · cases h
        · rename_i hz
          injection h with h; injection h with h1 h2
          subst h1; subst h2
          have e : UInt8.ofNat c.toNat = c := by simp
          refine ⟨c.toNat, by rw [Nat.mod_eq_of_lt hs], by rw [enc_small hs]; rfl, by rw [enc_small hs]; simp, by rw [enc_small hs]; simp, ?_, by omega⟩
          rw [Nat.mod_eq_of_lt hs]
          by_cases h9 : i = 9
          · subst h9
            have : (128 : Nat) ^ 9 = 9223372036854775808 := by decide
            rw [this] at ha ⊢
            have : c.toNat ≤ 1 := by omega
            omega
          · have h8 : 128 ^ i ≤ 128 ^ 8 := Nat.pow_le_pow_right (by decide) (by omega)
            have h88 : (128 : Nat) ^ 8 = 72057594037927936 := by decide
            have : c.toNat * 128 ^ i ≤ 127 * 128 ^ i := Nat.mul_le_mul_right _ (by omega)
            omega
      · rename_i hs
        have hn9 : i ≠ 9 := by omega
        have ha' : a + c.toNat % 128 * 128 ^ i < 128 ^ (i + 1) := by
          have : c.toNat % 128 * 128 ^ i ≤ 127 * 128 ^ i := Nat.mul_le_mul_right _ (by omega)
          rw [Nat.pow_succ]; omega
        obtain ⟨m, h1, h2, h3, h4, h5, h6⟩ := dec_inv cs (i + 1) _ n z (by omega) ha' h
        have hm := h6 (by omega)
        have hbig : ¬ (m * 128 + c.toNat % 128 < 128) := by omega
        have e1 : (m * 128 + c.toNat % 128) % 128 = c.toNat % 128 := by omega
        have e2 : (m * 128 + c.toNat % 128) / 128 = m := by omega
        have e3 : UInt8.ofNat (c.toNat % 128 + 128) = c := by
          apply UInt8.toNat_inj.1
          rw [UInt8.toNat_ofNat_of_lt' (by show c.toNat % 128 + 128 < 256; omega)]; omega
        have henc : enc (m * 128 + c.toNat % 128) = c :: enc m := by rw [enc_big hbig, e1, e2, e3]
        refine ⟨m * 128 + c.toNat % 128, ?_, by rw [henc, h2, List.length_cons]; omega, by rw [henc, List.length_cons, List.length_cons]; omega, by rw [henc, List.length_cons, List.take_succ_cons, h4], h5, by omega⟩
        rw [h1, Nat.pow_succ, Nat.add_mul, Nat.mul_assoc, Nat.mul_comm 128 (128 ^ i)]; omega
theorem dec_take {bs : List UInt8} {n z : Nat} (h : dec 0 0 bs = some (n, z)) : z = (enc n).length ∧ z ≤ bs.length ∧ bs = enc n ++ bs.drop z ∧ n < 18446744073709551616 := by
  obtain ⟨m, h1, h2, h3, h4, h5, _⟩ := dec_inv bs 0 0 n z (by omega) (by decide) h
  have e : n = m := by omega
  subst e
  have hz : z = (enc n).length := by omega
  refine ⟨hz, by omega, ?_, h5⟩
  have h6 := (List.take_append_drop z bs).symm
  rw [hz, h4] at h6
  rw [hz]
  exact h6

/-! Bytes that are read, one thing behind the other. -/
abbrev RS := List UInt8 × Bool
def rMost (k : Nat) (s : RS) : Nat × RS :=
  if s.2 = true then (0, s) else match dec 0 0 s.1 with
    | some (n, z) => if n ≤ k then (n, (s.1.drop z, false)) else (0, (s.1, true))
    | none => (0, (s.1, true))
def rText (k : Nat) (s : RS) : List UInt8 × RS :=
  if (rMost k s).2.2 = true ∨ (rMost k s).2.1.length < (rMost k s).1 then ([], ((rMost k s).2.1, true)) else ((rMost k s).2.1.take (rMost k s).1, ((rMost k s).2.1.drop (rMost k s).1, false))

theorem rMost_bad {k : Nat} {s : RS} (h : s.2 = true) : rMost k s = (0, s) := by simp [rMost, h]
theorem rMost_le (k : Nat) (s : RS) : (rMost k s).1 ≤ k := by
  unfold rMost
  split
  · exact Nat.zero_le _
  · split
    · split
      · assumption
      · exact Nat.zero_le _
    · exact Nat.zero_le _
theorem rMost_len (k : Nat) (s : RS) : (rMost k s).2.1.length ≤ s.1.length := by
  unfold rMost
  split
  · exact Nat.le_refl _
  · split
    · split
      · simp
      · exact Nat.le_refl _
    · exact Nat.le_refl _
theorem rText_len (k : Nat) (s : RS) : (rText k s).2.1.length ≤ s.1.length := by
  unfold rText
  have := rMost_len k s
  split
  · exact this
  · simp only [List.length_drop]; omega
theorem rText_le (k : Nat) (s : RS) : (rText k s).1.length ≤ k := by
  unfold rText
  have := rMost_le k s
  split
  · exact Nat.zero_le _
  · simp only [List.length_take]; omega
/-- What was written is read. -/
theorem rMost_put {k n : Nat} (h : n ≤ k) (hk : n < 18446744073709551616) (rest : List UInt8) : rMost k (enc n ++ rest, false) = (n, (rest, false)) := by
  simp only [rMost, Bool.false_eq_true, if_false, dec_put hk, if_pos h]
  rw [List.drop_left' rfl]
theorem rText_put {k : Nat} {s : List UInt8} (h : s.length ≤ k) (hk : s.length < 18446744073709551616) (rest : List UInt8) : rText k (enc s.length ++ s ++ rest, false) = (s, (rest, false)) := by
  rw [List.append_assoc]
  simp only [rText, rMost_put h hk]
  rw [if_neg (by simp)]
  simp
/-- What is read, and is not bad, was written so. -/
theorem rMost_inv {k : Nat} {s : RS} (h : (rMost k s).2.2 = false) : s.2 = false ∧ s.1 = enc (rMost k s).1 ++ (rMost k s).2.1 ∧ (rMost k s).1 < 18446744073709551616 := by
  unfold rMost at h ⊢
  split at h
  · rename_i hb; rw [hb] at h; cases h
  · rename_i hb
    rw [if_neg hb]
    split at h
    · rename_i n z hd
      split at h
      · rename_i hle
        simp only [hd, if_pos hle]
        obtain ⟨h1, h2, h3, h4⟩ := dec_take hd
        exact ⟨by simpa using hb, h3, h4⟩
      · cases h
    · cases h
theorem rText_inv {k : Nat} {s : RS} (h : (rText k s).2.2 = false) : s.2 = false ∧ s.1 = enc (rText k s).1.length ++ (rText k s).1 ++ (rText k s).2.1 := by
  unfold rText at h ⊢
  split at h
  · cases h
  · rename_i hn
    rw [if_neg hn]
    have hb : (rMost k s).2.2 = false := by
      cases hq : (rMost k s).2.2 with
      | false => rfl
      | true => exact absurd (.inl hq) hn
    obtain ⟨h1, h2, h3⟩ := rMost_inv hb
    have hl : ¬ (rMost k s).2.1.length < (rMost k s).1 := fun hq => hn (.inr hq)
    refine ⟨h1, ?_⟩
    simp only [List.length_take]
    rw [Nat.min_eq_left (by omega), List.append_assoc, List.take_append_drop]
    exact h2
theorem rMost_stays {k : Nat} {s : RS} (h : s.2 = true) : (rMost k s).2.2 = true := by rw [rMost_bad h]; exact h
theorem rText_stays {k : Nat} {s : RS} (h : s.2 = true) : (rText k s).2.2 = true := by
  unfold rText
  rw [if_pos (.inl (rMost_stays h))]
end Go.Aw
