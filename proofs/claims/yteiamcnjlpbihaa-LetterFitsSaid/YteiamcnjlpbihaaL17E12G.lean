import Derived.Test.YteiamcnjlpbihaaL17E12F
namespace Go.Aw
open Go
open Go.Proofs.Try (prog)
set_option linter.all false
set_option maxHeartbeats 4000000

/-! An entry's bytes. -/
def encEn (e : En) : List UInt8 := enc e.ep.toNat ++ enc e.kd.toNat ++ (if e.kd = 1 then encTx e.t else enc e.cl.toNat ++ enc e.sq.toNat ++ enc e.co.toNat)
structure En.Good (e : En) : Prop where
  ep : 0 < e.ep ∧ e.ep < 18446744073709551616
  kd : (e.kd = 1 ∧ e.t.Good ∧ txOk e.t = true ∧ e.cl = 0 ∧ e.sq = 0 ∧ e.co = 0) ∨
    (e.kd = 2 ∧ e.t = zeroTx ∧ (0 ≤ e.cl ∧ e.cl < 6) ∧ (0 < e.sq ∧ e.sq < 18446744073709551616) ∧ (e.co = 0 ∨ e.co = 8 ∨ e.co = 11))
theorem noOk_zero {t : Tx} (h : noOk t = true) : t = zeroTx := by
  obtain ⟨cl, sq, pl, rs, ws⟩ := t
  simp only [noOk, Bool.and_eq_true, decide_eq_true_eq, Bool.not_eq_true'] at h
  obtain ⟨⟨⟨rfl, rfl⟩, rfl⟩, h⟩ := h
  have h1 : rs = [] := List.length_eq_zero_iff.1 (by omega)
  have h2 : ws = [] := List.length_eq_zero_iff.1 (by omega)
  subst h1; subst h2; rfl
structure En.Rng (e : En) : Prop where
  ep : 0 ≤ e.ep ∧ e.ep < 18446744073709551616
  tsq : e.t.sq < 18446744073709551616
  tr : ∀ r ∈ e.t.rs, 0 ≤ r.n ∧ r.n < 18446744073709551616
  sq : e.sq < 18446744073709551616
theorem En.good_of {e : En} (h : enOk e = true) (hr : e.Rng) : e.Good := by
  obtain ⟨h1, h2, h3, h4⟩ := hr
  simp only [enOk, Bool.and_eq_true, Bool.not_eq_true', decide_eq_false_iff_not] at h
  obtain ⟨hep, h⟩ := h
  refine ⟨⟨by omega, h1.2⟩, ?_⟩
  by_cases hk : e.kd = 1
  · rw [if_pos (by simpa using hk)] at h
    simp only [Bool.and_eq_true, decide_eq_true_eq] at h
    exact .inl ⟨hk, good_of_ok h.1.1 h2 h3, h.1.1, h.1.2.1, h.1.2.2, h.2⟩
  · rw [if_neg (by simpa using hk)] at h
    simp only [Bool.and_eq_true, decide_eq_true_eq, idOk, coOk, Bool.or_eq_true] at h
    obtain ⟨hk2, ⟨hn, hid⟩, hco⟩ := h
    exact .inr ⟨hk2, noOk_zero hn, ⟨hid.1.1, hid.1.2⟩, ⟨hid.2, h4⟩, hco⟩
theorem En.Good.ok {e : En} (h : e.Good) : enOk e = true := by
  obtain ⟨h1, h2⟩ := h
  have he : decide (e.ep = 0) = false := decide_eq_false (by omega)
  rcases h2 with ⟨h3, h4, h5, h6, h7, h8⟩ | ⟨h3, h4, h5, h6, h7⟩
  · simp [enOk, he, h3, h5, h6, h7, h8]
  · have : noOk e.t = true := by rw [h4]; rfl
    have e2 : idOk e.cl e.sq = true := by simp [idOk]; omega
    have e3 : coOk e.co = true := by rcases h7 with h | h | h <;> rw [h] <;> rfl
    simp [enOk, he, h3, this, e2, e3]

def rEn (s : RS) : En × RS :=
  let a := rMost 18446744073709551615 s
  let k := rMost 2 a.2
  if k.1 = 1 then (⟨a.1, k.1, (rTxAns k.2).1, 0, 0, 0⟩, (rTx k.2).2)
  else if k.1 = 2 then (⟨a.1, k.1, zeroTx, (rID k.2).1.1, (rID k.2).1.2, (rMost 99 (rID k.2).2).1⟩, (rMost 99 (rID k.2).2).2)
  else (⟨a.1, k.1, zeroTx, 0, 0, 0⟩, k.2)
def rEnTx (s : RS) : Bool := !decide ((rMost 2 (rMost 18446744073709551615 s).2).1 = 1) || rTxOk (rMost 2 (rMost 18446744073709551615 s).2).2
def rEnOk (s : RS) : Bool := rEnTx s && (!(rEn s).2.2 && decide ((rEn s).2.1 = [])) && enOk (rEn s).1
def zeroEn : En := ⟨0, 0, zeroTx, 0, 0, 0⟩
def rEnAns (s : RS) : En := if rEnOk s = true then (rEn s).1 else zeroEn

theorem rEn_put {e : En} (h : e.Good) : rEn (encEn e, false) = (e, ([], false)) ∧ rEnTx (encEn e, false) = true := by
  obtain ⟨ep, kd, t, cl, sq, co⟩ := e
  obtain ⟨h1, h2⟩ := h
  simp only at h1 h2
  rcases h2 with ⟨rfl, h4, h5, rfl, rfl, rfl⟩ | ⟨rfl, rfl, h5, h6, h7⟩
  · have e : encEn ⟨ep, 1, t, 0, 0, 0⟩ = enc ep.toNat ++ (enc 1 ++ (encTx t ++ [])) := by simp [encEn]
    have hx := rTx_put h4 []
    have hk := rTxOk_put h4 h5 []
    rw [List.append_nil] at hx hk
    unfold rEn rEnTx
    rw [e, rMost_put (by omega) (by omega)]
    simp only [rMost_put (show 1 ≤ 2 by omega) (by omega), if_true, rTxAns, List.append_nil, hx, hk]
    rw [show ((ep.toNat : Nat) : Int) = ep by omega]
    exact ⟨rfl, rfl⟩
  · have e : encEn ⟨ep, 2, zeroTx, cl, sq, co⟩ = enc ep.toNat ++ (enc 2 ++ (enc cl.toNat ++ (enc sq.toNat ++ (enc co.toNat ++ [])))) := by simp [encEn]
    unfold rEn rEnTx rID
    rw [e, rMost_put (by omega) (by omega)]
    simp only [rMost_put (show 2 ≤ 2 by omega) (by omega)]
    rw [if_neg (by decide), if_pos trivial, rMost_put (by omega) (by omega)]
    simp only [rMost_put (show sq.toNat ≤ 18446744073709551615 by omega) (by omega)]
    rw [rMost_put (by omega) (by omega)]
    simp only
    rw [show ((ep.toNat : Nat) : Int) = ep by omega, show ((cl.toNat : Nat) : Int) = cl by omega, show ((sq.toNat : Nat) : Int) = sq by omega, show ((co.toNat : Nat) : Int) = co by omega]
    exact ⟨rfl, rfl⟩
theorem rEnOk_put {e : En} (h : e.Good) : rEnOk (encEn e, false) = true ∧ rEnAns (encEn e, false) = e := by
  have h1 := rEn_put h
  have h2 : rEnOk (encEn e, false) = true := by simp [rEnOk, h1.1, h1.2, h.ok]
  exact ⟨h2, by simp [rEnAns, h2, h1.1]⟩

theorem rEn_rng (s : RS) : (rEn s).1.Rng := by
  have h1 := rMost_le 18446744073709551615 s
  unfold rEn
  simp only
  have hz : ∀ a b c d f : Int, 0 ≤ a ∧ a < 18446744073709551616 → d < 18446744073709551616 → (⟨a, b, zeroTx, c, d, f⟩ : En).Rng := fun a b c d f h1 h2 => ⟨h1, (by show (0 : Int) < _; decide), (fun r hr => by cases hr), h2⟩
  split
  · have ht : ∀ t : Tx, t.sq < 18446744073709551616 → (∀ r ∈ t.rs, 0 ≤ r.n ∧ r.n < 18446744073709551616) → (⟨(rMost 18446744073709551615 s).1, (rMost 2 (rMost 18446744073709551615 s).2).1, t, 0, 0, 0⟩ : En).Rng := fun t h2 h3 => ⟨by simp only; omega, h2, h3, by show (0 : Int) < _; decide⟩
    unfold rTxAns
    split
    · refine ht _ ?_ ?_
      · have := rMost_le 18446744073709551615 (rMost 5 (rMost 2 (rMost 18446744073709551615 s).2).2).2
        show ((rMost 18446744073709551615 (rMost 5 (rMost 2 (rMost 18446744073709551615 s).2).2).2).1 : Int) < _
        omega
      · exact rList_all (p := fun r : Rd => 0 ≤ r.n ∧ r.n < 18446744073709551616) (fun s => by
          have := rMost_le 18446744073709551615 (rText 32 s).2
          show 0 ≤ ((rMost 18446744073709551615 (rText 32 s).2).1 : Int) ∧ ((rMost 18446744073709551615 (rText 32 s).2).1 : Int) < _
          omega) _ _
    · exact ht _ (by show (0 : Int) < _; decide) (fun r hr => by cases hr)
  · split
    · refine hz _ _ _ _ _ (by omega) ?_
      have := rMost_le 18446744073709551615 (rMost 5 (rMost 2 (rMost 18446744073709551615 s).2).2).2
      show ((rMost 18446744073709551615 (rMost 5 (rMost 2 (rMost 18446744073709551615 s).2).2).2).1 : Int) < _
      omega
    · exact hz _ _ _ _ _ (by omega) (by decide)

/-- What is read as an entry was written so. -/
theorem rEn_inv {b : List UInt8} (h : rEnOk (b, false) = true) : (rEn (b, false)).1.Good ∧ b = encEn (rEn (b, false)).1 := by
  simp only [rEnOk, Bool.and_eq_true, Bool.not_eq_true', decide_eq_true_eq] at h
  obtain ⟨⟨htx, hb, hnil⟩, hok⟩ := h
  have hg := En.good_of hok (rEn_rng _)
  refine ⟨hg, ?_⟩
  unfold rEn at hb hnil hok hg ⊢
  simp only at hb hnil hok hg ⊢
  by_cases h1 : (rMost 2 (rMost 18446744073709551615 (b, false)).2).1 = 1
  · rw [if_pos h1] at hb hnil ⊢
    have hk : rTxOk (rMost 2 (rMost 18446744073709551615 (b, false)).2).2 = true := by simpa [rEnTx, h1] using htx
    obtain ⟨i1, i2⟩ := rTx_inv hb
    obtain ⟨i3, i4, _⟩ := rMost_inv i1
    obtain ⟨i5, i6, _⟩ := rMost_inv i3
    simp only at i6
    rw [hnil, List.append_nil] at i2
    rw [i2] at i4
    rw [i4, h1] at i6
    simp only [encEn, rTxAns, hk, if_true, Int.toNat_natCast, h1]
    simpa using i6
  · rw [if_neg h1] at hb hnil hok ⊢
    by_cases h2 : (rMost 2 (rMost 18446744073709551615 (b, false)).2).1 = 2
    · rw [if_pos h2] at hb hnil ⊢
      obtain ⟨i1, i2, _⟩ := rMost_inv hb
      unfold rID at i1 i2 hnil ⊢
      simp only at i1 i2 hnil ⊢
      obtain ⟨i3, i4, _⟩ := rMost_inv i1
      obtain ⟨i5, i6, _⟩ := rMost_inv i3
      obtain ⟨i7, i8, _⟩ := rMost_inv i5
      obtain ⟨i9, i10, _⟩ := rMost_inv i7
      simp only at i10
      rw [hnil, List.append_nil] at i2
      rw [i2] at i4
      rw [i4] at i6
      rw [i6] at i8
      rw [i8, h2] at i10
      simp only [encEn, Int.toNat_natCast, h2]
      simpa using i10
    · rw [if_neg h2] at hok
      exfalso
      simp only [enOk, Bool.and_eq_true] at hok
      have hle := rMost_le 2 (rMost 18446744073709551615 (b, false)).2
      have h0 : (rMost 2 (rMost 18446744073709551615 (b, false)).2).1 = 0 := by omega
      rw [h0] at hok
      simp at hok
end Go.Aw
