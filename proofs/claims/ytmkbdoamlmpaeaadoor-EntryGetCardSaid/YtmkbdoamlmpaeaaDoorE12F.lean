import Derived.Test.YtmkbdoamlmpaeaaDoorE12E
import Derived.Test.YtmkbdoamlmpaeaaDoorE12X
namespace Go.Aw
open Go
open Go.Proofs.Tryd (prog)
set_option linter.all false
set_option maxHeartbeats 4000000

theorem once_keys : ∀ (l seen : List Bs), onceF seen l = true → ∀ k ∈ l, keyOk k = true
  | [], _, _, k, hk => by cases hk
  | x :: l, seen, h, k, hk => by
    simp only [onceF, Bool.and_eq_true] at h
    rcases List.mem_cons.1 hk with rfl | hk
    · exact h.1.1
    · exact once_keys l _ h.2 k hk
theorem key_len {k : Bs} (h : keyOk k = true) : k.length ≤ 32 := by
  simp only [keyOk, Bool.and_eq_true, decide_eq_true_eq] at h; omega
theorem good_of_ok {t : Tx} (h : txOk t = true) (hs : t.sq < 18446744073709551616) (hr : ∀ r ∈ t.rs, 0 ≤ r.n ∧ r.n < 18446744073709551616) : t.Good := by
  simp only [txOk, idOk, Bool.and_eq_true, decide_eq_true_eq, Bool.not_eq_true', decide_eq_false_iff_not] at h
  obtain ⟨⟨⟨⟨⟨h1, h2⟩, h3⟩, h4⟩, h5⟩, ⟨h6, h7⟩, h8⟩ := h
  refine ⟨⟨h1.1.1, h1.1.2⟩, ⟨h1.2, hs⟩, by omega, by omega, fun r hm => ⟨key_len (once_keys _ _ h6 _ (List.mem_map_of_mem hm)), hr r hm⟩, fun w hm => ⟨key_len (once_keys _ _ h7 _ (List.mem_map_of_mem hm)), ?_⟩⟩
  have := List.all_eq_true.1 h8 w hm
  simp only [wOk, valOk, Bool.and_eq_true, decide_eq_true_eq] at this
  omega

theorem byteCells_full (l : List UInt8) : (byteCells l).take l.length = byteCells l := by rw [List.take_of_length_le]; rw [byteCells_length]; exact Nat.le_refl _
theorem encTx_len {t : Tx} (h : t.Good) : (encTx t).length ≤ 2000 := by
  obtain ⟨hcl, hsq, hr, hw, hrr, hww⟩ := h
  have l1 := enc_len10 (m := t.cl.toNat) (by omega)
  have l2 := enc_len10 (m := t.sq.toNat) (by omega)
  have l3 := enc_len10 (m := t.rs.length) (by omega)
  have l4 := enc_len10 (m := t.ws.length) (by omega)
  have l5 := flatB_len (g := encRd) t.rs fun r hr => encRd_len (hrr r hr)
  have l6 := flatB_len (g := encWt) t.ws fun r hr => encWt_len (hww r hr)
  simp only [encTx, List.length_append, List.length_cons, List.length_nil]; omega
theorem fz_bts {n : Nat} {l : List UInt8} {c : Option Nat} (h : l.length = n) : AV.fz n (byteCells l) c = bts l c := by subst h; rfl
theorem rTxOk_put {t : Tx} (h : t.Good) (hok : txOk t = true) (rest : List UInt8) : rTxOk (encTx t ++ rest, false) = true := by
  unfold rTxOk; rw [rTx_put h]; simp [hok]

end Go.Aw
