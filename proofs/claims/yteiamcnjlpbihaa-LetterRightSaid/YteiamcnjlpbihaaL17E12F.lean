import Derived.Test.YteiamcnjlpbihaaL17O16B
import Derived.Test.YteiamcnjlpbihaaAwD
import Derived.Test.YteiamcnjlpbihaaL17S12X
namespace Go.Aw
open Go
open Go.Proofs.Try (prog)
set_option linter.all false
set_option maxHeartbeats 4000000

theorem rID_len (s : RS) : (rID s).2.1.length ≤ s.1.length := Nat.le_trans (rMost_len _ _) (rMost_len _ _)
theorem rRd_len (s : RS) : (rRd s).2.1.length ≤ s.1.length := Nat.le_trans (rMost_len _ _) (rText_len _ _)
theorem rWt_len (s : RS) : (rWt s).2.1.length ≤ s.1.length := Nat.le_trans (rMost_len _ _) (Nat.le_trans (rText_len _ _) (rText_len _ _))
theorem rText_key (s : RS) : (rText 32 s).1.length ≤ 32 := rText_le 32 s
theorem rTx_fine (s : RS) : (rTx s).1.Fine := by
  refine ⟨?_, ?_, ?_, ?_, ?_⟩
  · have h1 := rList_le (f := rRd) (rMost 8 (rMost 1 (rID s).2).2).1 (rMost 8 (rMost 1 (rID s).2).2).2
    have h2 := rMost_le 8 (rMost 1 (rID s).2).2
    show (rList rRd _ _).1.length < _; omega
  · have h1 := rList_le (f := rWt) (rMost 8 (rList rRd (rMost 8 (rMost 1 (rID s).2).2).1 (rMost 8 (rMost 1 (rID s).2).2).2).2).1 (rMost 8 (rList rRd (rMost 8 (rMost 1 (rID s).2).2).1 (rMost 8 (rMost 1 (rID s).2).2).2).2).2
    have h2 := rMost_le 8 (rList rRd (rMost 8 (rMost 1 (rID s).2).2).1 (rMost 8 (rMost 1 (rID s).2).2).2).2
    show (rList rWt _ _).1.length < _; omega
  · exact rList_all (p := fun r : Rd => Len r.k.length) (fun s => by have := rText_key s; show Len (rText 32 s).1.length; unfold Len; omega) _ _
  · exact rList_all (p := fun r : Wt => Len r.k.length) (fun s => by have := rText_key s; show Len (rText 32 s).1.length; unfold Len; omega) _ _
  · exact rList_all (p := fun r : Wt => Len r.v.length) (fun s => by have := rText_le 64 (rText 32 s).2; show Len (rText 64 (rText 32 s).2).1.length; unfold Len; omega) _ _

def zeroTx : Tx := ⟨0, 0, false, [], []⟩
/-- What reading a transaction answers. -/
def rTxOk (s : RS) : Bool := !(rTx s).2.2 && txOk (rTx s).1
def rTxAns (s : RS) : Tx × AV := if rTxOk s = true then ((rTx s).1, .nilifc) else (zeroTx, fault [116, 120, 110] (errno 3))

end Go.Aw

namespace Go.Aw
open Go
open Go.Proofs.Try (prog)
set_option linter.all false
set_option maxHeartbeats 4000000

theorem once_keys : ∀ (l seen : List Bs), onceF seen l = true → ∀ k ∈ l, keyOk k = true
  | [], _, _, k, hk => by cases hk
  | x :: l, seen, h, k, hk => by
    simp only [onceF, Bool.and_eq_true] at h
    rcases List.mem_cons.1 hk with rfl | hk
    · exact h.1.1
    · exact once_keys l _ h.2 k hk
theorem key_len {k : Bs} (h : keyOk k = true) : k.length ≤ 32 := by
  simp only [keyOk, Bool.and_eq_true, decide_eq_true_eq] at h; omega
theorem good_of_ok {t : Tx} (h : txOk t = true) (hs : t.sq < 18446744073709551616) (hr : ∀ r ∈ t.rs, 0 ≤ r.n ∧ r.n < 18446744073709551616) : t.Good := by
  simp only [txOk, idOk, Bool.and_eq_true, decide_eq_true_eq, Bool.not_eq_true', decide_eq_false_iff_not] at h
  obtain ⟨⟨⟨⟨⟨h1, h2⟩, h3⟩, h4⟩, h5⟩, ⟨h6, h7⟩, h8⟩ := h
  refine ⟨⟨h1.1.1, h1.1.2⟩, ⟨h1.2, hs⟩, by omega, by omega, fun r hm => ⟨key_len (once_keys _ _ h6 _ (List.mem_map_of_mem hm)), hr r hm⟩, fun w hm => ⟨key_len (once_keys _ _ h7 _ (List.mem_map_of_mem hm)), ?_⟩⟩
  have := List.all_eq_true.1 h8 w hm
  simp only [wOk, valOk, Bool.and_eq_true, decide_eq_true_eq] at this
  omega

theorem byteCells_full (l : List UInt8) : (byteCells l).take l.length = byteCells l := by rw [List.take_of_length_le]; rw [byteCells_length]; exact Nat.le_refl _
theorem encTx_len {t : Tx} (h : t.Good) : (encTx t).length ≤ 2000 := by
  obtain ⟨hcl, hsq, hr, hw, hrr, hww⟩ := h
  have l1 := enc_len10 (m := t.cl.toNat) (by omega)
  have l2 := enc_len10 (m := t.sq.toNat) (by omega)
  have l3 := enc_len10 (m := t.rs.length) (by omega)
  have l4 := enc_len10 (m := t.ws.length) (by omega)
  have l5 := flatB_len (g := encRd) t.rs fun r hr => encRd_len (hrr r hr)
  have l6 := flatB_len (g := encWt) t.ws fun r hr => encWt_len (hww r hr)
  simp only [encTx, List.length_append, List.length_cons, List.length_nil]; omega
theorem fz_bts {n : Nat} {l : List UInt8} {c : Option Nat} (h : l.length = n) : AV.fz n (byteCells l) c = bts l c := by subst h; rfl
theorem rTxOk_put {t : Tx} (h : t.Good) (hok : txOk t = true) (rest : List UInt8) : rTxOk (encTx t ++ rest, false) = true := by
  unfold rTxOk; rw [rTx_put h]; simp [hok]

end Go.Aw
