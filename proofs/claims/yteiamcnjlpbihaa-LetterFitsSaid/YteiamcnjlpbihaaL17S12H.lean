import Derived.Test.YteiamcnjlpbihaaAwD
import Derived.Test.YteiamcnjlpbihaaL17S12A
import Derived.Test.YteiamcnjlpbihaaL17S12S
import Derived.Test.YteiamcnjlpbihaaT17Txt
namespace Go.Aw
open Go
open Go.Proofs.Try (prog)
set_option linter.all false
set_option maxHeartbeats 4000000

/-! A transaction's bytes. -/
def encRd (r : Rd) : List UInt8 := encT r.k ++ enc r.n.toNat
def encWt (w : Wt) : List UInt8 := encT w.k ++ encT w.v ++ [bitB w.g]
def encTx (t : Tx) : List UInt8 := enc t.cl.toNat ++ enc t.sq.toNat ++ [bitB t.pl] ++ enc t.rs.length ++ t.rs.flatMap encRd ++ enc t.ws.length ++ t.ws.flatMap encWt

/-- What is asked of a transaction that is written. -/
structure Tx.Good (t : Tx) : Prop where
  cl : 0 ≤ t.cl ∧ t.cl < 6
  sq : 0 < t.sq ∧ t.sq < 18446744073709551616
  r : t.rs.length ≤ 8
  w : t.ws.length ≤ 8
  rr : ∀ r ∈ t.rs, r.k.length ≤ 32 ∧ 0 ≤ r.n ∧ r.n < 18446744073709551616
  ww : ∀ w ∈ t.ws, w.k.length ≤ 32 ∧ w.v.length ≤ 64

def rID (s : RS) : (Nat × Nat) × RS := (((rMost 5 s).1, (rMost 18446744073709551615 (rMost 5 s).2).1), (rMost 18446744073709551615 (rMost 5 s).2).2)
def rRd (s : RS) : Rd × RS := (⟨(rText 32 s).1, (rMost 18446744073709551615 (rText 32 s).2).1⟩, (rMost 18446744073709551615 (rText 32 s).2).2)
def rWt (s : RS) : Wt × RS := (⟨(rText 32 s).1, (rText 64 (rText 32 s).2).1, decide ((rMost 1 (rText 64 (rText 32 s).2).2).1 = 1)⟩, (rMost 1 (rText 64 (rText 32 s).2).2).2)
def rTx (s : RS) : Tx × RS :=
  let a := rID s
  let p := rMost 1 a.2
  let n := rMost 8 p.2
  let rs := rList rRd n.1 n.2
  let m := rMost 8 rs.2
  let ws := rList rWt m.1 m.2
  (⟨a.1.1, a.1.2, decide (p.1 = 1), rs.1, ws.1⟩, ws.2)

theorem rRd_put {r : Rd} (h : r.k.length ≤ 32 ∧ 0 ≤ r.n ∧ r.n < 18446744073709551616) (rest : List UInt8) : rRd (encRd r ++ rest, false) = (r, (rest, false)) := by
  obtain ⟨h1, h2, h3⟩ := h
  have e : encRd r ++ rest = enc r.k.length ++ r.k ++ (enc r.n.toNat ++ rest) := by simp [encRd, encT]
  unfold rRd
  rw [e, rText_put h1 (by omega)]
  simp only [rMost_put (show r.n.toNat ≤ 18446744073709551615 by omega) (by omega)]
  rw [show ((r.n.toNat : Nat) : Int) = r.n by omega]
theorem rWt_put {w : Wt} (h : w.k.length ≤ 32 ∧ w.v.length ≤ 64) (rest : List UInt8) : rWt (encWt w ++ rest, false) = (w, (rest, false)) := by
  obtain ⟨h1, h2⟩ := h
  have e : encWt w ++ rest = enc w.k.length ++ w.k ++ (enc w.v.length ++ w.v ++ (enc (if w.g = true then 1 else 0) ++ rest)) := by simp [encWt, encT, enc_bit]
  unfold rWt
  rw [e, rText_put h1 (by omega)]
  simp only [rText_put h2 (show w.v.length < _ by omega)]
  rw [rMost_put (by split <;> omega) (by split <;> omega)]
  obtain ⟨k, v, g⟩ := w
  cases g <;> simp
theorem rTx_put {t : Tx} (h : t.Good) (rest : List UInt8) : rTx (encTx t ++ rest, false) = (t, (rest, false)) := by
  obtain ⟨hcl, hsq, hr, hw, hrr, hww⟩ := h
  have e : encTx t ++ rest = enc t.cl.toNat ++ (enc t.sq.toNat ++ (enc (if t.pl = true then 1 else 0) ++ (enc t.rs.length ++ (t.rs.flatMap encRd ++ (enc t.ws.length ++ (t.ws.flatMap encWt ++ rest)))))) := by simp [encTx, enc_bit]
  unfold rTx rID
  rw [e, rMost_put (by omega) (by omega)]
  simp only [rMost_put (show t.sq.toNat ≤ 18446744073709551615 by omega) (by omega)]
  rw [rMost_put (by split <;> omega) (by split <;> omega)]
  simp only [rMost_put hr (show t.rs.length < _ by omega)]
  rw [rList_put (g := encRd) (ok := fun r => r.k.length ≤ 32 ∧ 0 ≤ r.n ∧ r.n < 18446744073709551616) (fun x rest h => rRd_put h rest) t.rs _ hrr]
  simp only [rMost_put hw (show t.ws.length < _ by omega)]
  rw [rList_put (g := encWt) (ok := fun w => w.k.length ≤ 32 ∧ w.v.length ≤ 64) (fun x rest h => rWt_put h rest) t.ws _ hww]
  obtain ⟨cl, sq, pl, rs, ws⟩ := t
  simp only at hcl hsq ⊢
  rw [show ((cl.toNat : Nat) : Int) = cl by omega, show ((sq.toNat : Nat) : Int) = sq by omega]
  cases pl <;> rfl

/-- What is read, and is not bad, was written so. -/
theorem rRd_inv {s : RS} (h : (rRd s).2.2 = false) : s.2 = false ∧ s.1 = encRd (rRd s).1 ++ (rRd s).2.1 := by
  unfold rRd at h ⊢
  simp only at h ⊢
  obtain ⟨h1, h2, _⟩ := rMost_inv h
  obtain ⟨h3, h4⟩ := rText_inv h1
  refine ⟨h3, ?_⟩
  rw [h4, h2]
  simp [encRd, encT]
theorem rWt_inv {s : RS} (h : (rWt s).2.2 = false) : s.2 = false ∧ s.1 = encWt (rWt s).1 ++ (rWt s).2.1 := by
  unfold rWt at h ⊢
  simp only at h ⊢
  obtain ⟨h1, h2, _⟩ := rMost_inv h
  obtain ⟨h3, h4⟩ := rText_inv h1
  obtain ⟨h5, h6⟩ := rText_inv h3
  refine ⟨h5, ?_⟩
  rw [h6, h4, h2, bit_of (rMost_le 1 _)]
  simp [encWt, encT]
theorem rTx_inv {s : RS} (h : (rTx s).2.2 = false) : s.2 = false ∧ s.1 = encTx (rTx s).1 ++ (rTx s).2.1 := by
  unfold rTx rID at h ⊢
  simp only at h ⊢
  obtain ⟨h1, h2, h3⟩ := rList_inv (fun s => rWt_inv) _ _ h
  obtain ⟨h4, h5, _⟩ := rMost_inv h1
  obtain ⟨h6, h7, h8⟩ := rList_inv (fun s => rRd_inv) _ _ h4
  obtain ⟨h9, h10, _⟩ := rMost_inv h6
  obtain ⟨h11, h12, _⟩ := rMost_inv h9
  obtain ⟨h13, h14, _⟩ := rMost_inv h11
  obtain ⟨h15, h16, _⟩ := rMost_inv h13
  refine ⟨h15, ?_⟩
  unfold encTx
  simp only [Int.toNat_natCast, h8, h3]
  rw [← bit_of (rMost_le 1 _)]
  simp only [List.append_assoc]
  rw [← h2, ← h5, ← h7, ← h10, ← h12, ← h14, ← h16]
end Go.Aw

namespace Go.Aw
open Go
open Go.Proofs.Try (prog)
set_option linter.all false

abbrev tErrno : TypeId := 29
abbrev tFault : TypeId := 109
/-- An error that says where. -/
def fault (w : List UInt8) (e : AV) : AV := .ifc tFault (.fptr [.s w, e])
def errno (e : Int) : AV := .ifc tErrno (.i .i64 e)
end Go.Aw
