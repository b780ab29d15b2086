import Derived.Test.YteiamcnjlpbihaaGreatDoorAwD
import Derived.Test.YteiamcnjlpbihaaGreatDoorN17S12A
import Derived.Test.YteiamcnjlpbihaaGreatDoorN17E12X
namespace Go.Aw
open Go
open Go.Proofs.Tryz (prog)
set_option linter.all false
set_option maxHeartbeats 4000000
def qco (r : Rd) : List UInt8 := q75 r.k ++ enc r.n.toNat
def qdu (w : Wt) : List UInt8 := q75 w.k ++ q75 w.v ++ [qji w.g]
def qa4 (t : Tx) : List UInt8 := enc t.cl.toNat ++ enc t.sq.toNat ++ [qji t.pl] ++ enc t.rs.length ++ t.rs.flatMap qco ++ enc t.ws.length ++ t.ws.flatMap qdu
structure Tx.Good (t : Tx) : Prop where
 cl : 0 <= t.cl /\ t.cl < 6
 sq : 0 < t.sq /\ t.sq < 18446744073709551616
 r : t.rs.length <= 8
 w : t.ws.length <= 8
 rr : ∀ r ∈ t.rs, r.k.length <= 32 /\ 0 <= r.n /\ r.n < 18446744073709551616
 ww : ∀ w ∈ t.ws, w.k.length <= 32 /\ w.v.length <= 64
def rID (s : RS) : (Nat × Nat) × RS := (((K4 5 s).1, (K4 18446744073709551615 (K4 5 s).2).1), (K4 18446744073709551615 (K4 5 s).2).2)
def rRd (s : RS) : Rd × RS := (⟨(q33 32 s).1, (K4 18446744073709551615 (q33 32 s).2).1⟩, (K4 18446744073709551615 (q33 32 s).2).2)
def rWt (s : RS) : Wt × RS := (⟨(q33 32 s).1, (q33 64 (q33 32 s).2).1, decide ((K4 1 (q33 64 (q33 32 s).2).2).1 = 1)⟩, (K4 1 (q33 64 (q33 32 s).2).2).2)
def rTx (s : RS) : Tx × RS :=
 let a := rID s
 let p := K4 1 a.2
 let n := K4 8 p.2
 let rs := G1 rRd n.1 n.2
 let m := K4 8 rs.2
 let ws := G1 rWt m.1 m.2
 (⟨a.1.1, a.1.2, decide (p.1 = 1), rs.1, ws.1⟩, ws.2)
theorem zd5 {r : Rd} (h : r.k.length <= 32 /\ 0 <= r.n /\ r.n < 18446744073709551616) (rest : List UInt8) : rRd (qco r ++ rest, false) = (r, (rest, false)) := by
 obtain ⟨h1, h2, h3⟩ := h
 have e : qco r ++ rest = enc r.k.length ++ r.k ++ (enc r.n.toNat ++ rest) := by simp [qco, q75]
 unfold rRd
 rw [e, qf2 h1 (by omega)]
 simp only [V5 (show r.n.toNat <= 18446744073709551615 by omega) (by omega)]
 rw [show ((r.n.toNat : Nat) : Int) = r.n by omega]
theorem zd6 {w : Wt} (h : w.k.length <= 32 /\ w.v.length <= 64) (rest : List UInt8) : rWt (qdu w ++ rest, false) = (w, (rest, false)) := by
 obtain ⟨h1, h2⟩ := h
 have e : qdu w ++ rest = enc w.k.length ++ w.k ++ (enc w.v.length ++ w.v ++ (enc (if w.g = true then 1 else 0) ++ rest)) := by simp [qdu, q75, ql7]
 unfold rWt
 rw [e, qf2 h1 (by omega)]
 simp only [qf2 h2 (show w.v.length < _ by omega)]
 rw [V5 (by split <;> omega) (by split <;> omega)]
 obtain ⟨k, v, g⟩ := w
 cases g <;> simp
theorem z0w {t : Tx} (h : t.Good) (rest : List UInt8) : rTx (qa4 t ++ rest, false) = (t, (rest, false)) := by
 obtain ⟨hcl, hsq, hr, hw, hrr, hww⟩ := h
 have e : qa4 t ++ rest = enc t.cl.toNat ++ (enc t.sq.toNat ++ (enc (if t.pl = true then 1 else 0) ++ (enc t.rs.length ++ (t.rs.flatMap qco ++ (enc t.ws.length ++ (t.ws.flatMap qdu ++ rest)))))) := by simp [qa4, ql7]
 unfold rTx rID
 rw [e, V5 (by omega) (by omega)]
 simp only [V5 (show t.sq.toNat <= 18446744073709551615 by omega) (by omega)]
 rw [V5 (by split <;> omega) (by split <;> omega)]
 simp only [V5 hr (show t.rs.length < _ by omega)]
 rw [qhv (g := qco) (ok := fun r => r.k.length <= 32 /\ 0 <= r.n /\ r.n < 18446744073709551616) (fun x rest h => zd5 h rest) t.rs _ hrr]
 simp only [V5 hw (show t.ws.length < _ by omega)]
 rw [qhv (g := qdu) (ok := fun w => w.k.length <= 32 /\ w.v.length <= 64) (fun x rest h => zd6 h rest) t.ws _ hww]
 obtain ⟨cl, sq, pl, rs, ws⟩ := t
 simp only at hcl hsq ⊢
 rw [show ((cl.toNat : Nat) : Int) = cl by omega, show ((sq.toNat : Nat) : Int) = sq by omega]
 cases pl <;> rfl
end Go.Aw
