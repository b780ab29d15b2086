import Derived.Test.YteiamcnjlpbihaaGreatDoorAwD
import Derived.Test.YteiamcnjlpbihaaGreatDoorN17S12A
import Derived.Test.YteiamcnjlpbihaaGreatDoorN17E12X
namespace Go.Aw
open Go
open Go.Proofs.Tryz (prog)
set_option linter.all false
set_option maxHeartbeats 4000000
def qem (r : Rd) : List UInt8 := q76 r.k ++ enc r.n.toNat
def qgt (w : Wt) : List UInt8 := q76 w.k ++ q76 w.v ++ [qiw w.g]
def qay (t : Tx) : List UInt8 := enc t.cl.toNat ++ enc t.sq.toNat ++ [qiw t.pl] ++ enc t.rs.length ++ t.rs.flatMap qem ++ enc t.ws.length ++ t.ws.flatMap qgt
structure Tx.Good (t : Tx) : Prop where
 cl : 0 <= t.cl /\ t.cl < 6
 sq : 0 < t.sq /\ t.sq < 18446744073709551616
 r : t.rs.length <= 8
 w : t.ws.length <= 8
 rr : ∀ r ∈ t.rs, r.k.length <= 32 /\ 0 <= r.n /\ r.n < 18446744073709551616
 ww : ∀ w ∈ t.ws, w.k.length <= 32 /\ w.v.length <= 64
def rID (s : RS) : (Nat × Nat) × RS := (((K2 5 s).1, (K2 18446744073709551615 (K2 5 s).2).1), (K2 18446744073709551615 (K2 5 s).2).2)
def rRd (s : RS) : Rd × RS := (⟨(q2f 32 s).1, (K2 18446744073709551615 (q2f 32 s).2).1⟩, (K2 18446744073709551615 (q2f 32 s).2).2)
def rWt (s : RS) : Wt × RS := (⟨(q2f 32 s).1, (q2f 64 (q2f 32 s).2).1, decide ((K2 1 (q2f 64 (q2f 32 s).2).2).1 = 1)⟩, (K2 1 (q2f 64 (q2f 32 s).2).2).2)
def rTx (s : RS) : Tx × RS :=
 let a := rID s
 let p := K2 1 a.2
 let n := K2 8 p.2
 let rs := Y5 rRd n.1 n.2
 let m := K2 8 rs.2
 let ws := Y5 rWt m.1 m.2
 (⟨a.1.1, a.1.2, decide (p.1 = 1), rs.1, ws.1⟩, ws.2)
theorem zco {s : RS} (h : (rRd s).2.2 = false) : s.2 = false /\ s.1 = qem (rRd s).1 ++ (rRd s).2.1 := by
 unfold rRd at h ⊢
 simp only at h ⊢
 obtain ⟨h1, h2, _⟩ := V6 h
 obtain ⟨h3, h4⟩ := qew h1
 refine ⟨h3, ?_⟩
 rw [h4, h2]
 simp [qem, q76]
theorem zcp {s : RS} (h : (rWt s).2.2 = false) : s.2 = false /\ s.1 = qgt (rWt s).1 ++ (rWt s).2.1 := by
 unfold rWt at h ⊢
 simp only at h ⊢
 obtain ⟨h1, h2, _⟩ := V6 h
 obtain ⟨h3, h4⟩ := qew h1
 obtain ⟨h5, h6⟩ := qew h3
 refine ⟨h5, ?_⟩
 rw [h6, h4, h2, z5k (q1d 1 _)]
 simp [qgt, q76]
theorem z6i {s : RS} (h : (rTx s).2.2 = false) : s.2 = false /\ s.1 = qay (rTx s).1 ++ (rTx s).2.1 := by
 unfold rTx rID at h ⊢
 simp only at h ⊢
 obtain ⟨h1, h2, h3⟩ := qml (fun s => zcp) _ _ h
 obtain ⟨h4, h5, _⟩ := V6 h1
 obtain ⟨h6, h7, h8⟩ := qml (fun s => zco) _ _ h4
 obtain ⟨h9, h10, _⟩ := V6 h6
 obtain ⟨h11, h12, _⟩ := V6 h9
 obtain ⟨h13, h14, _⟩ := V6 h11
 obtain ⟨h15, h16, _⟩ := V6 h13
 refine ⟨h15, ?_⟩
 unfold qay
 simp only [Int.toNat_natCast, h8, h3]
 rw [<- z5k (q1d 1 _)]
 simp only [List.append_assoc]
 rw [<- h2, <- h5, <- h7, <- h10, <- h12, <- h14, <- h16]
end Go.Aw
