import Derived.Test.YteiamcnjlpbihaaGreatDoorAwD
import Derived.Test.YteiamcnjlpbihaaGreatDoorN17S12A
import Derived.Test.YteiamcnjlpbihaaGreatDoorN17E12X
namespace Go.Aw
open Go
open Go.Proofs.Tryz (prog)
set_option linter.all false
set_option maxHeartbeats 4000000
def qmh (r : Rd) : List UInt8 := qk9 r.k ++ enc r.n.toNat
def qof (w : Wt) : List UInt8 := qk9 w.k ++ qk9 w.v ++ [qy3 w.g]
def qrd (t : Tx) : List UInt8 := enc t.cl.toNat ++ enc t.sq.toNat ++ [qy3 t.pl] ++ enc t.rs.length ++ t.rs.flatMap qmh ++ enc t.ws.length ++ t.ws.flatMap qof
structure Tx.Good (t : Tx) : Prop where
 cl : 0 <= t.cl /\ t.cl < 6
 sq : 0 < t.sq /\ t.sq < 18446744073709551616
 r : t.rs.length <= 8
 w : t.ws.length <= 8
 rr : ∀ r ∈ t.rs, r.k.length <= 32 /\ 0 <= r.n /\ r.n < 18446744073709551616
 ww : ∀ w ∈ t.ws, w.k.length <= 32 /\ w.v.length <= 64
def rID (s : RS) : (Nat × Nat) × RS := (((K4 5 s).1, (K4 18446744073709551615 (K4 5 s).2).1), (K4 18446744073709551615 (K4 5 s).2).2)
def rRd (s : RS) : Rd × RS := (⟨(q2u 32 s).1, (K4 18446744073709551615 (q2u 32 s).2).1⟩, (K4 18446744073709551615 (q2u 32 s).2).2)
def rWt (s : RS) : Wt × RS := (⟨(q2u 32 s).1, (q2u 64 (q2u 32 s).2).1, decide ((K4 1 (q2u 64 (q2u 32 s).2).2).1 = 1)⟩, (K4 1 (q2u 64 (q2u 32 s).2).2).2)
def rTx (s : RS) : Tx × RS :=
 let a := rID s
 let p := K4 1 a.2
 let n := K4 8 p.2
 let rs := Z2 rRd n.1 n.2
 let m := K4 8 rs.2
 let ws := Z2 rWt m.1 m.2
 (⟨a.1.1, a.1.2, decide (p.1 = 1), rs.1, ws.1⟩, ws.2)
end Go.Aw
