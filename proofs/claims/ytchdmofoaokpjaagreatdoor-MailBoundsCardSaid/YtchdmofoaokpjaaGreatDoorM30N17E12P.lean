import Derived.Test.YtchdmofoaokpjaaGreatDoorM30N17E12O
namespace Go.Aw
open Go
open Go.Proofs.Tryz (prog)
set_option linter.all false
set_option maxHeartbeats 4000000
def Tx.our (t : Tx) : Tx := { t with rs := t.rs.take 10, ws := t.ws.take 10 }
def zTx : List AV := [.i .i64 0, .i .u64 0, .b false, .fz 0 [] (some 0), .fz 0 [] (some 0)]
theorem Wks.tx {a b c : AV} {n m : Nat} {x y : List AV} {k1 k2 : Option Nat} : Wks [a, b, c, .fz n x k1, .fz m y k2] [a, b, c, .fz n x none, .fz m y none] :=
 ⟨.refl _, .refl _, .refl _, .fz, .fz, trivial⟩
structure Tx.Wide (t : Tx) : Prop where
 r : t.rs.length < 9223372036854775808
 w : t.ws.length < 9223372036854775808
 rk : ∀ r ∈ t.rs, Len r.k.length
 wk : ∀ r ∈ t.ws, Len r.k.length
 wv : ∀ r ∈ t.ws, Len r.v.length
theorem Tx.Wide.our {t : Tx} (h : t.Wide) : t.our.Fine :=
 ⟨by simp only [Tx.our, List.length_take]; omega, by simp only [Tx.our, List.length_take]; omega, fun r hr => h.rk r (List.mem_of_mem_take hr), fun r hr => h.wk r (List.mem_of_mem_take hr), fun r hr => h.wv r (List.mem_of_mem_take hr)⟩
end Go.Aw
