import Derived.Test.YtchdmofoaokpjaaGreatDoorM30Q17P
import Derived.Test.YtchdmofoaokpjaaGreatDoorM30N17E12J
import Derived.Test.YtchdmofoaokpjaaGreatDoorM30N17M17B
namespace Go.Aw
open Go
open Go.Proofs.Tryz (prog)
set_option linter.all false
set_option maxHeartbeats 4000000
structure Rf.Ok (w : Rf) : Prop where
 ep : 0 <= w.ep /\ w.ep < 18446744073709551616
 sh : 0 <= w.sh /\ w.sh < 4
 l : w.l.length <= 8
 ms : ∀ m ∈ w.l, 0 <= m.1 /\ m.1 < 8
 ln : w.ln = -1 \/ (0 <= w.ln /\ w.ln < 8)
theorem Cf.Ok.plain {c : Cf} (h : c.Ok) : c.plain.Ok := ⟨h.ep, h.sh, by rw [c.plain_len]; exact h.ch, fun m hm => h.ms _ (by rw [<- c.plain_fst]; exact List.mem_map_of_mem hm), h.ln⟩
end Go.Aw
namespace Go.Aw
open Go
open Go.Proofs.Tryz (prog)
set_option linter.all false
set_option maxHeartbeats 4000000
end Go.Aw
