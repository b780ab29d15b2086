import Derived.Test.YtchdmofoaokpjaaGreatDoorM30N17M17M
import Derived.Test.YtchdmofoaokpjaaGreatDoorM30N17M17B
namespace Go.Aw
open Go
open Go.Proofs.Tryz (prog)
set_option linter.all false
set_option maxHeartbeats 8000000
set_option maxRecDepth 8000
end Go.Aw
namespace Go.Aw
open Go
open Go.Proofs.Tryz (prog)
set_option linter.all false
set_option maxHeartbeats 4000000
def Cf.place (c : Cf) (n : Int) : Int := if c.right then ixI n c.ch else -1
def Cf.at (c : Cf) (k : Int) : Int := if c.right = true /\ 0 <= k /\ k < c.ch.length then (c.ch[k.toNat]?).getD 0 else -1
def Cf.next (c : Cf) (n : Int) : Int := if c.place n < 0 then -1 else c.at (c.place n + 1)
def Cf.has (c : Cf) (n : Int) : Bool := c.right && decide (0 <= n) && (decide (n = c.ln) || ctn c.ch n)
end Go.Aw
namespace Go.Aw
open Go
open Go.Proofs.Tryz (prog)
set_option linter.all false
set_option maxHeartbeats 4000000
end Go.Aw
namespace Go.Aw
open Go
open Go.Proofs.Tryz (prog)
set_option linter.all false
set_option maxHeartbeats 4000000
end Go.Aw
namespace Go.Aw
open Go
open Go.Proofs.Tryz (prog)
set_option linter.all false
set_option maxHeartbeats 4000000
def Cf.may (c : Cf) (n ep : Int) : Bool := c.right && srv n && !decide (ep <= c.ep)
end Go.Aw
namespace Go.Aw
open Go
open Go.Proofs.Tryz (prog)
set_option linter.all false
set_option maxHeartbeats 4000000
def Cf.ret (r : Cf × Int) : AV := .tup [.agg (r.1.cells none none), .i .i64 r.2]
end Go.Aw
namespace Go.Aw
open Go
open Go.Proofs.Tryz (prog)
set_option linter.all false
set_option maxHeartbeats 4000000
theorem qnh (fu : List Bool) : ∀ (l : List Int) (k : Nat), (qin fu l k).map (·.1) = l
 | [], _ => rfl
 | _ :: l, k => by simp [qin, qnh fu l (k + 1)]
theorem Cf.plain_fst (c : Cf) : c.plain.l.map (·.1) = c.ch := qnh _ _ _
theorem Cf.plain_len (c : Cf) : c.plain.l.length = c.ch.length := qgq _ _ _
theorem qz4 {xs : List Int} : ∀ (ys : List Int) (k : Nat), z5a xs ys k = true -> ∀ y ∈ ys, 0 <= y /\ y < 8
 | [], _, _, y, hy => by cases hy
 | x :: ys, k, h, y, hy => by
  simp only [z5a, Bool.and_eq_true, srv, decide_eq_true_eq] at h
  rcases List.mem_cons.1 hy with rfl | hy
  ·exact h.1.1
  ·exact qz4 ys (k + 1) h.2 y hy
end Go.Aw
