import Derived.Test.YteiamcnjlpbihaaGreatDoorQ17P
namespace Go.Aw
open Go
open Go.Proofs.Tryz (prog)
set_option linter.all false
set_option maxHeartbeats 8000000
set_option maxRecDepth 8000
def rdL : Bs -> Lt Cf × RS -> Lt Cf × RS
 | [], p => p
 | c :: cs, p => rdL cs (rdS p.1 c.toNat p.2)
theorem zd6 {c d : UInt8} (h : c ≠ d) : (c.toNat : Int) ≠ d.toNat := fun e => h (UInt8.toNat_inj.1 (by omega))
theorem z6r {c : UInt8} (h : sgB c = true) : Sg c.toNat := qxb c h
def zL : Lt Cf := ⟨0, 0, 0, 0, 0, 0, 0, 0, 0, 0, false, 0, 0, [], [], [], zT, 0, 0, [], 0, 0⟩
def rHd (s : RS) : Lt Cf × RS :=
 let a := K4 3 s
 let b := K4 8 a.2
 let c := K4 3 b.2
 let d := K4 8 c.2
 let k := K4 21 d.2
 ({ zL with fk := a.1, fn := b.1, tk := c.1, tn := d.1, k := k.1 }, k.2)
def rLt (s : RS) : Lt Cf × RS := rdL (q66 (rHd s).1.k) (rHd s)
def lOk (s : RS) : Bool := (!(rLt s).2.2 && decide ((rLt s).2.1 = [])) && lrF (rLt s).1
theorem qu8 (k : Int) : (q66 k).Nodup := by
 rcases kinds k with (rfl | rfl | rfl | rfl | rfl | rfl | rfl | rfl | rfl | rfl | rfl | rfl | rfl | rfl | rfl | rfl | rfl | rfl | rfl | rfl | rfl) | h
 any_goals (decide +kernel)
 rw [z1d h]
 exact List.nodup_nil
theorem z3e {o : Lt Cf} (h1 : o.vs = []) (h2 : o.cs = []) (h3 : o.es = []) (c : Int) : z6p o c := ⟨fun _ => h1, fun _ => h2, fun _ => h3⟩
end Go.Aw
