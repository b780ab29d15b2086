import Derived.Test.YtpbnmegmhhkloaaDoorW06F04M
import Derived.Test.YtpbnmegmhhkloaaDoorW06F04H
namespace Go.Aw
open Go
open Go.Proofs.Tryd (prog)
set_option linter.all false
set_option maxHeartbeats 4000000
def hiB (n : Nat) : UInt8 := UInt8.ofNat (n / 256 % 256)
def loB (n : Nat) : UInt8 := UInt8.ofNat (n % 256)
def frm (p : List UInt8) : List UInt8 := 197 :: q0x (hiB p.length :: loB p.length :: p)
def q7m (p : List UInt8) : Bool := decide (1 <= p.length) && decide (p.length <= 65535)
def qjw (p : List UInt8) : AV := if q7m p = true then .tup [bts (frm p) none, .i .i64 0] else .tup [.fz 0 [] (some 0), .i .i64 1]
theorem qw5 (n : Nat) (h : n <= 65535) : IntKind.u8.wrap ((n : Int).fdiv (2 ^ (min 8 64 : Nat))) = ((hiB n).toNat : Int) := by
 show IntKind.u8.wrap ((n : Int).fdiv (2 ^ 8)) = _
 rw [Int.fdiv_eq_ediv_of_nonneg _ (by decide)]
 simp only [IntKind.wrap, IntKind.signed, IntKind.bits, hiB]
 simp
theorem qw6 (n : Nat) : IntKind.u8.wrap (n : Int) = ((loB n).toNat : Int) := by
 simp only [IntKind.wrap, IntKind.signed, IntKind.bits, loB]
 simp
theorem qfo (p : List UInt8) (cap : Option Nat) (hl : p.length <= 400000000) : PCalls prog Z2 [bts p cap] (qjw p) := by
 refine K7 O5 qed (by simp) fun T => ?_
 unfold q9k
 by_cases h1 : 1 <= p.length
 ·by_cases h2 : p.length <= 65535
  ·have d1 : decide ((p.length : Int) < 1) = false := decide_eq_false (by omega)
   have d2 : decide ((65535 : Int) < p.length) = false := decide_eq_false (by omega)
   have c1 := q4f [hiB p.length, loB p.length] p (some 2) cap (by simp) hl
   have c2 := qjp (hiB p.length :: loB p.length :: p) none (by simp only [List.length_cons]; omega)
   simp -implicitDefEqProofs -dsimp only [go_sem, seval, d1, d2, qw5 _ h2, qw6, ↓J2 _ _ K9]
   refine cpn c1 ?_
   simp -implicitDefEqProofs -dsimp only [go_sem, seval, ↓J2 _ _ qb8]
   refine cpn c2 ?_
   have hsl : (q0x (hiB p.length :: loB p.length :: p)).length = p.length + 6 := by simp only [q0x, List.length_append, q4g, List.length_cons]
   have hg : Gr T 1 (.fz 1 [.i .u8 197] (some 1)) 1 (J1 [197]) T := .inr ⟨rfl, rfl, rfl⟩
   simp -implicitDefEqProofs -dsimp only [go_sem, seval]
   refine hg.app (m := (q0x (hiB p.length :: loB p.length :: p)).length) (I8 _ _) rfl (by omega) (by omega) (by omega) fun v' T2 ho => J7 ?_
   obtain ⟨p1, p2, p3, p4, p5, p6⟩ := ho.form
   simp -implicitDefEqProofs -dsimp only [go_sem, seval, p1, p2, p3, p4, p5, p6]
   refine q6g (Owns.one ho) fun S hS => ?_
   obtain ⟨cap', hc⟩ := hS _ (List.mem_cons_self ..)
   simp only at hc
   have hv : q65 T2 S v' = q64 T2 S v' := ho.frzv
   rw [qjw, q7m, decide_eq_true h1, decide_eq_true h2]
   simp only [qf6, List.map_cons, List.map_nil, hv, hc, Bool.and_self, if_true, bts]
   refine Wk.tup ⟨?_, .refl _, trivial⟩
   rw [U1, show 1 + (q0x (hiB p.length :: loB p.length :: p)).length = (frm p).length by simp only [frm, List.length_cons]; omega]
   exact Wk.fz
  ·have d1 : decide ((p.length : Int) < 1) = false := decide_eq_false (by omega)
   have d2 : decide ((65535 : Int) < p.length) = true := decide_eq_true (by omega)
   simp -implicitDefEqProofs -dsimp only [go_sem, seval, d1, d2]
   rw [qjw, q7m, decide_eq_false h2, Bool.and_false]
   exact J8 rfl
 ·have d1 : decide ((p.length : Int) < 1) = true := decide_eq_true (by omega)
  simp -implicitDefEqProofs -dsimp only [go_sem, seval, d1]
  rw [qjw, q7m, decide_eq_false h1, Bool.false_and]
  exact J8 rfl
end Go.Aw
