import Derived.Test.YteiamcnjlpbihaaL17F04M
import Derived.Test.YteiamcnjlpbihaaL17S12R
namespace Go.Aw
open Go
open Go.Proofs.Try (prog)
set_option linter.all false
set_option maxHeartbeats 4000000

/-! Frames. -/
def hiB (n : Nat) : UInt8 := UInt8.ofNat (n / 256 % 256)
def loB (n : Nat) : UInt8 := UInt8.ofNat (n % 256)
def frm (p : List UInt8) : List UInt8 := 197 :: sealL (hiB p.length :: loB p.length :: p)
def putOk (p : List UInt8) : Bool := decide (1 ≤ p.length) && decide (p.length ≤ 65535)
def putR (p : List UInt8) : AV := if putOk p = true then .tup [bts (frm p) none, .i .i64 0] else .tup [.fz 0 [] (some 0), .i .i64 1]

theorem w_hi (n : Nat) (h : n ≤ 65535) : IntKind.u8.wrap ((n : Int).fdiv (2 ^ (min 8 64 : Nat))) = ((hiB n).toNat : Int) := by
  show IntKind.u8.wrap ((n : Int).fdiv (2 ^ 8)) = _
  rw [Int.fdiv_eq_ediv_of_nonneg _ (by decide)]
  simp only [IntKind.wrap, IntKind.signed, IntKind.bits, hiB]
  simp
theorem w_lo (n : Nat) : IntKind.u8.wrap (n : Int) = ((loB n).toNat : Int) := by
  simp only [IntKind.wrap, IntKind.signed, IntKind.bits, loB]
  simp

theorem pc_Put (p : List UInt8) (cap : Option Nat) (hl : p.length ≤ 400000000) : PCalls prog f_frame_Put [bts p cap] (putR p) := by
  refine pcalls_of mixed t_frame_Put (by simp) fun T => ?_
  unfold s_frame_Put
  by_cases h1 : 1 ≤ p.length
  · by_cases h2 : p.length ≤ 65535
    · have d1 : decide ((p.length : Int) < 1) = false := decide_eq_false (by omega)
      have d2 : decide ((65535 : Int) < p.length) = false := decide_eq_false (by omega)
      have c1 := pc_Concat [hiB p.length, loB p.length] p (some 2) cap (by simp) hl
      have c2 := pc_Seal (hiB p.length :: loB p.length :: p) none (by simp only [List.length_cons]; omega)
      simp -implicitDefEqProofs -dsimp only [go_sem, seval, d1, d2, w_hi _ h2, w_lo, ↓g_call _ _ c_slices_Concat_byte_byte]
      refine CallK.pure c1 (aft_nil ?_)
      simp -implicitDefEqProofs -dsimp only [go_sem, seval, ↓g_call _ _ c_crc_Seal]
      refine CallK.pure c2 (aft_nil ?_)
      have hsl : (sealL (hiB p.length :: loB p.length :: p)).length = p.length + 6 := by simp only [sealL, List.length_append, fourK_len, List.length_cons]
      have hg : Gr T 1 (.fz 1 [.i .u8 197] (some 1)) 1 (byteCells [197]) T := .inr ⟨rfl, rfl, rfl⟩
      simp -implicitDefEqProofs -dsimp only [go_sem, seval]
      refine hg.app (m := (sealL (hiB p.length :: loB p.length :: p)).length) (slCells_bytes _ _) rfl (by omega) (by omega) (by omega) fun v' T2 ho => aft_nil ?_
      obtain ⟨p1, p2, p3, p4, p5, p6⟩ := ho.form
      simp -implicitDefEqProofs -dsimp only [go_sem, seval, p1, p2, p3, p4, p5, p6]
      refine finL_owns (Owns.one ho) fun S hS => ?_
      obtain ⟨cap', hc⟩ := hS _ (List.mem_cons_self ..)
      simp only at hc
      have hv : frzv T2 S v' = frz1 T2 S v' := ho.frzv
      rw [putR, putOk, decide_eq_true h1, decide_eq_true h2]
      simp only [frzt, List.map_cons, List.map_nil, hv, hc, Bool.and_self, if_true, bts]
      refine Wk.tup ⟨?_, .refl _, trivial⟩
      rw [byteCells_append, show 1 + (sealL (hiB p.length :: loB p.length :: p)).length = (frm p).length by simp only [frm, List.length_cons]; omega]
      exact Wk.fz
    · have d1 : decide ((p.length : Int) < 1) = false := decide_eq_false (by omega)
      have d2 : decide ((65535 : Int) < p.length) = true := decide_eq_true (by omega)
      simp -implicitDefEqProofs -dsimp only [go_sem, seval, d1, d2]
      rw [putR, putOk, decide_eq_false h2, Bool.and_false]
      exact finL_pure rfl
  · have d1 : decide ((p.length : Int) < 1) = true := decide_eq_true (by omega)
    simp -implicitDefEqProofs -dsimp only [go_sem, seval, d1]
    rw [putR, putOk, decide_eq_false h1, Bool.false_and]
    exact finL_pure rfl
end Go.Aw
