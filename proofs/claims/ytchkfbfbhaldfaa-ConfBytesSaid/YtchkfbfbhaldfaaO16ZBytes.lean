/- The law ConfBytes answers true for every input and leaves its arguments as they were: a configuration's bytes are as the chapter says, and read as it was; other bytes are read as just their own. No condition. -/
import Derived.Test.YtchkfbfbhaldfaaO16F
import Derived.Test.YtchkfbfbhaldfaaAwFit
import Derived.Test.YtchkfbfbhaldfaaRows
namespace Go.Aw
open Go
set_option linter.all false
abbrev tyConf : Ty := .st [.int .u64, .int .i64, .sl (.st [.int .i64, .bool]), .int .i64]
def memC (m : Int × Bool) : List AV := [.i .i64 m.1, .b m.2]
theorem mem_of1 {p : List AV} (h : Fits (.st [.int .i64, .bool]) p) : ∃ m : Int × Bool, p = memC m ∧ True := by
  simp only [Fits, FitsL] at h
  obtain ⟨a, b, rfl, ⟨n, rfl, _⟩, c, d, rfl, ⟨x, rfl⟩, rfl⟩ := h
  exact ⟨(n, x), rfl, trivial⟩
theorem conf_of2 {a : AV} (h : FitsV tyConf a) : ∃ (c : Rf) (k : Option Nat), a = .agg (c.cells k) ∧ Len c.l.length ∧ 0 ≤ c.ep ∧ c.ep < 18446744073709551616 := by
  obtain ⟨cells, rfl, h⟩ := h
  simp only [FitsL] at h
  obtain ⟨a1, b1, rfl, h1, a2, b2, rfl, h2, a3, b3, rfl, h3, a4, b4, rfl, h4, rfl⟩ := h
  simp only [Fits] at h1 h2 h4
  obtain ⟨ep, rfl, he⟩ := h1
  obtain ⟨sh, rfl, _⟩ := h2
  obtain ⟨ln, rfl, _⟩ := h4
  obtain ⟨l, k, rfl, hl, _⟩ := slice_of (fun p hp => mem_of1 hp) h3
  exact ⟨⟨ep, sh, l, ln⟩, k, rfl, hl, wf_u64 he⟩
end Go.Aw

namespace Go.Proofs.Ytchkfbfbhaldfaa
open Go.ChangeShapes Go.WideShapes Go.ChangeAt Go.RowKit Go.Aw
set_option linter.all false

theorem Try.own : ownKnob Try.prog.godebug = none := by kernel_rfl
theorem Try.laidOut : laidOutB Try.prog = true := by kernel_rfl

theorem confBytes_calls (l : List AV) (h : FitsVs [tyConf, .sl (.int .u8)] l) : PCalls Try.prog 6 l (.b true) := by
  simp only [FitsVs] at h
  obtain ⟨a, _, rfl, h1, b, _, rfl, h2, rfl⟩ := h
  obtain ⟨c, k, rfl, hl, he⟩ := conf_of2 h1
  obtain ⟨b, kb, rfl, hb⟩ := bytes_ofV h2
  exact pc_ConfBytes c k b kb hb hl he

set_option maxRecDepth 100000 in
theorem confBytes_lifted (os : Os) (started : os.Started) (H : Type) (enc : TypeId × Value → H) :
    ReturnsInHanded {} Try.checked os 6 .any (Rows.confBytesSpec.pre6 enc Try.prog Try.f6 Rows.confBytesRow.domain false) (Rows.confBytesSpec.post enc Try.prog Try.f6 false true false false) := by
  refine returnsInHanded_of_change (C := Try.checked) Try.own started (by kernel_rfl) Try.func6
    (ChangeSpec.witness6 (enc := enc) (C := Try.checked) false ⟨#[], #[.agg #[.int .u64 0, .int .i64 0, .slice none 0 0, .int .i64 0], .slice none 0 0], []⟩ 8 (by kernel_rfl) (by kernel_rfl) (by kernel_rfl) (by kernel_rfl)) ?_
  intro W base args ds gs before hval hW _ _
  exact true_of (P := Try.prog) (tb := 4) [tyConf, .sl (.int .u8)] (by kernel_rfl) (by kernel_rfl) (by kernel_rfl) rfl (fun ds h => by
      match ds, h with
      | [_, _], _ => rfl) Try.laidOut (by
      rw [Try.params6]; decide +kernel) confBytes_calls W base args ds gs before hval hW

theorem confBytes_holds : Rows.ConfBytesSaid :=
  OpenClaim.holds_of_wide 6 Try.f6 rfl rfl rfl rfl rfl rfl rfl ⟨rfl, rfl, rfl, rfl, rfl⟩ rfl rfl rfl rfl rfl (by kernel_rfl) Try.func6 (by kernel_rfl)
    (of_decide_eq_true (by kernel_rfl)) (by unfold Func.isWrapper; first | (rw [if_pos (by decide +kernel)]; kernel_rfl) | (rw [if_neg (by decide +kernel)]; exact ⟨rfl, rfl⟩))
    (fun os started H enc _ => confBytes_lifted os started H enc)

end Go.Proofs.Ytchkfbfbhaldfaa
