/- The law ConfRight answers true for every input and leaves its arguments as they were: which configurations are right, and who stands where in one. No condition. -/
import Derived.Test.YtchkfbfbhaldfaaT16K
import Derived.Test.YtchkfbfbhaldfaaAwTrod
import Derived.Test.YtchkfbfbhaldfaaRows
namespace Go.Aw
open Go
set_option linter.all false

abbrev tyConf : Ty := .st [.int .u64, .int .i64, .sl (.st [.int .i64, .bool]), .int .i64]

theorem mem_of : ∀ (ps : List (List AV)), (∀ p ∈ ps, Fits (.st [.int .i64, .bool]) p) → ∃ l : List (Int × Bool), l.length = ps.length ∧ ps.flatten = mem l
  | [], _ => ⟨[], rfl, rfl⟩
  | p :: ps, h => by
    obtain ⟨l, h1, h2⟩ := mem_of ps fun q hq => h q (List.mem_cons_of_mem _ hq)
    have := h p (List.mem_cons_self ..)
    simp only [Fits, FitsL] at this
    obtain ⟨a, b, rfl, ⟨n, rfl, _⟩, c, d, rfl, ⟨x, rfl⟩, rfl⟩ := this
    exact ⟨(n, x) :: l, by simp [h1], by simp [mem_cons, h2]⟩

theorem conf_of {a : AV} (h : FitsV tyConf a) : ∃ (c : Rf) (k : Option Nat), a = .agg (c.cells k) ∧ Len c.l.length := by
  simp only [FitsV, FitsL, Fits] at h
  obtain ⟨cells, rfl, a1, b1, rfl, ⟨ep, rfl, _⟩, a2, b2, rfl, ⟨sh, rfl, _⟩, a3, b3, rfl, ⟨ps, hps, hf, k, rfl⟩, a4, b4, rfl, ⟨ln, rfl, _⟩, rfl⟩ := h
  obtain ⟨l, h1, h2⟩ := mem_of ps (by simpa only [Fits, FitsL] using hf)
  refine ⟨⟨ep, sh, l, ln⟩, k, ?_, ?_⟩
  · simp [Rf.cells, h1, h2]
  · unfold Len
    simp only [h1]
    unfold maxLen at hps
    omega
end Go.Aw

namespace Go.Proofs.Ytchkfbfbhaldfaa
open Go.ChangeShapes Go.WideShapes Go.ChangeAt Go.RowKit Go.Aw

theorem Try.own : ownKnob Try.prog.godebug = none := by kernel_rfl
theorem Try.laidOut : laidOutB Try.prog = true := by kernel_rfl

theorem confRight_calls (l : List AV) (h : FitsVs [tyConf, .int .i64] l) : PCalls Try.prog 3 l (.b true) := by
  simp only [FitsVs] at h
  obtain ⟨a, _, rfl, h1, b, _, rfl, h2, rfl⟩ := h
  obtain ⟨c, k, rfl, hl⟩ := conf_of h1
  simp only [FitsV, Fits] at h2
  obtain ⟨n, hn, _⟩ := h2
  injection hn with hn; subst hn
  exact pc_ConfRight c k n hl

set_option maxRecDepth 100000 in
theorem confRight_lifted (os : Os) (started : os.Started) (H : Type) (enc : TypeId × Value → H) :
    ReturnsInHanded {} Try.checked os 3 .any (Rows.confRightSpec.pre6 enc Try.prog Try.f3 Rows.confRightRow.domain false) (Rows.confRightSpec.post enc Try.prog Try.f3 false true false false) := by
  refine returnsInHanded_of_change (C := Try.checked) Try.own started (by kernel_rfl) Try.func3
    (ChangeSpec.witness6 (enc := enc) (C := Try.checked) false ⟨#[], #[.agg #[.int .u64 0, .int .i64 0, .slice none 0 0, .int .i64 0], .int .i64 0], []⟩ 8 (by kernel_rfl) (by kernel_rfl) (by kernel_rfl) (by kernel_rfl)) ?_
  intro W base args ds gs before hval hW _ _
  exact true_of (P := Try.prog) (tb := 4) [tyConf, .int .i64] (by kernel_rfl) (by kernel_rfl) (by kernel_rfl) rfl (fun ds h => by
      match ds, h with
      | [_, _], _ => rfl) Try.laidOut (by
      rw [Try.params3]; decide +kernel) confRight_calls W base args ds gs before hval hW

theorem confRight_holds : Rows.ConfRightSaid :=
  OpenClaim.holds_of_wide 3 Try.f3 rfl rfl rfl rfl rfl rfl rfl ⟨rfl, rfl, rfl, rfl, rfl⟩ rfl rfl rfl rfl rfl (by kernel_rfl) Try.func3 (by kernel_rfl)
    (of_decide_eq_true (by kernel_rfl)) (by unfold Func.isWrapper; first | (rw [if_pos (by decide +kernel)]; kernel_rfl) | (rw [if_neg (by decide +kernel)]; exact ⟨rfl, rfl⟩))
    (fun os started H enc _ => confRight_lifted os started H enc)

end Go.Proofs.Ytchkfbfbhaldfaa
