/- The law ConfHeirs answers true for every input and leaves its arguments as they were: behind any changes a configuration is right; its head is full, and was a member of the chain ahead; those that stay keep their order. No condition. -/
import Derived.Test.YtchkfbfbhaldfaaT16R
import Derived.Test.YtchkfbfbhaldfaaT16ZTurns
namespace Go.Aw
open Go
set_option linter.all false

theorem ints_of' : ∀ (ps : List (List AV)), (∀ p ∈ ps, Fits (.int .i64) p) → ∃ l : List Int, l.length = ps.length ∧ ps.flatten = ints l
  | [], _ => ⟨[], rfl, rfl⟩
  | p :: ps, h => by
    obtain ⟨l, h1, h2⟩ := ints_of' ps fun q hq => h q (List.mem_cons_of_mem _ hq)
    have := h p (List.mem_cons_self ..)
    simp only [Fits] at this
    obtain ⟨n, rfl, _⟩ := this
    exact ⟨n :: l, by simp [h1], by simp [ints, h2]⟩

theorem ints_of {a : AV} (h : FitsV (.sl (.int .i64)) a) : ∃ (l : List Int) (k : Option Nat), a = .fz l.length (ints l) k ∧ Len l.length := by
  simp only [FitsV, Fits] at h
  obtain ⟨ps, hps, hf, k, hk⟩ := h
  obtain ⟨l, h1, h2⟩ := ints_of' ps (by simpa only [Fits] using hf)
  injection hk with hk
  refine ⟨l, k, by rw [hk, h1, h2], ?_⟩
  unfold Len
  rw [h1]
  unfold maxLen at hps
  omega

theorem conf_of' {a : AV} (h : FitsV tyConf a) : ∃ (c : Rf) (k : Option Nat), a = .agg (c.cells k) ∧ Len c.l.length ∧ 0 ≤ c.ep := by
  simp only [FitsV, FitsL, Fits] at h
  obtain ⟨cells, rfl, a1, b1, rfl, ⟨ep, rfl, hw⟩, a2, b2, rfl, ⟨sh, rfl, _⟩, a3, b3, rfl, ⟨ps, hps, hf, k, rfl⟩, a4, b4, rfl, ⟨ln, rfl, _⟩, rfl⟩ := h
  obtain ⟨l, h1, h2⟩ := mem_of ps (by simpa only [Fits, FitsL] using hf)
  refine ⟨⟨ep, sh, l, ln⟩, k, ?_, ?_, ?_⟩
  · simp [Rf.cells, h1, h2]
  · unfold Len
    simp only [h1]
    unfold maxLen at hps
    omega
  · simp [Lit.wf, IntKind.has, IntKind.min] at hw
    have := of_decide_eq_true hw.1
    simpa [IntKind.signed] using this
end Go.Aw
namespace Go.Proofs.Ytchkfbfbhaldfaa
open Go.ChangeShapes Go.WideShapes Go.ChangeAt Go.RowKit Go.Aw

theorem confHeirs_calls (l : List AV) (h : FitsVs [tyConf, .sl (.int .i64), .sl (.int .i64)] l) : PCalls Try.prog 5 l (.b true) := by
  simp only [FitsVs] at h
  obtain ⟨a, _, rfl, h1, b, _, rfl, h2, b3, _, rfl, h3, rfl⟩ := h
  obtain ⟨c, k, rfl, hl, hep⟩ := conf_of' h1
  obtain ⟨xs, k2, rfl, hx⟩ := ints_of h2
  obtain ⟨ns, k3, rfl, hn⟩ := ints_of h3
  exact pc_ConfHeirs c k k2 k3 xs ns hl hx hep

set_option maxRecDepth 100000 in
theorem confHeirs_lifted (os : Os) (started : os.Started) (H : Type) (enc : TypeId × Value → H) :
    ReturnsInHanded {} Try.checked os 5 .any (Rows.confHeirsSpec.pre6 enc Try.prog Try.f5 Rows.confHeirsRow.domain false) (Rows.confHeirsSpec.post enc Try.prog Try.f5 false true false false) := by
  refine returnsInHanded_of_change (C := Try.checked) Try.own started (by kernel_rfl) Try.func5
    (ChangeSpec.witness6 (enc := enc) (C := Try.checked) false ⟨#[], #[.agg #[.int .u64 0, .int .i64 0, .slice none 0 0, .int .i64 0], .slice none 0 0, .slice none 0 0], []⟩ 8 (by kernel_rfl) (by kernel_rfl) (by kernel_rfl) (by kernel_rfl)) ?_
  intro W base args ds gs before hval hW _ _
  exact true_of (P := Try.prog) (tb := 4) [tyConf, .sl (.int .i64), .sl (.int .i64)] (by kernel_rfl) (by kernel_rfl) (by kernel_rfl) rfl (fun ds h => by
      match ds, h with
      | [_, _, _], _ => rfl) Try.laidOut (by
      rw [Try.params5]; decide +kernel) confHeirs_calls W base args ds gs before hval hW

theorem confHeirs_holds : Rows.ConfHeirsSaid :=
  OpenClaim.holds_of_wide 5 Try.f5 rfl rfl rfl rfl rfl rfl rfl ⟨rfl, rfl, rfl, rfl, rfl⟩ rfl rfl rfl rfl rfl (by kernel_rfl) Try.func5 (by kernel_rfl)
    (of_decide_eq_true (by kernel_rfl)) (by unfold Func.isWrapper; first | (rw [if_pos (by decide +kernel)]; kernel_rfl) | (rw [if_neg (by decide +kernel)]; exact ⟨rfl, rfl⟩))
    (fun os started H enc _ => confHeirs_lifted os started H enc)

end Go.Proofs.Ytchkfbfbhaldfaa
