/- The law EntryTxn answers true for every input and leaves its arguments as they were: a right transaction's bytes are as the chapter says, and read as it was, whatever stands behind. No condition. -/
import Derived.Test.YtmkbdoamlmpaeaaS12F
import Derived.Test.YtmkbdoamlmpaeaaS12Arg
import Derived.Test.YtmkbdoamlmpaeaaRows

namespace Go.Proofs.Ytmkbdoamlmpaeaa
open Go.ChangeShapes Go.WideShapes Go.ChangeAt Go.RowKit Go.Aw
set_option linter.all false

theorem Try.own : ownKnob Try.prog.godebug = none := by kernel_rfl
theorem Try.laidOut : laidOutB Try.prog = true := by kernel_rfl

theorem entryTxn_calls (l : List AV) (h : FitsVs [tyTxn, .sl (.int .u8)] l) : PCalls Try.prog 5 l (.b true) := by
  simp only [FitsVs] at h
  obtain ⟨a, _, rfl, h1, b, _, rfl, h2, rfl⟩ := h
  obtain ⟨t, k1, k2, rfl, ht⟩ := txn_of h1
  obtain ⟨b, k, rfl, hb⟩ := bytes_ofV h2
  exact pc_EntryTxn t k1 k2 b k hb ht.1 ⟨ht.2.1, ht.2.2.1⟩ ht.2.2.2.2

set_option maxRecDepth 100000 in
theorem entryTxn_lifted (os : Os) (started : os.Started) (H : Type) (enc : TypeId × Value → H) :
    ReturnsInHanded {} Try.checked os 5 .any (Rows.entryTxnSpec.pre6 enc Try.prog Try.f5 Rows.entryTxnRow.domain false) (Rows.entryTxnSpec.post enc Try.prog Try.f5 false true false false) := by
  refine returnsInHanded_of_change (C := Try.checked) Try.own started (by kernel_rfl) Try.func5
    (ChangeSpec.witness6 (enc := enc) (C := Try.checked) false ⟨#[], #[.agg #[.int .i64 0, .int .u64 0, .bool false, .slice none 0 0, .slice none 0 0], .slice none 0 0], []⟩ 8 (by kernel_rfl) (by kernel_rfl) (by kernel_rfl) (by kernel_rfl)) ?_
  intro W base args ds gs before hval hW _ _
  exact true_of (P := Try.prog) (tb := 4) [tyTxn, .sl (.int .u8)] (by kernel_rfl) (by kernel_rfl) (by kernel_rfl) rfl (fun ds h => by
      match ds, h with
      | [_, _], _ => rfl) Try.laidOut (by
      rw [Try.params5]; decide +kernel) entryTxn_calls W base args ds gs before hval hW

theorem entryTxn_holds : Rows.EntryTxnSaid :=
  OpenClaim.holds_of_wide 5 Try.f5 rfl rfl rfl rfl rfl rfl rfl ⟨rfl, rfl, rfl, rfl, rfl⟩ rfl rfl rfl rfl rfl (by kernel_rfl) Try.func5 (by kernel_rfl)
    (of_decide_eq_true (by kernel_rfl)) (by unfold Func.isWrapper; first | (rw [if_pos (by decide +kernel)]; kernel_rfl) | (rw [if_neg (by decide +kernel)]; exact ⟨rfl, rfl⟩))
    (fun os started H enc _ => entryTxn_lifted os started H enc)

end Go.Proofs.Ytmkbdoamlmpaeaa
