/- The law EntryShards answers true for every input and leaves its arguments as they were: which shards a transaction involves, and its part in each, are as the chapter says; each read and write is in just one part. No condition. -/
import Derived.Test.YtmkbdoamlmpaeaaS12Y2
import Derived.Test.YtmkbdoamlmpaeaaS12Arg
import Derived.Test.YtmkbdoamlmpaeaaRows

namespace Go.Proofs.Ytmkbdoamlmpaeaa
open Go.ChangeShapes Go.WideShapes Go.ChangeAt Go.RowKit Go.Aw
set_option linter.all false

theorem Try.own : ownKnob Try.prog.godebug = none := by kernel_rfl
theorem Try.laidOut : laidOutB Try.prog = true := by kernel_rfl

theorem entryShards_calls (l : List AV) (h : FitsVs [tyTxn, .int .i64, .int .i64] l) : PCalls Try.prog 4 l (.b true) := by
  simp only [FitsVs] at h
  obtain ⟨a, _, rfl, h1, b, _, rfl, h2, c, _, rfl, h3, rfl⟩ := h
  obtain ⟨t, k1, k2, rfl, ht⟩ := txn_of h1
  obtain ⟨n, rfl, _⟩ := int_of h2
  obtain ⟨m, rfl, _⟩ := int_of h3
  exact pc_EntryShards t k1 k2 n m ht.1 ht.2.1

set_option maxRecDepth 100000 in
theorem entryShards_lifted (os : Os) (started : os.Started) (H : Type) (enc : TypeId × Value → H) :
    ReturnsInHanded {} Try.checked os 4 .any (Rows.entryShardsSpec.pre6 enc Try.prog Try.f4 Rows.entryShardsRow.domain false) (Rows.entryShardsSpec.post enc Try.prog Try.f4 false true false false) := by
  refine returnsInHanded_of_change (C := Try.checked) Try.own started (by kernel_rfl) Try.func4
    (ChangeSpec.witness6 (enc := enc) (C := Try.checked) false ⟨#[], #[.agg #[.int .i64 0, .int .u64 0, .bool false, .slice none 0 0, .slice none 0 0], .int .i64 0, .int .i64 0], []⟩ 8 (by kernel_rfl) (by kernel_rfl) (by kernel_rfl) (by kernel_rfl)) ?_
  intro W base args ds gs before hval hW _ _
  exact true_of (P := Try.prog) (tb := 4) [tyTxn, .int .i64, .int .i64] (by kernel_rfl) (by kernel_rfl) (by kernel_rfl) rfl (fun ds h => by
      match ds, h with
      | [_, _, _], _ => rfl) Try.laidOut (by
      rw [Try.params4]; decide +kernel) entryShards_calls W base args ds gs before hval hW

theorem entryShards_holds : Rows.EntryShardsSaid :=
  OpenClaim.holds_of_wide 4 Try.f4 rfl rfl rfl rfl rfl rfl rfl ⟨rfl, rfl, rfl, rfl, rfl⟩ rfl rfl rfl rfl rfl (by kernel_rfl) Try.func4 (by kernel_rfl)
    (of_decide_eq_true (by kernel_rfl)) (by unfold Func.isWrapper; first | (rw [if_pos (by decide +kernel)]; kernel_rfl) | (rw [if_neg (by decide +kernel)]; exact ⟨rfl, rfl⟩))
    (fun os started H enc _ => entryShards_lifted os started H enc)

end Go.Proofs.Ytmkbdoamlmpaeaa
