/- The law RouteLearns answers true for every input and leaves its arguments as they were: whatever is learned, a route knows, and whom it asks, is as the chapter says. No condition. -/
import Derived.Test.YtjimaapiajldpaaR28ZB
import Derived.Test.YtjimaapiajldpaaR28Arg
import Derived.Test.YtjimaapiajldpaaAwD
import Derived.Test.YtjimaapiajldpaaRows
namespace Go.Aw
open Go
set_option linter.all false

abbrev tyConf : Ty := .st [.int .u64, .int .i64, .sl (.st [.int .i64, .bool]), .int .i64]
abbrev tySetup : Ty := .st [.int .i64, .int .i64, .int .i64]
def memC (m : Int × Bool) : List AV := [.i .i64 m.1, .b m.2]
theorem mem_flat (l : List (Int × Bool)) : l.flatMap memC = mem l := rfl
theorem mem_of1 {p : List AV} (h : Fits (.st [.int .i64, .bool]) p) : ∃ m : Int × Bool, p = memC m ∧ True := by
  simp only [Fits, FitsL] at h
  obtain ⟨a, b, rfl, ⟨n, rfl, _⟩, c, d, rfl, ⟨x, rfl⟩, rfl⟩ := h
  exact ⟨(n, x), rfl, trivial⟩
theorem conf_of1 {p : List AV} (h : Fits tyConf p) : ∃ x : RfK, p = rfC x ∧ RfOk x := by
  simp only [Fits, FitsL] at h
  obtain ⟨a1, b1, rfl, ⟨ep, rfl, he⟩, a2, b2, rfl, ⟨sh, rfl, _⟩, a3, b3, rfl, ha3, a4, b4, rfl, ⟨ln, rfl, _⟩, rfl⟩ := h
  have ha3' : Fits (.sl (.st [.int .i64, .bool])) a3 := by simpa only [Fits, FitsL] using ha3
  obtain ⟨l, k, rfl, hl, _⟩ := slice_of (fun p hp => mem_of1 hp) ha3'
  exact ⟨(⟨ep, sh, l, ln⟩, k), by simp [rfC, Rf.cells, mem_flat], hl, (wf_u64 he).1⟩
theorem setup_of {a : AV} (h : FitsV tySetup a) : ∃ s l v : Int, a = .agg (stC s l v) := by
  simp only [FitsV, FitsL, Fits] at h
  obtain ⟨cells, rfl, a1, b1, rfl, ⟨s, rfl, _⟩, a2, b2, rfl, ⟨l, rfl, _⟩, a3, b3, rfl, ⟨v, rfl, _⟩, rfl⟩ := h
  exact ⟨s, l, v, rfl⟩
end Go.Aw

namespace Go.Proofs.Ytjimaapiajldpaa
open Go.ChangeShapes Go.WideShapes Go.ChangeAt Go.RowKit Go.Aw
set_option linter.all false

theorem Try.own : ownKnob Try.prog.godebug = none := by kernel_rfl
theorem Try.laidOut : laidOutB Try.prog = true := by kernel_rfl

theorem routeLearns_calls (l : List AV) (h : FitsVs [tySetup, .sl tyConf, .str, .int .i64, tyTxn] l) : PCalls Try.prog 4 l (.b true) := by
  simp only [FitsVs] at h
  obtain ⟨a, _, rfl, h1, b, _, rfl, h2, c, _, rfl, h3, d, _, rfl, h4, e, _, rfl, h5, rfl⟩ := h
  obtain ⟨s, l, v, rfl⟩ := setup_of h1
  obtain ⟨xs, cap, rfl, hl, hok⟩ := slice_ofV (fun p hp => conf_of1 hp) h2
  obtain ⟨key, rfl, hkl⟩ := str_of h3
  obtain ⟨t, rfl, _⟩ := int_of h4
  obtain ⟨tx, k1, k2, rfl, ht⟩ := txn_of h5
  exact pc_RouteLearns s l v xs cap key t tx k1 k2 hl hok (len_of_max hkl) ht.1 ht.2.1

set_option maxRecDepth 100000 in
theorem routeLearns_lifted (os : Os) (started : os.Started) (H : Type) (enc : TypeId × Value → H) :
    ReturnsInHanded {} Try.checked os 4 .any (Rows.routeLearnsSpec.pre6 enc Try.prog Try.f4 Rows.routeLearnsRow.domain false) (Rows.routeLearnsSpec.post enc Try.prog Try.f4 false true false false) := by
  refine returnsInHanded_of_change (C := Try.checked) Try.own started (by kernel_rfl) Try.func4
    (ChangeSpec.witness6 (enc := enc) (C := Try.checked) false ⟨#[], #[.agg #[.int .i64 0, .int .i64 0, .int .i64 0], .slice none 0 0, .string ⟨#[]⟩, .int .i64 0, .agg #[.int .i64 0, .int .u64 0, .bool false, .slice none 0 0, .slice none 0 0]], []⟩ 8 (by kernel_rfl) (by kernel_rfl) (by kernel_rfl) (by kernel_rfl)) ?_
  intro W base args ds gs before hval hW _ _
  exact true_of (P := Try.prog) (tb := 4) [tySetup, .sl tyConf, .str, .int .i64, tyTxn] (by kernel_rfl) (by kernel_rfl) (by kernel_rfl) rfl (fun ds h => by
      match ds, h with
      | [_, _, _, _, _], _ => rfl) Try.laidOut (by
      rw [Try.params4]; decide +kernel) (fun zs hz => routeLearns_calls zs hz Tab.nil) W (fun p hp => by cases hp) base args ds gs before hval hW

theorem routeLearns_holds : Rows.RouteLearnsSaid :=
  OpenClaim.holds_of_wide 4 Try.f4 rfl rfl rfl rfl rfl rfl rfl ⟨rfl, rfl, rfl, rfl, rfl⟩ rfl rfl rfl rfl rfl (by kernel_rfl) Try.func4 (by kernel_rfl)
    (of_decide_eq_true (by kernel_rfl)) (by unfold Func.isWrapper; first | (rw [if_pos (by decide +kernel)]; kernel_rfl) | (rw [if_neg (by decide +kernel)]; exact ⟨rfl, rfl⟩))
    (fun os started H enc _ => routeLearns_lifted os started H enc)

end Go.Proofs.Ytjimaapiajldpaa
