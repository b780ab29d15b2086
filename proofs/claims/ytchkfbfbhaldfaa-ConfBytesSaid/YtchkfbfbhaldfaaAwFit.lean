/-
  Arguments of plain types, as lists.
-/
import Derived.Test.YtchkfbfbhaldfaaAwTrod
namespace Go.Aw
open Go
set_option linter.all false

theorem int_of {k : IntKind} {b : AV} (h : FitsV (.int k) b) : ∃ n, b = .i k n ∧ (Lit.int k n).wf = true := by
  simp only [FitsV, Fits] at h
  obtain ⟨n, hn, hw⟩ := h
  injection hn with hn
  exact ⟨n, hn, hw⟩
theorem bool_of {b : AV} (h : FitsV .bool b) : ∃ x, b = .b x := by
  simp only [FitsV, Fits] at h
  obtain ⟨n, hn⟩ := h
  injection hn with hn
  exact ⟨n, hn⟩
theorem str_of {b : AV} (h : FitsV .str b) : ∃ l : List UInt8, b = .s l ∧ l.length ≤ maxLen := by
  simp only [FitsV, Fits] at h
  obtain ⟨n, hn, hw⟩ := h
  injection hn with hn
  exact ⟨n, hn, hw⟩
theorem wf_bd {k : IntKind} {n : Int} (h : (Lit.int k n).wf = true) : k.min ≤ n ∧ n ≤ k.max := by
  simp [Lit.wf, IntKind.has] at h
  exact h
theorem wf_i64 {n : Int} (h : (Lit.int .i64 n).wf = true) : I64 n := by
  have := wf_bd h
  simp [IntKind.min, IntKind.max, IntKind.signed, IntKind.bits] at this
  unfold I64
  omega
theorem wf_u8 {n : Int} (h : (Lit.int .u8 n).wf = true) : 0 ≤ n ∧ n < 256 := by
  have := wf_bd h
  simp [IntKind.min, IntKind.max, IntKind.signed, IntKind.bits] at this
  omega
theorem wf_u16 {n : Int} (h : (Lit.int .u16 n).wf = true) : 0 ≤ n ∧ n < 65536 := by
  have := wf_bd h
  simp [IntKind.min, IntKind.max, IntKind.signed, IntKind.bits] at this
  omega
theorem wf_u64 {n : Int} (h : (Lit.int .u64 n).wf = true) : 0 ≤ n ∧ n < 18446744073709551616 := by
  have := wf_bd h
  simp [IntKind.min, IntKind.max, IntKind.signed, IntKind.bits] at this
  omega

/-- The elements of a slice, each told by something. -/
theorem list_of {α : Type} {e : Ty} {cells : α → List AV} {ok : α → Prop} (h : ∀ p, Fits e p → ∃ x, p = cells x ∧ ok x) : ∀ (ps : List (List AV)), (∀ p ∈ ps, Fits e p) → ∃ l : List α, l.length = ps.length ∧ ps.flatten = l.flatMap cells ∧ ∀ x ∈ l, ok x
  | [], _ => ⟨[], rfl, rfl, by simp⟩
  | p :: ps, hp => by
    obtain ⟨l, h1, h2, h3⟩ := list_of h ps fun q hq => hp q (List.mem_cons_of_mem _ hq)
    obtain ⟨x, rfl, hx⟩ := h p (hp p (List.mem_cons_self ..))
    refine ⟨x :: l, by simp [h1], by simp [h2], ?_⟩
    intro y hy
    rcases List.mem_cons.1 hy with rfl | hy
    · exact hx
    · exact h3 y hy
theorem slice_of {α : Type} {e : Ty} {cells : α → List AV} {ok : α → Prop} (h : ∀ p, Fits e p → ∃ x, p = cells x ∧ ok x) {p : List AV} (hp : Fits (.sl e) p) :
    ∃ (l : List α) (k : Option Nat), p = [.fz l.length (l.flatMap cells) k] ∧ Len l.length ∧ ∀ x ∈ l, ok x := by
  simp only [Fits] at hp
  obtain ⟨ps, hps, hf, k, rfl⟩ := hp
  obtain ⟨l, h1, h2, h3⟩ := list_of h ps hf
  refine ⟨l, k, by rw [h1, h2], ?_, h3⟩
  unfold Len
  rw [h1]
  unfold maxLen at hps
  omega
theorem slice_ofV {α : Type} {e : Ty} {cells : α → List AV} {ok : α → Prop} (h : ∀ p, Fits e p → ∃ x, p = cells x ∧ ok x) {a : AV} (ha : FitsV (.sl e) a) :
    ∃ (l : List α) (k : Option Nat), a = .fz l.length (l.flatMap cells) k ∧ Len l.length ∧ ∀ x ∈ l, ok x := by
  have ha' : Fits (.sl e) [a] := ha
  obtain ⟨l, k, h1, h2⟩ := slice_of h ha'
  injection h1 with h1
  exact ⟨l, k, h1, h2⟩

theorem byte_of {p : List AV} (h : Fits (.int .u8) p) : ∃ b : UInt8, p = [.i .u8 b.toNat] ∧ True := by
  simp only [Fits] at h
  obtain ⟨n, rfl, hw⟩ := h
  have := wf_u8 hw
  refine ⟨UInt8.ofNat n.toNat, ?_, trivial⟩
  have e : ((UInt8.ofNat n.toNat).toNat : Int) = n := by
    rw [UInt8.toNat_ofNat_of_lt' (by show n.toNat < 256; omega)]
    omega
  rw [e]
theorem flat_bytes (l : List UInt8) : l.flatMap (fun b => [AV.i .u8 b.toNat]) = byteCells l := by
  induction l with
  | nil => rfl
  | cons a l ih => simp only [List.flatMap_cons, ih]; rfl
/-- A slice of bytes. -/
theorem bytes_of {p : List AV} (h : Fits (.sl (.int .u8)) p) : ∃ (l : List UInt8) (k : Option Nat), p = [.fz l.length (byteCells l) k] ∧ Len l.length := by
  obtain ⟨l, k, h1, h2, _⟩ := slice_of (fun p hp => byte_of hp) h
  rw [flat_bytes] at h1
  exact ⟨l, k, h1, h2⟩
theorem bytes_ofV {a : AV} (h : FitsV (.sl (.int .u8)) a) : ∃ (l : List UInt8) (k : Option Nat), a = .fz l.length (byteCells l) k ∧ Len l.length := by
  have h' : Fits (.sl (.int .u8)) [a] := h
  obtain ⟨l, k, h1, h2⟩ := bytes_of h'
  injection h1 with h1
  exact ⟨l, k, h1, h2⟩
end Go.Aw
