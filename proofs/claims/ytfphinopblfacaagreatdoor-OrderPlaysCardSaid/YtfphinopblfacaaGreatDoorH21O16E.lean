import Derived.Test.YtfphinopblfacaaGreatDoorH21O16D
namespace Go.Aw
open Go
open Go.Proofs.Tryz (prog)
set_option linter.all false
set_option maxHeartbeats 4000000

/-! In the document's own way. -/
theorem memC_at {l : List (Int × Bool)} {k : Nat} {y : Int × Bool} (h : l[k]? = some y) : (mem l).drop (k * 2) = [.i .i64 y.1, .b y.2] ++ (mem (l.drop (k + 1))) :=
  flat_at (f := fun m : Int × Bool => [AV.i .i64 m.1, .b m.2]) (fun _ => rfl) h
theorem memC_len (l : List (Int × Bool)) : (mem l).length = l.length * 2 := flat_length (f := fun m : Int × Bool => [AV.i .i64 m.1, .b m.2]) (fun _ => rfl) l
theorem Own.appB {T T1 : Tab} {v : AV} {b m : List UInt8} {c : Option Nat} {K : AV → Tab → Prop} (h : Own T 1 v b.length (byteCells b) T1) (hb : b.length + m.length ≤ 1000000000)
    (hk : ∀ v' T2, Own T 1 v' (b ++ m).length (byteCells (b ++ m)) T2 → K v' T2) : appStep 1 1 T1 v (bts m c) K := by
  refine h.app (m := m.length) (news := byteCells m) (by simp [bts, slCells, byteCells_length]) rfl (by omega) (by omega) fun v' T2 ho => hk v' T2 ?_
  rw [byteCells_append, ← List.length_append] at ho
  exact ho
theorem Gr.appB {T T1 : Tab} {v : AV} {b m : List UInt8} {c : Option Nat} {K : AV → Tab → Prop} (h : Gr T 1 v b.length (byteCells b) T1) (hb : b.length + m.length ≤ 1000000000) (h0 : 0 < m.length)
    (hk : ∀ v' T2, Own T 1 v' (b ++ m).length (byteCells (b ++ m)) T2 → K v' T2) : appStep 1 1 T1 v (bts m c) K := by
  refine h.app (m := m.length) (news := byteCells m) (by simp [bts, slCells, byteCells_length]) rfl h0 (by omega) (by omega) fun v' T2 ho => hk v' T2 ?_
  rw [byteCells_append, ← List.length_append] at ho
  exact ho
theorem wrap_u8n {n : Nat} (h : n < 128) : IntKind.u8.wrap (n : Int) = ((UInt8.ofNat n).toNat : Int) := by
  rw [wrap_u8, UInt8.toNat_ofNat_of_lt' (by show n < 256; omega)]; omega
theorem bts_two {a b : UInt8} : AV.fz 2 [.i .u8 (a.toNat : Int), .i .u8 (b.toNat : Int)] (some 2) = bts [a, b] (some 2) := rfl
theorem bts_one' {a : UInt8} : AV.fz 1 [.i .u8 (a.toNat : Int)] (some 1) = bts [a] (some 1) := rfl

structure Rf.Ok (w : Rf) : Prop where
  ep : 0 ≤ w.ep ∧ w.ep < 18446744073709551616
  sh : 0 ≤ w.sh ∧ w.sh < 4
  l : w.l.length ≤ 8
  ms : ∀ m ∈ w.l, 0 ≤ m.1 ∧ m.1 < 8
  ln : w.ln = -1 ∨ (0 ≤ w.ln ∧ w.ln < 8)
theorem Cf.Ok.plain {c : Cf} (h : c.Ok) : c.plain.Ok := ⟨h.ep, h.sh, by rw [c.plain_len]; exact h.ch, fun m hm => h.ms _ (by rw [← c.plain_fst]; exact List.mem_map_of_mem hm), h.ln⟩

end Go.Aw
