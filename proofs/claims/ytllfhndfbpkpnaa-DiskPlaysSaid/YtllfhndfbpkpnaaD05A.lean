import Derived.Test.YtllfhndfbpkpnaaT05Txt
import Derived.Test.YtllfhndfbpkpnaaAwOwn
namespace Go.Aw
open Go
open Go.Proofs.Try (prog)
set_option linter.all false
set_option maxHeartbeats 4000000

theorem byteCells_length (l : List UInt8) : (byteCells l).length = l.length := by simp [byteCells]
theorem byteCells_append (l m : List UInt8) : byteCells l ++ byteCells m = byteCells (l ++ m) := by simp [byteCells]
theorem byteCells_take (l : List UInt8) (k : Nat) : (byteCells l).take k = byteCells (l.take k) := by simp [byteCells, List.map_take]
theorem byteCells_drop (l : List UInt8) (k : Nat) : (byteCells l).drop k = byteCells (l.drop k) := by simp [byteCells, List.map_drop]
theorem slCells_bytes {T : Tab} (l : List UInt8) (k : Option Nat) : slCells T 1 (.fz l.length (byteCells l) k) = some (byteCells l) := by simp [slCells, byteCells_length]
/-- Bytes that nobody writes. -/
def bts (l : List UInt8) (k : Option Nat) : AV := .fz l.length (byteCells l) k

theorem finL_bts {T T' : Tab} {v : AV} {l : List UInt8} {n : Nat} (h : Own T 1 v n (byteCells l) T') (hn : l.length = n) : finL v (fun v T' => v = bts l none ∧ T' = T) T' := by
  subst hn
  refine finL_owns (Owns.one h) fun S hS => ?_
  obtain ⟨c, e⟩ := hS _ (List.mem_cons_self ..)
  simp only at e
  have : frzt T' S v = frz1 T' S v := by
    rcases h.2 with ⟨rfl, _⟩ | ⟨id, rfl, _⟩ <;> rfl
  rw [this, e]
  exact .fz

theorem pc_Clone (l : List UInt8) (k : Option Nat) (hn : l.length ≤ 1000000000) : PCalls prog f_slices_Clone_byte_byte [bts l k] (bts l none) := by
  refine pcalls_of mixed t_slices_Clone_byte_byte (by simp) fun T => ?_
  unfold s_slices_Clone_byte_byte bts
  have main : ∀ K : AV → Tab → Prop, (∀ v T', Own T 1 v l.length (byteCells l) T' → K v T') → appStep 1 1 T (.fz 0 [] (some 0)) (.fz l.length (byteCells l) k) K := fun K hK =>
    (Own.nil T 1).app (m := l.length) (news := byteCells l) (slCells_bytes l k) rfl (by omega) (by omega) (by simpa using hK)
  simp -implicitDefEqProofs -dsimp only [go_sem, Nat.reduceEqDiff, Nat.reduceAdd, Nat.reduceMul, Nat.reduceSub, Nat.reduceLT, Nat.reduceLeDiff, Nat.reduceBEq, reduceIte, reduceCtorEq, Int.reduceLT, Int.reduceLE, Int.reduceEq, Int.reduceNeg, Int.reduceToNat, Int.reduceAdd, Int.reduceSub, snl_fz]
  split
  · refine main _ fun v T' h => ?_
    refine aft_nil ?_
    obtain ⟨q1, q2, q3, q4, q5, q6⟩ := h.form
    simp -implicitDefEqProofs -dsimp only [go_sem, Nat.reduceEqDiff, Nat.reduceAdd, Nat.reduceMul, Nat.reduceSub, Nat.reduceLT, Nat.reduceLeDiff, Nat.reduceBEq, reduceIte, reduceCtorEq, Int.reduceLT, Int.reduceLE, Int.reduceEq, Int.reduceNeg, Int.reduceToNat, Int.reduceAdd, Int.reduceSub, q1]
    exact finL_bts h rfl
  · rename_i h0
    have e : l = [] := List.length_eq_zero_iff.1 (by omega)
    subst e
    intro b
    refine br_split (fun h => ?_) (fun h => ?_) <;> simp -implicitDefEqProofs -dsimp only [go_sem, Nat.reduceEqDiff, Nat.reduceAdd, Nat.reduceMul, Nat.reduceSub, Nat.reduceLT, Nat.reduceLeDiff, Nat.reduceBEq, reduceIte, reduceCtorEq, Int.reduceLT, Int.reduceLE, Int.reduceEq, Int.reduceNeg, Int.reduceToNat, Int.reduceAdd, Int.reduceSub]
    · exact finL_bts (l := []) (Own.nil T 1) rfl
    · refine main _ fun v T' h => ?_
      refine aft_nil ?_
      obtain ⟨q1, q2, q3, q4, q5, q6⟩ := h.form
      simp -implicitDefEqProofs -dsimp only [go_sem, Nat.reduceEqDiff, Nat.reduceAdd, Nat.reduceMul, Nat.reduceSub, Nat.reduceLT, Nat.reduceLeDiff, Nat.reduceBEq, reduceIte, reduceCtorEq, Int.reduceLT, Int.reduceLE, Int.reduceEq, Int.reduceNeg, Int.reduceToNat, Int.reduceAdd, Int.reduceSub, q1]
      exact finL_bts h rfl

/-- Room for more, of nothing. -/
theorem ac_Grow (n : Nat) (hn : n ≤ 1000000000) (T : Tab) : ACalls prog f_slices_Grow_byte_byte [.fz 0 [] (some 0), .i .i64 n] T (fun v T' => Own T 1 v 0 [] T') := by
  refine acalls_of mixed t_slices_Grow_byte_byte (by simp) ?_
  unfold s_slices_Grow_byte_byte
  have h0 : decide ((n : Int) < 0) = false := decide_eq_false (by omega)
  have h1 : IntKind.i64.wrap (n : Int) = n := wrap_i64 (by unfold I64; omega)
  have h2 : IntKind.i64.wrap ((n : Int) - 0) = n := by rw [Int.sub_zero]; exact h1
  have h3 : IntKind.i64.wrap 0 = 0 := rfl
  simp -implicitDefEqProofs -dsimp only [go_sem, Nat.reduceEqDiff, Nat.reduceAdd, Nat.reduceMul, Nat.reduceSub, Nat.reduceLT, Nat.reduceLeDiff, Nat.reduceBEq, reduceIte, reduceCtorEq, Int.reduceLT, Int.reduceLE, Int.reduceEq, Int.reduceNeg, Int.reduceToNat, Int.reduceAdd, Int.reduceSub, h0, h1, h2, h3, Int.sub_zero, show ((0 : Nat) : Int) = 0 from rfl]
  refine br_split (fun h => ?_) (fun h => ?_)
  · have hp := of_decide_eq_true h
    simp -implicitDefEqProofs -dsimp only [go_sem, Nat.reduceEqDiff, Nat.reduceAdd, Nat.reduceMul, Nat.reduceSub, Nat.reduceLT, Nat.reduceLeDiff, Nat.reduceBEq, reduceIte, reduceCtorEq, Int.reduceLT, Int.reduceLE, Int.reduceEq, Int.reduceNeg, Int.reduceToNat, Int.reduceAdd, Int.reduceSub, h, Int.sub_zero, show ((0 : Nat) : Int) = 0 from rfl, Nat.le_refl, true_or, true_and, Nat.sub_self]
    refine apzS_of hp (by omega) (by omega) fun id hid => ?_
    refine aft_nil ?_
    simp -implicitDefEqProofs -dsimp only [go_sem, Nat.reduceEqDiff, Nat.reduceAdd, Nat.reduceMul, Nat.reduceSub, Nat.reduceLT, Nat.reduceLeDiff, Nat.reduceBEq, reduceIte, reduceCtorEq, Int.reduceLT, Int.reduceLE, Int.reduceEq, Int.reduceNeg, Int.reduceToNat, Int.reduceAdd, Int.reduceSub, Tab.put_same, Int.toNat_natCast, Nat.zero_le, true_or, or_true, true_and, show ((0 : Nat) : Int) = 0 from rfl, Int.toNat_zero]
    refine finL_of (T.put id (.row 1 [])) (fun j => ?_) ⟨rfl, .inr ⟨id, rfl, hid, rfl⟩⟩
    simp only [Tab.put]
    split
    · exact .inr (.inr ⟨1, _, 0, rfl, by simp⟩)
    · exact .inr (.inl rfl)
  · simp -implicitDefEqProofs -dsimp only [go_sem, Nat.reduceEqDiff, Nat.reduceAdd, Nat.reduceMul, Nat.reduceSub, Nat.reduceLT, Nat.reduceLeDiff, Nat.reduceBEq, reduceIte, reduceCtorEq, Int.reduceLT, Int.reduceLE, Int.reduceEq, Int.reduceNeg, Int.reduceToNat, Int.reduceAdd, Int.reduceSub, h]
    exact finL_of T (fun _ => .inr (.inl rfl)) (.nil T 1)

theorem pc_Concat (l m : List UInt8) (k1 k2 : Option Nat) (hl : l.length ≤ 400000000) (hm : m.length ≤ 400000000) : PCalls prog f_slices_Concat_byte_byte [.fz 2 [bts l k1, bts m k2] (some 2)] (bts (l ++ m) none) := by
  refine pcalls_of mixed t_slices_Concat_byte_byte (by simp) fun T => ?_
  unfold s_slices_Concat_byte_byte
  have w1 : IntKind.i64.wrap (0 + (l.length : Int)) = l.length := by rw [Int.zero_add]; exact wrap_i64 (by unfold I64; omega)
  have w2 : IntKind.i64.wrap ((l.length : Int) + m.length) = ((l.length + m.length : Nat) : Int) := by rw [wrap_i64 (by unfold I64; omega)]; simp
  have d1 : decide ((l.length : Int) < 0) = false := decide_eq_false (by omega)
  have d2 : decide (((l.length + m.length : Nat) : Int) < 0) = false := decide_eq_false (by omega)
  have w3 : IntKind.i64.wrap 1 = 1 := rfl
  have w4 : IntKind.i64.wrap 2 = 2 := rfl
  simp -implicitDefEqProofs -dsimp only [go_sem, Nat.reduceEqDiff, Nat.reduceAdd, Nat.reduceMul, Nat.reduceSub, Nat.reduceLT, Nat.reduceLeDiff, Nat.reduceBEq, reduceIte, reduceCtorEq, Int.reduceLT, Int.reduceLE, Int.reduceEq, Int.reduceNeg, Int.reduceToNat, Int.reduceAdd, Int.reduceSub, show ((2 : Nat) : Int) = 2 from rfl]
  refine AW_loopD (l := slices_Concat_byte_byte_l0) rfl (by repeat' (first | exact finX_ext _ _ | assumption | apply blkR_ext | apply thenR_ext | apply AW_ext)) ?_
  unfold slices_Concat_byte_byte_l0b
  simp -implicitDefEqProofs -dsimp only [go_sem, Nat.reduceEqDiff, Nat.reduceAdd, Nat.reduceMul, Nat.reduceSub, Nat.reduceLT, Nat.reduceLeDiff, Nat.reduceBEq, reduceIte, reduceCtorEq, Int.reduceLT, Int.reduceLE, Int.reduceEq, Int.reduceNeg, Int.reduceToNat, Int.reduceAdd, Int.reduceSub, bts, w1, d1, w3, Int.natCast_nonneg, show ((2 : Nat) : Int) = 2 from rfl, decide_true, decide_false]
  refine AW_loopD (l := slices_Concat_byte_byte_l0) rfl (by repeat' (first | exact finX_ext _ _ | assumption | apply blkR_ext | apply thenR_ext | apply AW_ext)) ?_
  unfold slices_Concat_byte_byte_l0b
  simp -implicitDefEqProofs -dsimp only [go_sem, Nat.reduceEqDiff, Nat.reduceAdd, Nat.reduceMul, Nat.reduceSub, Nat.reduceLT, Nat.reduceLeDiff, Nat.reduceBEq, reduceIte, reduceCtorEq, Int.reduceLT, Int.reduceLE, Int.reduceEq, Int.reduceNeg, Int.reduceToNat, Int.reduceAdd, Int.reduceSub, bts, w2, d2, w4, Int.natCast_nonneg, show ((2 : Nat) : Int) = 2 from rfl, decide_true, decide_false]
  refine AW_loopD (l := slices_Concat_byte_byte_l0) rfl (by repeat' (first | exact finX_ext _ _ | assumption | apply blkR_ext | apply thenR_ext | apply AW_ext)) ?_
  unfold slices_Concat_byte_byte_l0b
  simp -implicitDefEqProofs -dsimp only [go_sem, Nat.reduceEqDiff, Nat.reduceAdd, Nat.reduceMul, Nat.reduceSub, Nat.reduceLT, Nat.reduceLeDiff, Nat.reduceBEq, reduceIte, reduceCtorEq, Int.reduceLT, Int.reduceLE, Int.reduceEq, Int.reduceNeg, Int.reduceToNat, Int.reduceAdd, Int.reduceSub, bts, show ((2 : Nat) : Int) = 2 from rfl, decide_true, decide_false, ↓g_call _ _ c_slices_Grow_byte_byte]
  refine CallK.of (ac_Grow (l.length + m.length) (by omega) T) (fun v T1 h => ?_)
  refine aft_nil ?_
  obtain ⟨q1, q2, q3, q4, q5, q6⟩ := h.form
  simp -implicitDefEqProofs -dsimp only [go_sem, Nat.reduceEqDiff, Nat.reduceAdd, Nat.reduceMul, Nat.reduceSub, Nat.reduceLT, Nat.reduceLeDiff, Nat.reduceBEq, reduceIte, reduceCtorEq, Int.reduceLT, Int.reduceLE, Int.reduceEq, Int.reduceNeg, Int.reduceToNat, Int.reduceAdd, Int.reduceSub, q1, q2, q3, q4, q5, q6, show ((2 : Nat) : Int) = 2 from rfl]
  refine AW_loopD (l := slices_Concat_byte_byte_l1) rfl (by repeat' (first | exact finX_ext _ _ | assumption | apply blkR_ext | apply thenR_ext | apply AW_ext)) ?_
  unfold slices_Concat_byte_byte_l1b
  simp -implicitDefEqProofs -dsimp only [go_sem, Nat.reduceEqDiff, Nat.reduceAdd, Nat.reduceMul, Nat.reduceSub, Nat.reduceLT, Nat.reduceLeDiff, Nat.reduceBEq, reduceIte, reduceCtorEq, Int.reduceLT, Int.reduceLE, Int.reduceEq, Int.reduceNeg, Int.reduceToNat, Int.reduceAdd, Int.reduceSub, q1, q2, q3, q4, q5, q6, w3, w4, decide_true, decide_false, show ((2 : Nat) : Int) = 2 from rfl, show (1 : Int).toNat = 1 from rfl]
  refine (Owns.one h).app (b := 1) (m := l.length) (news := byteCells l) (slCells_bytes l k1) rfl (by simp only; omega) (by simp only; omega) fun v' T2 h2 => ?_
  refine aft_nil ?_
  obtain ⟨q1, q2, q3, q4, q5, q6⟩ := h2.form (List.mem_cons_self ..)
  simp only at q1 q2 q3 q4 q5 q6
  simp -implicitDefEqProofs -dsimp only [go_sem, Nat.reduceEqDiff, Nat.reduceAdd, Nat.reduceMul, Nat.reduceSub, Nat.reduceLT, Nat.reduceLeDiff, Nat.reduceBEq, reduceIte, reduceCtorEq, Int.reduceLT, Int.reduceLE, Int.reduceEq, Int.reduceNeg, Int.reduceToNat, Int.reduceAdd, Int.reduceSub, q1, q2, q3, q4, q5, q6, w3, w4, decide_true, decide_false, show ((2 : Nat) : Int) = 2 from rfl, show (1 : Int).toNat = 1 from rfl]
  refine AW_loopD (l := slices_Concat_byte_byte_l1) rfl (by repeat' (first | exact finX_ext _ _ | assumption | apply blkR_ext | apply thenR_ext | apply AW_ext)) ?_
  unfold slices_Concat_byte_byte_l1b
  simp -implicitDefEqProofs -dsimp only [go_sem, Nat.reduceEqDiff, Nat.reduceAdd, Nat.reduceMul, Nat.reduceSub, Nat.reduceLT, Nat.reduceLeDiff, Nat.reduceBEq, reduceIte, reduceCtorEq, Int.reduceLT, Int.reduceLE, Int.reduceEq, Int.reduceNeg, Int.reduceToNat, Int.reduceAdd, Int.reduceSub, q1, q2, q3, q4, q5, q6, w3, w4, decide_true, decide_false, show ((2 : Nat) : Int) = 2 from rfl, show (1 : Int).toNat = 1 from rfl]
  refine h2.app (b := 1) (m := m.length) (news := byteCells m) (slCells_bytes m k2) rfl (by simp only; omega) (by simp only; omega) fun v' T3 h3 => ?_
  refine aft_nil ?_
  obtain ⟨q1, q2, q3, q4, q5, q6⟩ := h3.form (List.mem_cons_self ..)
  simp only at q1 q2 q3 q4 q5 q6
  simp -implicitDefEqProofs -dsimp only [go_sem, Nat.reduceEqDiff, Nat.reduceAdd, Nat.reduceMul, Nat.reduceSub, Nat.reduceLT, Nat.reduceLeDiff, Nat.reduceBEq, reduceIte, reduceCtorEq, Int.reduceLT, Int.reduceLE, Int.reduceEq, Int.reduceNeg, Int.reduceToNat, Int.reduceAdd, Int.reduceSub, q1, q2, q3, q4, q5, q6, w3, w4, decide_true, decide_false, show ((2 : Nat) : Int) = 2 from rfl, show (1 : Int).toNat = 1 from rfl]
  refine AW_loopD (l := slices_Concat_byte_byte_l1) rfl (by repeat' (first | exact finX_ext _ _ | assumption | apply blkR_ext | apply thenR_ext | apply AW_ext)) ?_
  unfold slices_Concat_byte_byte_l1b
  simp -implicitDefEqProofs -dsimp only [go_sem, Nat.reduceEqDiff, Nat.reduceAdd, Nat.reduceMul, Nat.reduceSub, Nat.reduceLT, Nat.reduceLeDiff, Nat.reduceBEq, reduceIte, reduceCtorEq, Int.reduceLT, Int.reduceLE, Int.reduceEq, Int.reduceNeg, Int.reduceToNat, Int.reduceAdd, Int.reduceSub, q1, q2, q3, q4, q5, q6, w3, w4, decide_true, decide_false, show ((2 : Nat) : Int) = 2 from rfl, show (1 : Int).toNat = 1 from rfl]
  obtain ⟨T0, rfl, ho⟩ := h3
  simp only [List.nil_append, byteCells_append] at ho
  exact finL_bts ho (by simp)

structure Ar where
  b : List UInt8
  c : Option Nat
  su : Int
structure Dk where
  room : Int
  a0 : Ar
  a1 : Ar
  lost : Bool
  armed : Bool
  left : Int
def Ar.cells (a : Ar) : List AV := [bts a.b a.c, .i .i64 a.su]
def Dk.cells (d : Dk) : List AV := [.i .i64 d.room, bts d.a0.b d.a0.c, .i .i64 d.a0.su, bts d.a1.b d.a1.c, .i .i64 d.a1.su, .b d.lost, .b d.armed, .i .i64 d.left]

structure Ar.Ok (a : Ar) : Prop where
  s0 : 0 ≤ a.su
  s1 : a.su ≤ a.b.length
structure Dk.Ok (d : Dk) : Prop where
  r0 : 0 ≤ d.room
  r1 : d.room ≤ 1048576
  fits : (d.a0.b.length : Int) + d.a1.b.length ≤ d.room
  o0 : d.a0.Ok
  o1 : d.a1.Ok
  l0 : 0 ≤ d.left

def Dk.new (r : Int) : Dk := ⟨min (max r 0) 1048576, ⟨[], some 0, 0⟩, ⟨[], some 0, 0⟩, false, false, 0⟩
theorem Dk.new_ok (r : Int) : (Dk.new r).Ok := ⟨by simp only [Dk.new]; omega, by simp only [Dk.new]; omega, by simp [Dk.new]; omega, ⟨by simp [Dk.new], by simp [Dk.new]⟩, ⟨by simp [Dk.new], by simp [Dk.new]⟩, by simp [Dk.new]⟩

/-- There is a disk at a place of the table. -/
def At (T : Tab) (id : Nat) (d : Dk) : Prop := T id = .row 8 d.cells

theorem ac_New (r : Int) (T : Tab) : ACalls prog f_disk_New [.i .i64 r] T (fun v T' => ∃ id, v = .ptr id 0 ∧ T id = .unused ∧ T' = T.put id (.row 8 (Dk.new r).cells)) := by
  refine acalls_of mixed t_disk_New (by simp) ?_
  unfold s_disk_New
  simp -implicitDefEqProofs -dsimp only [go_sem, Nat.reduceEqDiff, Nat.reduceAdd, Nat.reduceMul, Nat.reduceSub, Nat.reduceLT, Nat.reduceLeDiff, Nat.reduceBEq, reduceIte, reduceCtorEq, Int.reduceLT, Int.reduceLE, Int.reduceEq, Int.reduceNeg, Int.reduceToNat, Int.reduceAdd, Int.reduceSub, mnxAv]
  intro id hid
  refine aft_nil ?_
  simp -implicitDefEqProofs -dsimp only [go_sem, Nat.reduceEqDiff, Nat.reduceAdd, Nat.reduceMul, Nat.reduceSub, Nat.reduceLT, Nat.reduceLeDiff, Nat.reduceBEq, reduceIte, reduceCtorEq, Int.reduceLT, Int.reduceLE, Int.reduceEq, Int.reduceNeg, Int.reduceToNat, Int.reduceAdd, Int.reduceSub]
  refine finL_of _ (fun _ => .inr (.inl rfl)) ⟨id, rfl, hid, ?_⟩
  have e : (if 1048576 < if 0 > r then 0 else r then 1048576 else if 0 > r then 0 else r) = min (max r 0) 1048576 := by
    by_cases h : 0 > r
    · rw [if_pos h]; simp; omega
    · rw [if_neg h]; split <;> omega
  rw [e]
  rfl

def isV (k : Int) : Int := if k < 0 ∨ 2 ≤ k then 1 else 0
theorem pc_is (id o : Nat) (k : Int) : PCalls prog f_disk_Disk_is [.ptr id o, .i .i64 k] (.i .i64 (isV k)) := by
  refine pcalls_of mixed t_disk_Disk_is (by simp) fun T => ?_
  unfold s_disk_Disk_is
  simp -implicitDefEqProofs -dsimp only [go_sem, Nat.reduceEqDiff, Nat.reduceAdd, Nat.reduceMul, Nat.reduceSub, Nat.reduceLT, Nat.reduceLeDiff, Nat.reduceBEq, reduceIte, reduceCtorEq, Int.reduceLT, Int.reduceLE, Int.reduceEq, Int.reduceNeg, Int.reduceToNat, Int.reduceAdd, Int.reduceSub]
  (first | (refine br_split (fun h_1 => ?_) (fun h_1 => ?_) <;> simp -implicitDefEqProofs -dsimp only [go_sem, Nat.reduceEqDiff, Nat.reduceAdd, Nat.reduceMul, Nat.reduceSub, Nat.reduceLT, Nat.reduceLeDiff, Nat.reduceBEq, reduceIte, reduceCtorEq, Int.reduceLT, Int.reduceLE, Int.reduceEq, Int.reduceNeg, Int.reduceToNat, Int.reduceAdd, Int.reduceSub, eqAv, h_1]) | (have h_1 := trivial)) <;>
    (first | (refine br_split (fun h_2 => ?_) (fun h_2 => ?_) <;> simp -implicitDefEqProofs -dsimp only [go_sem, Nat.reduceEqDiff, Nat.reduceAdd, Nat.reduceMul, Nat.reduceSub, Nat.reduceLT, Nat.reduceLeDiff, Nat.reduceBEq, reduceIte, reduceCtorEq, Int.reduceLT, Int.reduceLE, Int.reduceEq, Int.reduceNeg, Int.reduceToNat, Int.reduceAdd, Int.reduceSub, eqAv, h_1, h_2]) | (have h_2 := trivial)) <;>
    (first | (refine br_split (fun h_3 => ?_) (fun h_3 => ?_) <;> simp -implicitDefEqProofs -dsimp only [go_sem, Nat.reduceEqDiff, Nat.reduceAdd, Nat.reduceMul, Nat.reduceSub, Nat.reduceLT, Nat.reduceLeDiff, Nat.reduceBEq, reduceIte, reduceCtorEq, Int.reduceLT, Int.reduceLE, Int.reduceEq, Int.reduceNeg, Int.reduceToNat, Int.reduceAdd, Int.reduceSub, eqAv, h_1, h_2, h_3]) | (have h_3 := trivial)) <;>
    (first | (refine br_split (fun h_4 => ?_) (fun h_4 => ?_) <;> simp -implicitDefEqProofs -dsimp only [go_sem, Nat.reduceEqDiff, Nat.reduceAdd, Nat.reduceMul, Nat.reduceSub, Nat.reduceLT, Nat.reduceLeDiff, Nat.reduceBEq, reduceIte, reduceCtorEq, Int.reduceLT, Int.reduceLE, Int.reduceEq, Int.reduceNeg, Int.reduceToNat, Int.reduceAdd, Int.reduceSub, eqAv, h_1, h_2, h_3, h_4]) | (have h_4 := trivial))
  all_goals
    refine finL_pure ?_
    simp_all [isV]
    try omega
theorem pc_isN (k : Int) : PCalls prog f_disk_Disk_is [.nilptr, .i .i64 k] (.i .i64 2) := by
  refine pcalls_of mixed t_disk_Disk_is (by simp) fun T => ?_
  unfold s_disk_Disk_is
  simp -implicitDefEqProofs -dsimp only [go_sem, Nat.reduceEqDiff, Nat.reduceAdd, Nat.reduceMul, Nat.reduceSub, Nat.reduceLT, Nat.reduceLeDiff, Nat.reduceBEq, reduceIte, reduceCtorEq, Int.reduceLT, Int.reduceLE, Int.reduceEq, Int.reduceNeg, Int.reduceToNat, Int.reduceAdd, Int.reduceSub]
  exact finL_pure rfl

def Dk.free (d : Dk) : Int := d.room - d.a0.b.length - d.a1.b.length
theorem ac_Room {d : Dk} (hd : d.Ok) {T : Tab} {id : Nat} (hT : At T id d) : ACalls prog f_disk_Disk_Room [.ptr id 0] T (fun v T' => v = .i .i64 d.free ∧ T' = T) := by
  refine acalls_of mixed t_disk_Disk_Room (by simp) ?_
  unfold s_disk_Disk_Room
  unfold At at hT
  have r0 := hd.r0; have r1 := hd.r1; have r2 := hd.fits
  have w1 : IntKind.i64.wrap (d.room - d.a0.b.length) = d.room - d.a0.b.length := wrap_i64 (by unfold I64; omega)
  have w2 : IntKind.i64.wrap (d.room - d.a0.b.length - d.a1.b.length) = d.free := wrap_i64 (by unfold I64; omega)
  have w3 : IntKind.i64.wrap 1 = 1 := rfl
  have w4 : IntKind.i64.wrap 2 = 2 := rfl
  simp -implicitDefEqProofs -dsimp only [go_sem, Nat.reduceEqDiff, Nat.reduceAdd, Nat.reduceMul, Nat.reduceSub, Nat.reduceLT, Nat.reduceLeDiff, Nat.reduceBEq, reduceIte, reduceCtorEq, Int.reduceLT, Int.reduceLE, Int.reduceEq, Int.reduceNeg, Int.reduceToNat, Int.reduceAdd, Int.reduceSub, hT, Dk.cells]
  refine AW_loopD (l := disk_Disk_Room_l0) rfl (by repeat' (first | exact finX_ext _ _ | assumption | apply blkR_ext | apply thenR_ext | apply AW_ext)) ?_
  unfold disk_Disk_Room_l0b
  simp -implicitDefEqProofs -dsimp only [go_sem, Nat.reduceEqDiff, Nat.reduceAdd, Nat.reduceMul, Nat.reduceSub, Nat.reduceLT, Nat.reduceLeDiff, Nat.reduceBEq, reduceIte, reduceCtorEq, Int.reduceLT, Int.reduceLE, Int.reduceEq, Int.reduceNeg, Int.reduceToNat, Int.reduceAdd, Int.reduceSub, hT, Dk.cells, bts, w1, w3, show ((2 : Nat) : Int) = 2 from rfl]
  refine AW_loopD (l := disk_Disk_Room_l0) rfl (by repeat' (first | exact finX_ext _ _ | assumption | apply blkR_ext | apply thenR_ext | apply AW_ext)) ?_
  unfold disk_Disk_Room_l0b
  simp -implicitDefEqProofs -dsimp only [go_sem, Nat.reduceEqDiff, Nat.reduceAdd, Nat.reduceMul, Nat.reduceSub, Nat.reduceLT, Nat.reduceLeDiff, Nat.reduceBEq, reduceIte, reduceCtorEq, Int.reduceLT, Int.reduceLE, Int.reduceEq, Int.reduceNeg, Int.reduceToNat, Int.reduceAdd, Int.reduceSub, hT, Dk.cells, bts, w2, w4, show ((2 : Nat) : Int) = 2 from rfl, show (1 : Int).toNat = 1 from rfl]
  refine AW_loopD (l := disk_Disk_Room_l0) rfl (by repeat' (first | exact finX_ext _ _ | assumption | apply blkR_ext | apply thenR_ext | apply AW_ext)) ?_
  unfold disk_Disk_Room_l0b
  simp -implicitDefEqProofs -dsimp only [go_sem, Nat.reduceEqDiff, Nat.reduceAdd, Nat.reduceMul, Nat.reduceSub, Nat.reduceLT, Nat.reduceLeDiff, Nat.reduceBEq, reduceIte, reduceCtorEq, Int.reduceLT, Int.reduceLE, Int.reduceEq, Int.reduceNeg, Int.reduceToNat, Int.reduceAdd, Int.reduceSub, hT, Dk.cells, bts]
  exact finL_pure rfl

/-- A write: what it answers, and whether it is the one at which the disk is lost. -/
def Dk.write (d : Dk) : Int × Bool × Dk :=
  if d.lost = true then (12, false, d) else
  if d.armed = true ∧ d.left = 0 then (12, true, { d with lost := true }) else
  if d.armed = true then (0, false, { d with left := d.left - 1 }) else (0, false, d)

theorem ac_write {d : Dk} (hd : d.Ok) (hl : d.left ≤ 9223372036854775807) {T : Tab} {id : Nat} (hT : At T id d) :
    ACalls prog f_disk_Disk_write [.ptr id 0] T (fun v T' => v = .tup [.i .i64 d.write.1, .b d.write.2.1] ∧ T' = T.put id (.row 8 d.write.2.2.cells)) := by
  refine acalls_of mixed t_disk_Disk_write (by simp) ?_
  unfold s_disk_Disk_write
  unfold At at hT
  have hT' := hT
  unfold Dk.cells at hT'
  have w1 : IntKind.i64.wrap (d.left - 1) = d.left - 1 := wrap_i64 (by have := hd.l0; unfold I64; omega)
  simp -implicitDefEqProofs -dsimp only [go_sem, Nat.reduceEqDiff, Nat.reduceAdd, Nat.reduceMul, Nat.reduceSub, Nat.reduceLT, Nat.reduceLeDiff, Nat.reduceBEq, reduceIte, reduceCtorEq, Int.reduceLT, Int.reduceLE, Int.reduceEq, Int.reduceNeg, Int.reduceToNat, Int.reduceAdd, Int.reduceSub, hT, Dk.cells]
  refine br_split (fun h => ?_) (fun h => ?_)
  · simp -implicitDefEqProofs -dsimp only [go_sem, Nat.reduceEqDiff, Nat.reduceAdd, Nat.reduceMul, Nat.reduceSub, Nat.reduceLT, Nat.reduceLeDiff, Nat.reduceBEq, reduceIte, reduceCtorEq, Int.reduceLT, Int.reduceLE, Int.reduceEq, Int.reduceNeg, Int.reduceToNat, Int.reduceAdd, Int.reduceSub, h]
    refine finL_of _ (fun _ => .inr (.inl rfl)) ⟨by simp [Dk.write, h], ?_⟩
    rw [Dk.write, if_pos h]
    exact (Tab.put_self hT).symm
  · simp -implicitDefEqProofs -dsimp only [go_sem, Nat.reduceEqDiff, Nat.reduceAdd, Nat.reduceMul, Nat.reduceSub, Nat.reduceLT, Nat.reduceLeDiff, Nat.reduceBEq, reduceIte, reduceCtorEq, Int.reduceLT, Int.reduceLE, Int.reduceEq, Int.reduceNeg, Int.reduceToNat, Int.reduceAdd, Int.reduceSub, h, hT']
    refine br_split (fun h1 => ?_) (fun h1 => ?_)
    · simp -implicitDefEqProofs -dsimp only [go_sem, Nat.reduceEqDiff, Nat.reduceAdd, Nat.reduceMul, Nat.reduceSub, Nat.reduceLT, Nat.reduceLeDiff, Nat.reduceBEq, reduceIte, reduceCtorEq, Int.reduceLT, Int.reduceLE, Int.reduceEq, Int.reduceNeg, Int.reduceToNat, Int.reduceAdd, Int.reduceSub, h1, hT']
      refine br_split (fun h2 => ?_) (fun h2 => ?_)
      · have e : d.write = (12, true, { d with lost := true }) := by rw [Dk.write, if_neg (by simp [h]), if_pos ⟨h1, of_decide_eq_true h2⟩]
        rw [e]
        simp -implicitDefEqProofs -dsimp only [go_sem, Nat.reduceEqDiff, Nat.reduceAdd, Nat.reduceMul, Nat.reduceSub, Nat.reduceLT, Nat.reduceLeDiff, Nat.reduceBEq, reduceIte, reduceCtorEq, Int.reduceLT, Int.reduceLE, Int.reduceEq, Int.reduceNeg, Int.reduceToNat, Int.reduceAdd, Int.reduceSub, h2, hT']
        refine stS_row hT' rfl rfl (by simp) ?_
        refine aft_nil ?_
        simp -implicitDefEqProofs -dsimp only [go_sem, Nat.reduceEqDiff, Nat.reduceAdd, Nat.reduceMul, Nat.reduceSub, Nat.reduceLT, Nat.reduceLeDiff, Nat.reduceBEq, reduceIte, reduceCtorEq, Int.reduceLT, Int.reduceLE, Int.reduceEq, Int.reduceNeg, Int.reduceToNat, Int.reduceAdd, Int.reduceSub]
        exact finL_of _ (fun _ => .inr (.inl rfl)) ⟨rfl, rfl⟩
      · have e : d.write = (0, false, { d with left := d.left - 1 }) := by rw [Dk.write, if_neg (by simp [h]), if_neg (fun hx => of_decide_eq_false h2 hx.2), if_pos h1]
        rw [e]
        simp -implicitDefEqProofs -dsimp only [go_sem, Nat.reduceEqDiff, Nat.reduceAdd, Nat.reduceMul, Nat.reduceSub, Nat.reduceLT, Nat.reduceLeDiff, Nat.reduceBEq, reduceIte, reduceCtorEq, Int.reduceLT, Int.reduceLE, Int.reduceEq, Int.reduceNeg, Int.reduceToNat, Int.reduceAdd, Int.reduceSub, h2, hT', h1, w1]
        refine stS_row hT' rfl rfl (by simp) ?_
        refine aft_nil ?_
        simp -implicitDefEqProofs -dsimp only [go_sem, Nat.reduceEqDiff, Nat.reduceAdd, Nat.reduceMul, Nat.reduceSub, Nat.reduceLT, Nat.reduceLeDiff, Nat.reduceBEq, reduceIte, reduceCtorEq, Int.reduceLT, Int.reduceLE, Int.reduceEq, Int.reduceNeg, Int.reduceToNat, Int.reduceAdd, Int.reduceSub]
        exact finL_of _ (fun _ => .inr (.inl rfl)) ⟨rfl, rfl⟩
    · have e : d.write = (0, false, d) := by rw [Dk.write, if_neg (by simp [h]), if_neg (by simp [h1]), if_neg (by simp [h1])]
      rw [e]
      simp -implicitDefEqProofs -dsimp only [go_sem, Nat.reduceEqDiff, Nat.reduceAdd, Nat.reduceMul, Nat.reduceSub, Nat.reduceLT, Nat.reduceLeDiff, Nat.reduceBEq, reduceIte, reduceCtorEq, Int.reduceLT, Int.reduceLE, Int.reduceEq, Int.reduceNeg, Int.reduceToNat, Int.reduceAdd, Int.reduceSub, h1, hT']
      exact finL_of _ (fun _ => .inr (.inl rfl)) ⟨rfl, (Tab.put_self hT).symm⟩

theorem Dk.write_ok {d : Dk} (hd : d.Ok) : d.write.2.2.Ok := by
  obtain ⟨h1, h2, h3, h4, h5, h6⟩ := hd
  unfold Dk.write
  repeat' split
  all_goals first
    | exact ⟨h1, h2, h3, h4, h5, h6⟩
    | (refine ⟨h1, h2, h3, h4, h5, ?_⟩
       simp_all
       try omega)
end Go.Aw
