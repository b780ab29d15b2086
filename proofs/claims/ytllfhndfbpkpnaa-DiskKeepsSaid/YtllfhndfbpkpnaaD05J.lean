import Derived.Test.YtllfhndfbpkpnaaD05I
namespace Go.Aw
open Go
open Go.Proofs.Try (prog)
set_option linter.all false
set_option maxHeartbeats 4000000

theorem g_gdc {P : Program} {d : Option Nat} {f : FuncId} {args : List Operand} {k : Nat} {want : Bool} {rc : RC} {K : Env → Loc → Tab → Prop} {e : Env} {L : Loc} {T : Tab} : gstep P ⟨d, .call f args, some (k, want), rc⟩ K e L T =
    gst e k want (Hold.mk (a := gstep P ⟨d, .call f args, none, rc⟩ K e L T)) (Hold.mk (a := rcOk (eset e d (.tup [])) L T rc ∧ K (eset e d (.tup [])) L T)) := by
  rw [g_gdrc _ rfl, gst_eq]

theorem ac_like {d : Dk} (h : d.Ok) {T : Tab} {id ir : Nat} (hT : At T id d) (hR : RAt T ir d) : ACalls prog f_sautoirlaw05_like [.ptr id 0, .ptr ir 0] T (fun v T' => v = .b true ∧ T' = T) := by
  refine acalls_of mixed t_sautoirlaw05_like (by simp) ?_
  unfold s_sautoirlaw05_like
  have hR0 := hR
  unfold RAt Dk.rcells at hR0
  have v1 : IntKind.i64.wrap 1 = 1 := rfl
  have v2 : IntKind.i64.wrap 2 = 2 := rfl
  have n1 : isV 0 = 0 := rfl
  have n2 : isV 1 = 0 := rfl
  have cR0 := ac_Read h hT 0
  have cR1 := ac_Read h hT 1
  have cr0 := ac_RRead hR 0
  have cr1 := ac_RRead hR 1
  have cS0 := ac_Sure hT 0
  have cS1 := ac_Sure hT 1
  have s0 : d.sure 0 = d.a0.su := rfl
  have s1 : d.sure 1 = d.a1.su := rfl
  rw [s0] at cS0
  rw [s1] at cS1
  have cL := ac_Lost hT
  have cRo := ac_Room h hT
  have cRr := ac_RRoom h hR
  simp -implicitDefEqProofs -dsimp only [go_sem, Nat.reduceEqDiff, Nat.reduceAdd, Nat.reduceMul, Nat.reduceSub, Nat.reduceLT, Nat.reduceLeDiff, Nat.reduceBEq, reduceIte, reduceCtorEq, Int.reduceLT, Int.reduceLE, Int.reduceEq, Int.reduceNeg, Int.reduceToNat, Int.reduceAdd, Int.reduceSub]
  cases hl : d.lost with
  | true =>
    have e0 : d.read 0 = (.fz 0 [] (some 0), 12) := by rw [Dk.read, if_neg (by decide), if_pos hl]
    have e1 : d.read 1 = (.fz 0 [] (some 0), 12) := by rw [Dk.read, if_neg (by decide), if_pos hl]
    have q0 : d.rread 0 = ([], 12) := by rw [Dk.rread, if_neg (by decide), if_pos hl]
    have q1 : d.rread 1 = ([], 12) := by rw [Dk.rread, if_neg (by decide), if_pos hl]
    rw [e0] at cR0; rw [e1] at cR1; rw [q0] at cr0; rw [q1] at cr1
    refine AW_loopD (l := sautoirlaw05_like_l0) rfl (by repeat' (first | exact finX_ext _ _ | assumption | apply blkR_ext | apply thenR_ext | apply AW_ext)) ?_
    unfold sautoirlaw05_like_l0b
    simp -implicitDefEqProofs -dsimp only [go_sem, Nat.reduceEqDiff, Nat.reduceAdd, Nat.reduceMul, Nat.reduceSub, Nat.reduceLT, Nat.reduceLeDiff, Nat.reduceBEq, reduceIte, reduceCtorEq, Int.reduceLT, Int.reduceLE, Int.reduceEq, Int.reduceNeg, Int.reduceToNat, Int.reduceAdd, Int.reduceSub, ↓g_call _ _ c_disk_Disk_Read]
    refine CallK.as cR0 (aft_nil ?_)
    simp -implicitDefEqProofs -dsimp only [go_sem, Nat.reduceEqDiff, Nat.reduceAdd, Nat.reduceMul, Nat.reduceSub, Nat.reduceLT, Nat.reduceLeDiff, Nat.reduceBEq, reduceIte, reduceCtorEq, Int.reduceLT, Int.reduceLE, Int.reduceEq, Int.reduceNeg, Int.reduceToNat, Int.reduceAdd, Int.reduceSub, ↓g_call _ _ c_sautoirref05_Disk_Read]
    refine CallK.as cr0 (aft_nil ?_)
    simp -implicitDefEqProofs -dsimp only [go_sem, Nat.reduceEqDiff, Nat.reduceAdd, Nat.reduceMul, Nat.reduceSub, Nat.reduceLT, Nat.reduceLeDiff, Nat.reduceBEq, reduceIte, reduceCtorEq, Int.reduceLT, Int.reduceLE, Int.reduceEq, Int.reduceNeg, Int.reduceToNat, Int.reduceAdd, Int.reduceSub, decide_true, decide_false, byteCells_length, bytesAv_cells, hR0, show ((2 : Nat) : Int) = 2 from rfl, show (1 : Int).toNat = 1 from rfl, ↓g_gdc, ↓g_call _ _ c_disk_Disk_Sure]
    refine CallK.as cS0 (aft_rc (fun _ => ⟨?_, trivial⟩) ?_)
    · simp -implicitDefEqProofs -dsimp only [go_sem, Nat.reduceEqDiff, Nat.reduceAdd, Nat.reduceMul, Nat.reduceSub, Nat.reduceLT, Nat.reduceLeDiff, Nat.reduceBEq, reduceIte, reduceCtorEq, Int.reduceLT, Int.reduceLE, Int.reduceEq, Int.reduceNeg, Int.reduceToNat, Int.reduceAdd, Int.reduceSub, gvev, gdd, hR0]
    simp -implicitDefEqProofs -dsimp only [go_sem, Nat.reduceEqDiff, Nat.reduceAdd, Nat.reduceMul, Nat.reduceSub, Nat.reduceLT, Nat.reduceLeDiff, Nat.reduceBEq, reduceIte, reduceCtorEq, Int.reduceLT, Int.reduceLE, Int.reduceEq, Int.reduceNeg, Int.reduceToNat, Int.reduceAdd, Int.reduceSub, decide_true, decide_false, v1]
    refine AW_loopD (l := sautoirlaw05_like_l0) rfl (by repeat' (first | exact finX_ext _ _ | assumption | apply blkR_ext | apply thenR_ext | apply AW_ext)) ?_
    unfold sautoirlaw05_like_l0b
    simp -implicitDefEqProofs -dsimp only [go_sem, Nat.reduceEqDiff, Nat.reduceAdd, Nat.reduceMul, Nat.reduceSub, Nat.reduceLT, Nat.reduceLeDiff, Nat.reduceBEq, reduceIte, reduceCtorEq, Int.reduceLT, Int.reduceLE, Int.reduceEq, Int.reduceNeg, Int.reduceToNat, Int.reduceAdd, Int.reduceSub, ↓g_call _ _ c_disk_Disk_Read]
    refine CallK.as cR1 (aft_nil ?_)
    simp -implicitDefEqProofs -dsimp only [go_sem, Nat.reduceEqDiff, Nat.reduceAdd, Nat.reduceMul, Nat.reduceSub, Nat.reduceLT, Nat.reduceLeDiff, Nat.reduceBEq, reduceIte, reduceCtorEq, Int.reduceLT, Int.reduceLE, Int.reduceEq, Int.reduceNeg, Int.reduceToNat, Int.reduceAdd, Int.reduceSub, ↓g_call _ _ c_sautoirref05_Disk_Read]
    refine CallK.as cr1 (aft_nil ?_)
    simp -implicitDefEqProofs -dsimp only [go_sem, Nat.reduceEqDiff, Nat.reduceAdd, Nat.reduceMul, Nat.reduceSub, Nat.reduceLT, Nat.reduceLeDiff, Nat.reduceBEq, reduceIte, reduceCtorEq, Int.reduceLT, Int.reduceLE, Int.reduceEq, Int.reduceNeg, Int.reduceToNat, Int.reduceAdd, Int.reduceSub, decide_true, decide_false, byteCells_length, bytesAv_cells, hR0, show ((2 : Nat) : Int) = 2 from rfl, show (1 : Int).toNat = 1 from rfl, ↓g_gdc, ↓g_call _ _ c_disk_Disk_Sure]
    refine CallK.as cS1 (aft_rc (fun _ => ⟨?_, trivial⟩) ?_)
    · simp -implicitDefEqProofs -dsimp only [go_sem, Nat.reduceEqDiff, Nat.reduceAdd, Nat.reduceMul, Nat.reduceSub, Nat.reduceLT, Nat.reduceLeDiff, Nat.reduceBEq, reduceIte, reduceCtorEq, Int.reduceLT, Int.reduceLE, Int.reduceEq, Int.reduceNeg, Int.reduceToNat, Int.reduceAdd, Int.reduceSub, gvev, gdd, hR0]
    simp -implicitDefEqProofs -dsimp only [go_sem, Nat.reduceEqDiff, Nat.reduceAdd, Nat.reduceMul, Nat.reduceSub, Nat.reduceLT, Nat.reduceLeDiff, Nat.reduceBEq, reduceIte, reduceCtorEq, Int.reduceLT, Int.reduceLE, Int.reduceEq, Int.reduceNeg, Int.reduceToNat, Int.reduceAdd, Int.reduceSub, decide_true, decide_false, v2]
    refine AW_loopD (l := sautoirlaw05_like_l0) rfl (by repeat' (first | exact finX_ext _ _ | assumption | apply blkR_ext | apply thenR_ext | apply AW_ext)) ?_
    unfold sautoirlaw05_like_l0b
    simp -implicitDefEqProofs -dsimp only [go_sem, Nat.reduceEqDiff, Nat.reduceAdd, Nat.reduceMul, Nat.reduceSub, Nat.reduceLT, Nat.reduceLeDiff, Nat.reduceBEq, reduceIte, reduceCtorEq, Int.reduceLT, Int.reduceLE, Int.reduceEq, Int.reduceNeg, Int.reduceToNat, Int.reduceAdd, Int.reduceSub, hR0, ↓g_call _ _ c_disk_Disk_Lost]
    refine CallK.as cL (aft_rc (fun _ => ⟨?_, trivial⟩) ?_)
    · simp -implicitDefEqProofs -dsimp only [go_sem, Nat.reduceEqDiff, Nat.reduceAdd, Nat.reduceMul, Nat.reduceSub, Nat.reduceLT, Nat.reduceLeDiff, Nat.reduceBEq, reduceIte, reduceCtorEq, Int.reduceLT, Int.reduceLE, Int.reduceEq, Int.reduceNeg, Int.reduceToNat, Int.reduceAdd, Int.reduceSub, gvev, gdd, hR0]
    simp -implicitDefEqProofs -dsimp only [go_sem, Nat.reduceEqDiff, Nat.reduceAdd, Nat.reduceMul, Nat.reduceSub, Nat.reduceLT, Nat.reduceLeDiff, Nat.reduceBEq, reduceIte, reduceCtorEq, Int.reduceLT, Int.reduceLE, Int.reduceEq, Int.reduceNeg, Int.reduceToNat, Int.reduceAdd, Int.reduceSub, decide_true, ↓g_gdc, ↓g_call _ _ c_disk_Disk_Room]
    refine CallK.as cRo (aft_nil ?_)
    simp -implicitDefEqProofs -dsimp only [go_sem, Nat.reduceEqDiff, Nat.reduceAdd, Nat.reduceMul, Nat.reduceSub, Nat.reduceLT, Nat.reduceLeDiff, Nat.reduceBEq, reduceIte, reduceCtorEq, Int.reduceLT, Int.reduceLE, Int.reduceEq, Int.reduceNeg, Int.reduceToNat, Int.reduceAdd, Int.reduceSub, decide_true, ↓g_gdc, ↓g_call _ _ c_sautoirref05_Disk_Room]
    refine CallK.as cRr (aft_nil ?_)
    simp -implicitDefEqProofs -dsimp only [go_sem, Nat.reduceEqDiff, Nat.reduceAdd, Nat.reduceMul, Nat.reduceSub, Nat.reduceLT, Nat.reduceLeDiff, Nat.reduceBEq, reduceIte, reduceCtorEq, Int.reduceLT, Int.reduceLE, Int.reduceEq, Int.reduceNeg, Int.reduceToNat, Int.reduceAdd, Int.reduceSub, decide_true]
    exact fin_as (.refl _) rfl
  | false =>
    have e0 : d.read 0 = (.fz d.a0.b.length (byteCells d.a0.b) none, 0) := by rw [Dk.read, if_neg (by decide), if_neg (by simp [hl])]; rfl
    have e1 : d.read 1 = (.fz d.a1.b.length (byteCells d.a1.b) none, 0) := by rw [Dk.read, if_neg (by decide), if_neg (by simp [hl])]; rfl
    have q0 : d.rread 0 = (d.a0.b, 0) := by rw [Dk.rread, if_neg (by decide), if_neg (by simp [hl])]; rfl
    have q1 : d.rread 1 = (d.a1.b, 0) := by rw [Dk.rread, if_neg (by decide), if_neg (by simp [hl])]; rfl
    rw [e0] at cR0; rw [e1] at cR1; rw [q0] at cr0; rw [q1] at cr1
    refine AW_loopD (l := sautoirlaw05_like_l0) rfl (by repeat' (first | exact finX_ext _ _ | assumption | apply blkR_ext | apply thenR_ext | apply AW_ext)) ?_
    unfold sautoirlaw05_like_l0b
    simp -implicitDefEqProofs -dsimp only [go_sem, Nat.reduceEqDiff, Nat.reduceAdd, Nat.reduceMul, Nat.reduceSub, Nat.reduceLT, Nat.reduceLeDiff, Nat.reduceBEq, reduceIte, reduceCtorEq, Int.reduceLT, Int.reduceLE, Int.reduceEq, Int.reduceNeg, Int.reduceToNat, Int.reduceAdd, Int.reduceSub, ↓g_call _ _ c_disk_Disk_Read]
    refine CallK.as cR0 (aft_nil ?_)
    simp -implicitDefEqProofs -dsimp only [go_sem, Nat.reduceEqDiff, Nat.reduceAdd, Nat.reduceMul, Nat.reduceSub, Nat.reduceLT, Nat.reduceLeDiff, Nat.reduceBEq, reduceIte, reduceCtorEq, Int.reduceLT, Int.reduceLE, Int.reduceEq, Int.reduceNeg, Int.reduceToNat, Int.reduceAdd, Int.reduceSub, ↓g_call _ _ c_sautoirref05_Disk_Read]
    refine CallK.as cr0 (aft_nil ?_)
    simp -implicitDefEqProofs -dsimp only [go_sem, Nat.reduceEqDiff, Nat.reduceAdd, Nat.reduceMul, Nat.reduceSub, Nat.reduceLT, Nat.reduceLeDiff, Nat.reduceBEq, reduceIte, reduceCtorEq, Int.reduceLT, Int.reduceLE, Int.reduceEq, Int.reduceNeg, Int.reduceToNat, Int.reduceAdd, Int.reduceSub, decide_true, decide_false, byteCells_length, bytesAv_cells, hR0, show ((2 : Nat) : Int) = 2 from rfl, show (1 : Int).toNat = 1 from rfl, ↓g_gdc, ↓g_call _ _ c_disk_Disk_Sure]
    refine CallK.as cS0 (aft_rc (fun _ => ⟨?_, trivial⟩) ?_)
    · simp -implicitDefEqProofs -dsimp only [go_sem, Nat.reduceEqDiff, Nat.reduceAdd, Nat.reduceMul, Nat.reduceSub, Nat.reduceLT, Nat.reduceLeDiff, Nat.reduceBEq, reduceIte, reduceCtorEq, Int.reduceLT, Int.reduceLE, Int.reduceEq, Int.reduceNeg, Int.reduceToNat, Int.reduceAdd, Int.reduceSub, gvev, gdd, hR0]
    simp -implicitDefEqProofs -dsimp only [go_sem, Nat.reduceEqDiff, Nat.reduceAdd, Nat.reduceMul, Nat.reduceSub, Nat.reduceLT, Nat.reduceLeDiff, Nat.reduceBEq, reduceIte, reduceCtorEq, Int.reduceLT, Int.reduceLE, Int.reduceEq, Int.reduceNeg, Int.reduceToNat, Int.reduceAdd, Int.reduceSub, decide_true, decide_false, v1]
    refine AW_loopD (l := sautoirlaw05_like_l0) rfl (by repeat' (first | exact finX_ext _ _ | assumption | apply blkR_ext | apply thenR_ext | apply AW_ext)) ?_
    unfold sautoirlaw05_like_l0b
    simp -implicitDefEqProofs -dsimp only [go_sem, Nat.reduceEqDiff, Nat.reduceAdd, Nat.reduceMul, Nat.reduceSub, Nat.reduceLT, Nat.reduceLeDiff, Nat.reduceBEq, reduceIte, reduceCtorEq, Int.reduceLT, Int.reduceLE, Int.reduceEq, Int.reduceNeg, Int.reduceToNat, Int.reduceAdd, Int.reduceSub, ↓g_call _ _ c_disk_Disk_Read]
    refine CallK.as cR1 (aft_nil ?_)
    simp -implicitDefEqProofs -dsimp only [go_sem, Nat.reduceEqDiff, Nat.reduceAdd, Nat.reduceMul, Nat.reduceSub, Nat.reduceLT, Nat.reduceLeDiff, Nat.reduceBEq, reduceIte, reduceCtorEq, Int.reduceLT, Int.reduceLE, Int.reduceEq, Int.reduceNeg, Int.reduceToNat, Int.reduceAdd, Int.reduceSub, ↓g_call _ _ c_sautoirref05_Disk_Read]
    refine CallK.as cr1 (aft_nil ?_)
    simp -implicitDefEqProofs -dsimp only [go_sem, Nat.reduceEqDiff, Nat.reduceAdd, Nat.reduceMul, Nat.reduceSub, Nat.reduceLT, Nat.reduceLeDiff, Nat.reduceBEq, reduceIte, reduceCtorEq, Int.reduceLT, Int.reduceLE, Int.reduceEq, Int.reduceNeg, Int.reduceToNat, Int.reduceAdd, Int.reduceSub, decide_true, decide_false, byteCells_length, bytesAv_cells, hR0, show ((2 : Nat) : Int) = 2 from rfl, show (1 : Int).toNat = 1 from rfl, ↓g_gdc, ↓g_call _ _ c_disk_Disk_Sure]
    refine CallK.as cS1 (aft_rc (fun _ => ⟨?_, trivial⟩) ?_)
    · simp -implicitDefEqProofs -dsimp only [go_sem, Nat.reduceEqDiff, Nat.reduceAdd, Nat.reduceMul, Nat.reduceSub, Nat.reduceLT, Nat.reduceLeDiff, Nat.reduceBEq, reduceIte, reduceCtorEq, Int.reduceLT, Int.reduceLE, Int.reduceEq, Int.reduceNeg, Int.reduceToNat, Int.reduceAdd, Int.reduceSub, gvev, gdd, hR0]
    simp -implicitDefEqProofs -dsimp only [go_sem, Nat.reduceEqDiff, Nat.reduceAdd, Nat.reduceMul, Nat.reduceSub, Nat.reduceLT, Nat.reduceLeDiff, Nat.reduceBEq, reduceIte, reduceCtorEq, Int.reduceLT, Int.reduceLE, Int.reduceEq, Int.reduceNeg, Int.reduceToNat, Int.reduceAdd, Int.reduceSub, decide_true, decide_false, v2]
    refine AW_loopD (l := sautoirlaw05_like_l0) rfl (by repeat' (first | exact finX_ext _ _ | assumption | apply blkR_ext | apply thenR_ext | apply AW_ext)) ?_
    unfold sautoirlaw05_like_l0b
    simp -implicitDefEqProofs -dsimp only [go_sem, Nat.reduceEqDiff, Nat.reduceAdd, Nat.reduceMul, Nat.reduceSub, Nat.reduceLT, Nat.reduceLeDiff, Nat.reduceBEq, reduceIte, reduceCtorEq, Int.reduceLT, Int.reduceLE, Int.reduceEq, Int.reduceNeg, Int.reduceToNat, Int.reduceAdd, Int.reduceSub, hR0, ↓g_call _ _ c_disk_Disk_Lost]
    refine CallK.as cL (aft_rc (fun _ => ⟨?_, trivial⟩) ?_)
    · simp -implicitDefEqProofs -dsimp only [go_sem, Nat.reduceEqDiff, Nat.reduceAdd, Nat.reduceMul, Nat.reduceSub, Nat.reduceLT, Nat.reduceLeDiff, Nat.reduceBEq, reduceIte, reduceCtorEq, Int.reduceLT, Int.reduceLE, Int.reduceEq, Int.reduceNeg, Int.reduceToNat, Int.reduceAdd, Int.reduceSub, gvev, gdd, hR0]
    simp -implicitDefEqProofs -dsimp only [go_sem, Nat.reduceEqDiff, Nat.reduceAdd, Nat.reduceMul, Nat.reduceSub, Nat.reduceLT, Nat.reduceLeDiff, Nat.reduceBEq, reduceIte, reduceCtorEq, Int.reduceLT, Int.reduceLE, Int.reduceEq, Int.reduceNeg, Int.reduceToNat, Int.reduceAdd, Int.reduceSub, decide_true, ↓g_gdc, ↓g_call _ _ c_disk_Disk_Room]
    refine CallK.as cRo (aft_nil ?_)
    simp -implicitDefEqProofs -dsimp only [go_sem, Nat.reduceEqDiff, Nat.reduceAdd, Nat.reduceMul, Nat.reduceSub, Nat.reduceLT, Nat.reduceLeDiff, Nat.reduceBEq, reduceIte, reduceCtorEq, Int.reduceLT, Int.reduceLE, Int.reduceEq, Int.reduceNeg, Int.reduceToNat, Int.reduceAdd, Int.reduceSub, decide_true, ↓g_gdc, ↓g_call _ _ c_sautoirref05_Disk_Room]
    refine CallK.as cRr (aft_nil ?_)
    simp -implicitDefEqProofs -dsimp only [go_sem, Nat.reduceEqDiff, Nat.reduceAdd, Nat.reduceMul, Nat.reduceSub, Nat.reduceLT, Nat.reduceLeDiff, Nat.reduceBEq, reduceIte, reduceCtorEq, Int.reduceLT, Int.reduceLE, Int.reduceEq, Int.reduceNeg, Int.reduceToNat, Int.reduceAdd, Int.reduceSub, decide_true]
    exact fin_as (.refl _) rfl

/-- Calls, as cells. -/
def opsC (l : List Op) : List AV := l.flatMap Op.cells
theorem opsC_length (l : List Op) : (opsC l).length = l.length * 6 := by
  induction l with
  | nil => rfl
  | cons a l ih => simp [opsC, Op.cells] at ih ⊢; omega
theorem opsC_at {l : List Op} {k : Nat} {o : Op} (h : l[k]? = some o) : (opsC l).drop (k * 6) = .i .i64 o.kind :: .i .i64 o.area :: .s o.b :: .i .i64 o.n :: .i .u16 o.k0 :: .i .u16 o.k1 :: opsC (l.drop (k + 1)) := by
  induction l generalizing k with
  | nil => simp at h
  | cons a l ih =>
    cases k with
    | zero => simp at h; subst h; simp [opsC, Op.cells]
    | succ k =>
      simp at h
      have := ih h
      rw [show (k + 1) * 6 = k * 6 + 6 by omega]
      simpa [opsC, Op.cells] using this

theorem drop_lt {α : Type} {xs ys : List α} {y : α} {k : Nat} (hk : xs.drop k = y :: ys) : k < xs.length ∧ xs[k]? = some y ∧ xs.drop (k + 1) = ys := by
  refine ⟨?_, ?_, by rw [← List.drop_drop, hk]; rfl⟩
  · have : (xs.drop k).length = ys.length + 1 := by rw [hk]; rfl
    rw [List.length_drop] at this; omega
  · have : (xs.drop k)[0]? = some y := by rw [hk]; rfl
    simpa using this
theorem drop_nil {α : Type} {xs : List α} {k : Nat} (hk : xs.drop k = []) (hle : k ≤ xs.length) : xs.length = k := by have := List.drop_eq_nil_iff.1 hk; omega

theorem lp_Plays {R : RPost} (hR : ExtR R) {T : Tab} {id ir : Nat} (hne : id ≠ ir) {area : Int} {xs : List Op} {kx : Option Nat} (hl : Len xs.length) (hx : ∀ x ∈ xs, x.Ok)
    (hE : ∀ x L d, Inv d → aget x 2 = some (.i .i64 area) → aget x 7 = some (.ptr id 0) → aget x 8 = some (.ptr ir 0) → R (.exit 0) x L (tb T id ir d)) : ∀ (ys : List Op) (k : Nat), xs.drop k = ys → k ≤ xs.length →
    ∀ (d : Dk), Inv d →
    AW prog sautoirlaw05_DiskPlays_l0 R [(2, .i .i64 area), (7, .ptr id 0), (8, .ptr ir 0), (19, .fz xs.length (opsC xs) kx), (20, .i .i64 xs.length), (21, .i .i64 k)] [] (tb T id ir d) := by
  intro ys
  induction ys with
  | nil =>
    intro k hk hle d hb
    have hk' := drop_nil hk hle
    refine AW_loopD (l := sautoirlaw05_DiskPlays_l0) rfl hR ?_
    unfold sautoirlaw05_DiskPlays_l0b
    simp -implicitDefEqProofs -dsimp only [go_sem, Nat.reduceEqDiff, Nat.reduceAdd, Nat.reduceMul, Nat.reduceSub, Nat.reduceLT, Nat.reduceLeDiff, Nat.reduceBEq, reduceIte, reduceCtorEq, Int.reduceLT, Int.reduceLE, Int.reduceEq, Int.reduceNeg, Int.reduceToNat, Int.reduceAdd, Int.reduceSub, hk', Int.lt_irrefl]
    exact hE _ _ _ hb rfl rfl rfl
  | cons y ys ih =>
    intro k hk hle d hb
    obtain ⟨hlt, hy, hk'⟩ := drop_lt hk
    have hl' := hl
    unfold Len at hl
    have hat := opsC_at hy
    have hlen : k * 6 + 6 ≤ (opsC xs).length := by rw [opsC_length]; omega
    refine AW_loopD (l := sautoirlaw05_DiskPlays_l0) rfl hR ?_
    unfold sautoirlaw05_DiskPlays_l0b
    simp -implicitDefEqProofs -dsimp only [go_sem, Nat.reduceEqDiff, Nat.reduceAdd, Nat.reduceMul, Nat.reduceSub, Nat.reduceLT, Nat.reduceLeDiff, Nat.reduceBEq, reduceIte, reduceCtorEq, Int.reduceLT, Int.reduceLE, Int.reduceEq, Int.reduceNeg, Int.reduceToNat, Int.reduceAdd, Int.reduceSub, Int.ofNat_lt, hlt, Int.natCast_nonneg, Int.toNat_natCast, hat, Nat.zero_le, Nat.le_add_left, true_and, Nat.zero_lt_succ]
    refine br_split (fun h1 => ?_) (fun h1 => ?_)
    · simp -implicitDefEqProofs -dsimp only [go_sem, Nat.reduceEqDiff, Nat.reduceAdd, Nat.reduceMul, Nat.reduceSub, Nat.reduceLT, Nat.reduceLeDiff, Nat.reduceBEq, reduceIte, reduceCtorEq, Int.reduceLT, Int.reduceLE, Int.reduceEq, Int.reduceNeg, Int.reduceToNat, Int.reduceAdd, Int.reduceSub, h1]
      exact hE _ _ _ hb rfl rfl rfl
    · have cSt := ac_step (T := T) hne hb (hx y (List.mem_of_getElem? hy))
      simp only [Op.cells] at cSt
      simp -implicitDefEqProofs -dsimp only [go_sem, Nat.reduceEqDiff, Nat.reduceAdd, Nat.reduceMul, Nat.reduceSub, Nat.reduceLT, Nat.reduceLeDiff, Nat.reduceBEq, reduceIte, reduceCtorEq, Int.reduceLT, Int.reduceLE, Int.reduceEq, Int.reduceNeg, Int.reduceToNat, Int.reduceAdd, Int.reduceSub, h1, ↓g_call _ _ c_sautoirlaw05_step]
      refine CallK.of cSt (fun v T' h => ?_)
      obtain ⟨d', hd', rfl, rfl⟩ := h
      refine aft_nil ?_
      simp -implicitDefEqProofs -dsimp only [go_sem, Nat.reduceEqDiff, Nat.reduceAdd, Nat.reduceMul, Nat.reduceSub, Nat.reduceLT, Nat.reduceLeDiff, Nat.reduceBEq, reduceIte, reduceCtorEq, Int.reduceLT, Int.reduceLE, Int.reduceEq, Int.reduceNeg, Int.reduceToNat, Int.reduceAdd, Int.reduceSub, decide_true, decide_false, ↓g_gdc, ↓g_call _ _ c_sautoirlaw05_like]
      refine CallK.as (ac_like hd'.ok (tb_id hne d') (tb_ir d')) (aft_nil ?_)
      simp -implicitDefEqProofs -dsimp only [go_sem, Nat.reduceEqDiff, Nat.reduceAdd, Nat.reduceMul, Nat.reduceSub, Nat.reduceLT, Nat.reduceLeDiff, Nat.reduceBEq, reduceIte, reduceCtorEq, Int.reduceLT, Int.reduceLE, Int.reduceEq, Int.reduceNeg, Int.reduceToNat, Int.reduceAdd, Int.reduceSub, decide_true, decide_false]
      rw [wrap_succ (by omega)]
      exact ih (k + 1) hk' hlt d' hd'

theorem read_rread (d : Dk) (k : Int) : ∃ b c e, d.read k = (bts b c, e) ∧ d.rread k = (b, e) := by
  unfold Dk.read Dk.rread
  split
  · exact ⟨[], some 0, 1, rfl, rfl⟩
  · split
    · exact ⟨[], some 0, 12, rfl, rfl⟩
    · exact ⟨_, _, 0, rfl, rfl⟩

theorem pc_DiskPlays (r : Int) (xs : List Op) (kx : Option Nat) (hl : Len xs.length) (hx : ∀ x ∈ xs, x.Ok) (area : Int) :
    PCalls prog f_sautoirlaw05_DiskPlays [.i .i64 r, .fz xs.length (opsC xs) kx, .i .i64 area] (.b true) := by
  refine pcalls_of mixed t_sautoirlaw05_DiskPlays (by simp) fun T => ?_
  unfold s_sautoirlaw05_DiskPlays
  simp -implicitDefEqProofs -dsimp only [go_sem, Nat.reduceEqDiff, Nat.reduceAdd, Nat.reduceMul, Nat.reduceSub, Nat.reduceLT, Nat.reduceLeDiff, Nat.reduceBEq, reduceIte, reduceCtorEq, Int.reduceLT, Int.reduceLE, Int.reduceEq, Int.reduceNeg, Int.reduceToNat, Int.reduceAdd, Int.reduceSub, ↓g_call _ _ c_disk_New]
  refine CallK.of (ac_New r T) (fun v T0 h => ?_)
  obtain ⟨id, rfl, hid, rfl⟩ := h
  refine aft_nil ?_
  simp -implicitDefEqProofs -dsimp only [go_sem, Nat.reduceEqDiff, Nat.reduceAdd, Nat.reduceMul, Nat.reduceSub, Nat.reduceLT, Nat.reduceLeDiff, Nat.reduceBEq, reduceIte, reduceCtorEq, Int.reduceLT, Int.reduceLE, Int.reduceEq, Int.reduceNeg, Int.reduceToNat, Int.reduceAdd, Int.reduceSub, ↓g_call _ _ c_sautoirref05_New]
  refine CallK.of (ac_RNew r _) (fun v T0 h => ?_)
  obtain ⟨ir, rfl, hir, rfl⟩ := h
  refine aft_nil ?_
  obtain ⟨hne', hir'⟩ := Tab.unused_put hir
  have hne : id ≠ ir := Ne.symm hne'
  have htb : ∀ d : Dk, ∀ j, SlotLe (T j) ((tb T id ir d) j) := fun d j => by
    unfold tb
    by_cases e : j = ir
    · subst e; exact .inl hir'
    · rw [Tab.put_ne _ _ e]; exact kill_le hid j
  rw [show (T.put id (.row 8 (Dk.new r).cells)).put ir (.row 7 (Dk.new r).rcells) = tb T id ir (Dk.new r) from rfl]
  simp -implicitDefEqProofs -dsimp only [go_sem, Nat.reduceEqDiff, Nat.reduceAdd, Nat.reduceMul, Nat.reduceSub, Nat.reduceLT, Nat.reduceLeDiff, Nat.reduceBEq, reduceIte, reduceCtorEq, Int.reduceLT, Int.reduceLE, Int.reduceEq, Int.reduceNeg, Int.reduceToNat, Int.reduceAdd, Int.reduceSub]
  refine lp_Plays (by repeat' (first | exact finX_ext _ _ | assumption | apply blkR_ext | apply thenR_ext | apply AW_ext)) hne hl hx (fun x L d hd q2 q7 q8 => ?_) xs 0 rfl (by omega) (Dk.new r) (new_inv r)
  have cR := ac_Read hd.ok (tb_id (T := T) hne d) area
  have cr := ac_RRead (tb_ir (T := T) (id := id) (ir := ir) d) area
  simp -implicitDefEqProofs -dsimp only [go_sem, Nat.reduceEqDiff, Nat.reduceAdd, Nat.reduceMul, Nat.reduceSub, Nat.reduceLT, Nat.reduceLeDiff, Nat.reduceBEq, reduceIte, reduceCtorEq, Int.reduceLT, Int.reduceLE, Int.reduceEq, Int.reduceNeg, Int.reduceToNat, Int.reduceAdd, Int.reduceSub, q2, q7, q8, ↓g_call _ _ c_disk_Disk_Read]
  obtain ⟨b, c, e, e1, e2⟩ := read_rread d area
  rw [e1] at cR
  rw [e2] at cr
  unfold bts at cR
  refine CallK.as cR (aft_nil ?_)
  simp -implicitDefEqProofs -dsimp only [go_sem, Nat.reduceEqDiff, Nat.reduceAdd, Nat.reduceMul, Nat.reduceSub, Nat.reduceLT, Nat.reduceLeDiff, Nat.reduceBEq, reduceIte, reduceCtorEq, Int.reduceLT, Int.reduceLE, Int.reduceEq, Int.reduceNeg, Int.reduceToNat, Int.reduceAdd, Int.reduceSub, q2, q7, q8, ↓g_call _ _ c_sautoirref05_Disk_Read]
  refine CallK.as cr (aft_nil ?_)
  simp -implicitDefEqProofs -dsimp only [go_sem, Nat.reduceEqDiff, Nat.reduceAdd, Nat.reduceMul, Nat.reduceSub, Nat.reduceLT, Nat.reduceLeDiff, Nat.reduceBEq, reduceIte, reduceCtorEq, Int.reduceLT, Int.reduceLE, Int.reduceEq, Int.reduceNeg, Int.reduceToNat, Int.reduceAdd, Int.reduceSub, decide_true, decide_false, byteCells_length, bytesAv_cells, ↓g_gdc, ↓g_call _ _ c_sautoirlaw05_awake]
  refine CallK.pure pc_awake (aft_nil ?_)
  simp -implicitDefEqProofs -dsimp only [go_sem, Nat.reduceEqDiff, Nat.reduceAdd, Nat.reduceMul, Nat.reduceSub, Nat.reduceLT, Nat.reduceLeDiff, Nat.reduceBEq, reduceIte, reduceCtorEq, Int.reduceLT, Int.reduceLE, Int.reduceEq, Int.reduceNeg, Int.reduceToNat, Int.reduceAdd, Int.reduceSub]
  exact fin_kill (htb d)
end Go.Aw
