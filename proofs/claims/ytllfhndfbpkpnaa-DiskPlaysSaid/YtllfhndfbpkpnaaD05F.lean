import Derived.Test.YtllfhndfbpkpnaaD05E
namespace Go.Aw
open Go
open Go.Proofs.Try (prog)
set_option linter.all false
set_option maxHeartbeats 4000000

/-- Rows of bytes, as cells. -/
def rowsC (l : List (List UInt8 × Option Nat)) : List AV := l.flatMap fun r => [.fz r.1.length (byteCells r.1) r.2]
theorem rowsC_length (l : List (List UInt8 × Option Nat)) : (rowsC l).length = l.length := by induction l with
  | nil => rfl
  | cons a l ih => simp [rowsC] at ih ⊢; exact ih
theorem rowsC_at {l : List (List UInt8 × Option Nat)} {k : Nat} {m : List UInt8 × Option Nat} (h : l[k]? = some m) : ((rowsC l).drop k)[0]? = some (.fz m.1.length (byteCells m.1) m.2) := by
  induction l generalizing k with
  | nil => simp at h
  | cons a l ih =>
    cases k with
    | zero => simp at h; subst h; simp [rowsC]
    | succ k =>
      simp at h
      have := ih h
      simpa [rowsC] using this

theorem bytesAv_cells : ∀ l : List UInt8, bytesAv (byteCells l) = some l
  | [] => rfl
  | b :: l => by
    have ih := bytesAv_cells l
    simp only [byteCells] at ih
    simp only [byteCells, List.map_cons, bytesAv, byteAv, ih]
    simp

/-- What is known of the disk behind some appends. -/
structure Bd (d : Dk) (r : Int) (n : Nat) : Prop where
  ok : d.Ok
  room : d.room = r
  lost : d.lost = false
  armed : d.armed = false
  left : d.left = 0
  sum : d.a0.b.length + d.a1.b.length = n

theorem Bd.free {d : Dk} {r : Int} {n : Nat} (h : Bd d r n) : d.free = r - n := by
  have := h.sum
  simp only [Dk.free, h.room]
  omega
theorem Bd.append {d : Dk} {r : Int} {n : Nat} (h : Bd d r n) {k : Int} (hk : k = 0 ∨ k = 1) (b : List UInt8) :
    ((n : Int) + b.length ≤ r → (d.append k b).1 = 0 ∧ Bd (d.append k b).2 r (n + b.length)) ∧ (¬ (n : Int) + b.length ≤ r → d.append k b = (9, d)) := by
  have hv : ¬ isV k = 1 := by unfold isV; rcases hk with rfl | rfl <;> decide
  have hfr := h.free
  have hw : d.write = (0, false, d) := by simp [Dk.write, h.lost, h.armed]
  constructor
  · intro hle
    have e : d.append k b = (0, d.set k ⟨(d.get k).b ++ b, none, (d.get k).su⟩) := by
      rw [Dk.append, if_neg hv, if_neg (by rw [hfr]; omega), hw, if_pos (.inl rfl)]
    rw [e]
    refine ⟨rfl, ?_⟩
    obtain ⟨o1, o2, o3, o4, o5, o6⟩ := h
    obtain ⟨p1, p2, p3, p4, p5, p6⟩ := o1
    rcases hk with rfl | rfl
    · refine ⟨⟨p1, p2, ?_, ⟨p4.s0, ?_⟩, p5, p6⟩, o2, o3, o4, o5, ?_⟩
      · simp [Dk.set, Dk.get]; omega
      · have := p4.s1; simp [Dk.set, Dk.get]; omega
      · simp [Dk.set, Dk.get]; omega
    · refine ⟨⟨p1, p2, ?_, p4, ⟨p5.s0, ?_⟩, p6⟩, o2, o3, o4, o5, ?_⟩
      · simp [Dk.set, Dk.get]; omega
      · have := p5.s1; simp [Dk.set, Dk.get]; omega
      · simp [Dk.set, Dk.get]; omega
  · intro hle
    rw [Dk.append, if_neg hv, if_pos (by rw [hfr]; omega)]

theorem lp_Bounds {R : RPost} (hR : ExtR R) {T : Tab} {id : Nat} {r : Int} {xs : List (List UInt8 × Option Nat)} {kx : Option Nat} (hr : 0 ≤ r ∧ r < 256) (hl : Len xs.length) (hx : ∀ x ∈ xs, Len x.1.length)
    (hE : ∀ e L d, R (.exit 0) e L (T.put id (.row 8 d))) : ∀ (ys : List (List UInt8 × Option Nat)) (k : Nat), xs.drop k = ys → k ≤ xs.length →
    ∀ (d : Dk) (all : List UInt8), Bd d r all.length →
    AW prog sautoirlaw05_DiskBounds_l0 R [(0, .i .u8 r), (5, .ptr id 0), (6, .s all), (14, .fz xs.length (rowsC xs) kx), (15, .i .i64 xs.length), (16, .i .i64 k)] [] (T.put id (.row 8 d.cells)) := by
  intro ys
  induction ys with
  | nil =>
    intro k hk hle d all hb
    have hk' : xs.length = k := by have := List.drop_eq_nil_iff.1 hk; omega
    refine AW_loopD (l := sautoirlaw05_DiskBounds_l0) rfl hR ?_
    unfold sautoirlaw05_DiskBounds_l0b
    simp -implicitDefEqProofs -dsimp only [go_sem, Nat.reduceEqDiff, Nat.reduceAdd, Nat.reduceMul, Nat.reduceSub, Nat.reduceLT, Nat.reduceLeDiff, Nat.reduceBEq, reduceIte, reduceCtorEq, Int.reduceLT, Int.reduceLE, Int.reduceEq, Int.reduceNeg, Int.reduceToNat, Int.reduceAdd, Int.reduceSub, hk', Int.lt_irrefl]
    exact hE _ _ _
  | cons y ys ih =>
    intro k hk hle d all hb
    have hlt : k < xs.length := by
      have : (xs.drop k).length = ys.length + 1 := by rw [hk]; rfl
      rw [List.length_drop] at this; omega
    have hy : xs[k]? = some y := by
      have : (xs.drop k)[0]? = some y := by rw [hk]; rfl
      simpa using this
    have hk' : xs.drop (k + 1) = ys := by rw [← List.drop_drop, hk]; rfl
    have hyl : y.1.length < 9223372036854775808 := hx y (List.mem_of_getElem? hy)
    have hl' := hl
    unfold Len at hl
    have hat := rowsC_at hy
    refine AW_loopD (l := sautoirlaw05_DiskBounds_l0) rfl hR ?_
    unfold sautoirlaw05_DiskBounds_l0b
    simp -implicitDefEqProofs -dsimp only [go_sem, Nat.reduceEqDiff, Nat.reduceAdd, Nat.reduceMul, Nat.reduceSub, Nat.reduceLT, Nat.reduceLeDiff, Nat.reduceBEq, reduceIte, reduceCtorEq, Int.reduceLT, Int.reduceLE, Int.reduceEq, Int.reduceNeg, Int.reduceToNat, Int.reduceAdd, Int.reduceSub, Int.ofNat_lt, hlt, Int.natCast_nonneg, Int.toNat_natCast, hat]
    refine br_split (fun h1 => ?_) (fun h1 => ?_)
    · simp -implicitDefEqProofs -dsimp only [go_sem, Nat.reduceEqDiff, Nat.reduceAdd, Nat.reduceMul, Nat.reduceSub, Nat.reduceLT, Nat.reduceLeDiff, Nat.reduceBEq, reduceIte, reduceCtorEq, Int.reduceLT, Int.reduceLE, Int.reduceEq, Int.reduceNeg, Int.reduceToNat, Int.reduceAdd, Int.reduceSub, h1]
      exact hE _ _ _
    · have d1 := of_decide_eq_false h1
      simp -implicitDefEqProofs -dsimp only [go_sem, Nat.reduceEqDiff, Nat.reduceAdd, Nat.reduceMul, Nat.reduceSub, Nat.reduceLT, Nat.reduceLeDiff, Nat.reduceBEq, reduceIte, reduceCtorEq, Int.reduceLT, Int.reduceLE, Int.reduceEq, Int.reduceNeg, Int.reduceToNat, Int.reduceAdd, Int.reduceSub, h1]
      refine br_split (fun h2 => ?_) (fun h2 => ?_)
      · simp -implicitDefEqProofs -dsimp only [go_sem, Nat.reduceEqDiff, Nat.reduceAdd, Nat.reduceMul, Nat.reduceSub, Nat.reduceLT, Nat.reduceLeDiff, Nat.reduceBEq, reduceIte, reduceCtorEq, Int.reduceLT, Int.reduceLE, Int.reduceEq, Int.reduceNeg, Int.reduceToNat, Int.reduceAdd, Int.reduceSub, h2]
        exact hE _ _ _
      · have d2 := of_decide_eq_false h2
        have hk2 : (k : Int).tmod 2 = 0 ∨ (k : Int).tmod 2 = 1 := by
          have h3 := Int.tmod_nonneg 2 (show (0 : Int) ≤ k by omega)
          have h4 := Int.tmod_lt_of_pos (k : Int) (show (0 : Int) < 2 by omega)
          omega
        have hsum := hb.sum
        have hle0 : (all.length : Int) ≤ r := by
          have := hb.ok.fits
          have := hb.room
          omega
        have cAp := ac_Append (T := T.put id (.row 8 d.cells)) (id := id) hb.ok (by rw [hb.left]; decide) (Tab.put_same ..) ((k : Int).tmod 2) y.1 y.2 hyl
        rw [Tab.put_put] at cAp
        obtain ⟨b1, b2⟩ := hb.append hk2 y.1
        have w1 : IntKind.i64.wrap r = r := wrap_i64 (by unfold I64; omega)
        have w2 : IntKind.i64.wrap ((all.length : Int) + y.1.length) = (all.length : Int) + y.1.length := wrap_i64 (by unfold I64; omega)
        simp -implicitDefEqProofs -dsimp only [go_sem, Nat.reduceEqDiff, Nat.reduceAdd, Nat.reduceMul, Nat.reduceSub, Nat.reduceLT, Nat.reduceLeDiff, Nat.reduceBEq, reduceIte, reduceCtorEq, Int.reduceLT, Int.reduceLE, Int.reduceEq, Int.reduceNeg, Int.reduceToNat, Int.reduceAdd, Int.reduceSub, h2, ↓g_call _ _ c_disk_Disk_Append]
        refine CallK.as cAp (aft_nil ?_)
        by_cases hfit : (all.length : Int) + y.1.length ≤ r
        · obtain ⟨b3, b4⟩ := b1 hfit
          rw [b3]
          have cRm := ac_Room (T := T.put id (.row 8 (d.append ((k : Int).tmod 2) y.1).2.cells)) (id := id) b4.ok (Tab.put_same ..)
          rw [b4.free] at cRm
          have w3 : IntKind.i64.wrap (r - ((all.length + y.1.length : Nat) : Int)) = r - ((all.length + y.1.length : Nat) : Int) := wrap_i64 (by unfold I64; omega)
          have w4 : ((all ++ y.1).length : Nat) = all.length + y.1.length := by simp
          have w5 : all.length + y.1.length ≤ 9223372036854775807 := by omega
          simp -implicitDefEqProofs -dsimp only [go_sem, Nat.reduceEqDiff, Nat.reduceAdd, Nat.reduceMul, Nat.reduceSub, Nat.reduceLT, Nat.reduceLeDiff, Nat.reduceBEq, reduceIte, reduceCtorEq, Int.reduceLT, Int.reduceLE, Int.reduceEq, Int.reduceNeg, Int.reduceToNat, Int.reduceAdd, Int.reduceSub, w1, w2, w5, hfit, decide_true, decide_false, byteCells_length, bytesAv_cells, ↓g_call _ _ c_disk_Disk_Room]
          refine CallK.as cRm (aft_nil ?_)
          simp -implicitDefEqProofs -dsimp only [go_sem, Nat.reduceEqDiff, Nat.reduceAdd, Nat.reduceMul, Nat.reduceSub, Nat.reduceLT, Nat.reduceLeDiff, Nat.reduceBEq, reduceIte, reduceCtorEq, Int.reduceLT, Int.reduceLE, Int.reduceEq, Int.reduceNeg, Int.reduceToNat, Int.reduceAdd, Int.reduceSub, w1, w3, w4, decide_true, decide_false]
          rw [wrap_succ (by omega)]
          exact ih (k + 1) hk' hlt _ (all ++ y.1) (by rw [w4]; exact b4)
        · have b3 := b2 hfit
          rw [b3]
          have cRm := ac_Room (T := T.put id (.row 8 d.cells)) (id := id) hb.ok (Tab.put_same ..)
          rw [hb.free] at cRm
          have w3 : IntKind.i64.wrap (r - (all.length : Int)) = r - (all.length : Int) := wrap_i64 (by unfold I64; omega)
          simp -implicitDefEqProofs -dsimp only [go_sem, Nat.reduceEqDiff, Nat.reduceAdd, Nat.reduceMul, Nat.reduceSub, Nat.reduceLT, Nat.reduceLeDiff, Nat.reduceBEq, reduceIte, reduceCtorEq, Int.reduceLT, Int.reduceLE, Int.reduceEq, Int.reduceNeg, Int.reduceToNat, Int.reduceAdd, Int.reduceSub, w1, w2, hfit, decide_true, decide_false, ↓g_call _ _ c_disk_Disk_Room]
          refine CallK.as cRm (aft_nil ?_)
          simp -implicitDefEqProofs -dsimp only [go_sem, Nat.reduceEqDiff, Nat.reduceAdd, Nat.reduceMul, Nat.reduceSub, Nat.reduceLT, Nat.reduceLeDiff, Nat.reduceBEq, reduceIte, reduceCtorEq, Int.reduceLT, Int.reduceLE, Int.reduceEq, Int.reduceNeg, Int.reduceToNat, Int.reduceAdd, Int.reduceSub, w1, w3, decide_true, decide_false]
          rw [wrap_succ (by omega)]
          exact ih (k + 1) hk' hlt d all hb

theorem pc_DiskBounds (r : Int) (hr : 0 ≤ r ∧ r < 256) (xs : List (List UInt8 × Option Nat)) (kx : Option Nat) (hl : Len xs.length) (hx : ∀ x ∈ xs, Len x.1.length) :
    PCalls prog f_sautoirlaw05_DiskBounds [.i .u8 r, .fz xs.length (rowsC xs) kx] (.b true) := by
  refine pcalls_of mixed t_sautoirlaw05_DiskBounds (by simp) fun T => ?_
  unfold s_sautoirlaw05_DiskBounds
  have w1 : IntKind.i64.wrap r = r := wrap_i64 (by unfold I64; omega)
  simp -implicitDefEqProofs -dsimp only [go_sem, Nat.reduceEqDiff, Nat.reduceAdd, Nat.reduceMul, Nat.reduceSub, Nat.reduceLT, Nat.reduceLeDiff, Nat.reduceBEq, reduceIte, reduceCtorEq, Int.reduceLT, Int.reduceLE, Int.reduceEq, Int.reduceNeg, Int.reduceToNat, Int.reduceAdd, Int.reduceSub, w1, ↓g_call _ _ c_disk_New]
  refine CallK.of (ac_New r T) (fun v T0 h => ?_)
  obtain ⟨id, rfl, hid, rfl⟩ := h
  refine aft_nil ?_
  simp -implicitDefEqProofs -dsimp only [go_sem, Nat.reduceEqDiff, Nat.reduceAdd, Nat.reduceMul, Nat.reduceSub, Nat.reduceLT, Nat.reduceLeDiff, Nat.reduceBEq, reduceIte, reduceCtorEq, Int.reduceLT, Int.reduceLE, Int.reduceEq, Int.reduceNeg, Int.reduceToNat, Int.reduceAdd, Int.reduceSub]
  refine lp_Bounds (by repeat' (first | exact finX_ext _ _ | assumption | apply blkR_ext | apply thenR_ext | apply AW_ext)) hr hl hx (fun e L d => ?_) xs 0 rfl (by omega) (Dk.new r) [] ⟨Dk.new_ok r, ?_, rfl, rfl, rfl, rfl⟩
  · simp -implicitDefEqProofs -dsimp only [go_sem, Nat.reduceEqDiff, Nat.reduceAdd, Nat.reduceMul, Nat.reduceSub, Nat.reduceLT, Nat.reduceLeDiff, Nat.reduceBEq, reduceIte, reduceCtorEq, Int.reduceLT, Int.reduceLE, Int.reduceEq, Int.reduceNeg, Int.reduceToNat, Int.reduceAdd, Int.reduceSub, ↓g_call _ _ c_sautoirlaw05_awake]
    refine CallK.pure pc_awake (aft_nil ?_)
    simp -implicitDefEqProofs -dsimp only [go_sem, Nat.reduceEqDiff, Nat.reduceAdd, Nat.reduceMul, Nat.reduceSub, Nat.reduceLT, Nat.reduceLeDiff, Nat.reduceBEq, reduceIte, reduceCtorEq, Int.reduceLT, Int.reduceLE, Int.reduceEq, Int.reduceNeg, Int.reduceToNat, Int.reduceAdd, Int.reduceSub]
    exact fin_kill (kill_le hid)
  · simp only [Dk.new]; omega
end Go.Aw
