import Derived.Test.YtllfhndfbpkpnaaD05H
namespace Go.Aw
open Go
open Go.Proofs.Try (prog)
set_option linter.all false
set_option maxHeartbeats 4000000

structure Inv (d : Dk) : Prop where
  ok : d.Ok
  left : d.left ≤ 9223372036854775807

theorem get_ok {d : Dk} (h : d.Ok) (k : Int) : (d.get k).Ok := by unfold Dk.get; split; exact h.o0; exact h.o1
theorem set_inv {d d' : Dk} (h : Inv d) (hd' : d'.Ok) (hw : WrC d d') {k : Int} {a : Ar} (ha : a.Ok) (hs : (a.b.length : Int) ≤ d.free + (d.get k).b.length) : Inv (d'.set k a) := by
  obtain ⟨p1, p2, p3, p4, p5, p6⟩ := hd'
  have hl := h.left
  have hl' := hw.left
  have hr := hw.room
  have e0 := hw.a0
  have e1 := hw.a1
  have hfr : d.free = d.room - d.a0.b.length - d.a1.b.length := rfl
  unfold Dk.set
  unfold Dk.get at hs
  by_cases hk : k = 0
  · rw [if_pos hk] at hs ⊢
    refine ⟨⟨p1, p2, ?_, ha, p5, p6⟩, by simp only; omega⟩
    simp only [e1, hr]
    omega
  · rw [if_neg hk] at hs ⊢
    refine ⟨⟨p1, p2, ?_, p4, ha, p6⟩, by simp only; omega⟩
    simp only [e0, hr]
    omega
theorem Inv.wr {d d' : Dk} (h : Inv d) (hd' : d'.Ok) (hw : WrC d d') : Inv d' := ⟨hd', by have := hw.left; have := h.left; omega⟩

theorem append_inv {d : Dk} (h : Inv d) (k : Int) (b : List UInt8) : Inv (d.append k b).2 := by
  obtain ⟨d', hd', hw, hwr⟩ := write_cases d h.ok
  have hg := get_ok h.ok k
  unfold Dk.append
  split
  · exact h
  · split
    · exact h
    · have key : Inv (d'.set k ⟨(d.get k).b ++ b, none, (d.get k).su⟩) := by
        refine set_inv h hd' hw ⟨hg.s0, ?_⟩ ?_
        · have := hg.s1; simp only [List.length_append]; omega
        · simp only [List.length_append]; omega
      rcases hwr with e | e | e <;> rw [e] <;> simp only
      · rw [if_neg (by simp)]; exact h.wr hd' hw
      · rw [if_pos (by simp)]; exact key
      · rw [if_pos (by simp)]; exact key
theorem sync_inv {d : Dk} (h : Inv d) (k : Int) : Inv (d.sync k).2 := by
  obtain ⟨d', hd', hw, hwr⟩ := write_cases d h.ok
  have hg := get_ok h.ok k
  have hf := h.ok.fits
  have hfr : d.free = d.room - d.a0.b.length - d.a1.b.length := rfl
  unfold Dk.sync
  split
  · exact h
  · have key : Inv (d'.set k ⟨(d.get k).b, (d.get k).c, (d.get k).b.length⟩) := set_inv h hd' hw ⟨by simp only; omega, by simp only; omega⟩ (by simp only; omega)
    rcases hwr with e | e | e <;> rw [e] <;> simp only
    · rw [if_neg (by simp)]; exact h.wr hd' hw
    · rw [if_neg (by simp)]; exact h.wr hd' hw
    · rw [if_pos (by simp)]; exact key
theorem cut_inv {d : Dk} (h : Inv d) (k n : Int) : Inv (d.cut k n).2 := by
  obtain ⟨d', hd', hw, hwr⟩ := write_cases d h.ok
  have hg := get_ok h.ok k
  have hf := h.ok.fits
  have hfr : d.free = d.room - d.a0.b.length - d.a1.b.length := rfl
  unfold Dk.cut
  split
  · exact h
  · split
    · exact h
    · have key : Inv (d'.set k ⟨(d.get k).b.take n.toNat, none, n⟩) := by
        refine set_inv h hd' hw ⟨by simp only; omega, ?_⟩ ?_
        · simp only [List.length_take]; omega
        · simp only [List.length_take]; omega
      rcases hwr with e | e | e <;> rw [e] <;> simp only
      · rw [if_neg (by simp)]; exact h.wr hd' hw
      · rw [if_neg (by simp)]; exact h.wr hd' hw
      · rw [if_pos (by simp)]; exact key
theorem arm_inv {d : Dk} (h : Inv d) {n : Int} (hn : I64 n) : Inv (d.arm n) := by
  obtain ⟨⟨p1, p2, p3, p4, p5, p6⟩, h2⟩ := h
  unfold I64 at hn
  exact ⟨⟨p1, p2, p3, p4, p5, by simp only [Dk.arm]; omega⟩, by simp only [Dk.arm]; omega⟩
theorem crash_inv {d : Dk} (h : Inv d) {k0 k1 : Int} (h0 : 0 ≤ k0) (h1 : 0 ≤ k1) : Inv (d.crash k0 k1) := ⟨Dk.crash_ok h.ok h0 h1, by simp [Dk.crash]⟩
theorem new_inv (r : Int) : Inv (Dk.new r) := ⟨Dk.new_ok r, by simp [Dk.new]⟩

/-- Both disks, in a table. -/
def tb (T : Tab) (id ir : Nat) (d : Dk) : Tab := (T.put id (.row 8 d.cells)).put ir (.row 7 d.rcells)
section
variable {T : Tab} {id ir : Nat} (hne : id ≠ ir) (d d' : Dk)
theorem tb_ir : RAt (tb T id ir d) ir d := by unfold RAt tb; exact Tab.put_same ..
include hne
theorem tb_id : At (tb T id ir d) id d := by unfold At tb; rw [Tab.put_ne _ _ hne]; exact Tab.put_same ..
theorem tb_mid : RAt ((tb T id ir d).put id (.row 8 d'.cells)) ir d := by unfold RAt; rw [Tab.put_ne _ _ (Ne.symm hne)]; exact tb_ir d
theorem tb_next : ((tb T id ir d).put id (.row 8 d'.cells)).put ir (.row 7 d'.rcells) = tb T id ir d' := by
  unfold tb
  funext j
  simp only [Tab.put]
  by_cases h1 : j = ir
  · simp [h1]
  · by_cases h2 : j = id
    · subst h2; simp [h1]
    · simp [h1, h2]
theorem tb_keep : (tb T id ir d).put id (.row 8 d.cells) = tb T id ir d := Tab.put_self (tb_id hne d)
end

structure Op where
  kind : Int
  area : Int
  b : List UInt8
  n : Int
  k0 : Int
  k1 : Int
def Op.cells (o : Op) : List AV := [.i .i64 o.kind, .i .i64 o.area, .s o.b, .i .i64 o.n, .i .u16 o.k0, .i .u16 o.k1]
structure Op.Ok (o : Op) : Prop where
  n : I64 o.n
  k0 : 0 ≤ o.k0 ∧ o.k0 < 65536
  k1 : 0 ≤ o.k1 ∧ o.k1 < 65536

theorem ac_step {T : Tab} {id ir : Nat} (hne : id ≠ ir) {d : Dk} (h : Inv d) {o : Op} (ho : o.Ok) :
    ACalls prog f_sautoirlaw05_step [.ptr id 0, .ptr ir 0, .agg o.cells] (tb T id ir d) (fun v T' => ∃ d', Inv d' ∧ v = .b true ∧ T' = tb T id ir d') := by
  refine acalls_of mixed t_sautoirlaw05_step (by simp) ?_
  unfold s_sautoirlaw05_step
  have fin : ∀ (d' : Dk), Inv d' → finL (.b true) (fun v T' => ∃ d', Inv d' ∧ v = .b true ∧ T' = tb T id ir d') (tb T id ir d') := fun d' hi =>
    finL_of _ (fun _ => .inr (.inl rfl)) ⟨d', hi, rfl, rfl⟩
  have rest : ∀ (b : List UInt8), b.length ≤ 50 → True := fun _ _ => trivial
  have cA : ∀ b : List UInt8, b.length ≤ 50 → ACalls prog f_disk_Disk_Append [.ptr id 0, .i .i64 o.area, .fz b.length (byteCells b) none] (tb T id ir d) (fun v T' => v = .i .i64 (d.append o.area b).1 ∧ T' = (tb T id ir d).put id (.row 8 (d.append o.area b).2.cells)) := fun b hb =>
    ac_Append h.ok h.left (tb_id hne d) o.area b none (by omega)
  have cRA : ∀ b : List UInt8, ACalls prog f_sautoirref05_Disk_Append [.ptr ir 0, .i .i64 o.area, .s b] ((tb T id ir d).put id (.row 8 (d.append o.area b).2.cells)) (fun v T' => v = .i .i64 (d.append o.area b).1 ∧ T' = tb T id ir (d.append o.area b).2) := fun b => by
    have := ac_RAppend h.ok h.left (tb_mid (T := T) hne d (d.append o.area b).2) o.area b
    rw [tb_next hne] at this
    exact this
  have cS := ac_Sync h.ok h.left (tb_id (T := T) hne d) o.area
  have cRS := ac_RSync h.ok h.left (tb_mid (T := T) hne d (d.sync o.area).2) o.area
  rw [tb_next hne] at cRS
  have cC := ac_Cut h.ok h.left (tb_id (T := T) hne d) o.area o.n
  have cRC := ac_RCut h.ok h.left (tb_mid (T := T) hne d (d.cut o.area o.n).2) o.area o.n
  rw [tb_next hne] at cRC
  have cM := ac_Arm (tb_id (T := T) hne d) o.n
  have cRM := ac_RArm (tb_mid (T := T) hne d (d.arm o.n)) o.n
  rw [tb_next hne] at cRM
  have cK := ac_Crash h.ok (tb_id (T := T) hne d) o.k0 o.k1 ho.k0 ho.k1
  have cRK := ac_RCrash h.ok (tb_mid (T := T) hne d (d.crash o.k0 o.k1)) o.k0 o.k1 ho.k0 ho.k1
  rw [tb_next hne] at cRK
  simp -implicitDefEqProofs -dsimp only [go_sem, Nat.reduceEqDiff, Nat.reduceAdd, Nat.reduceMul, Nat.reduceSub, Nat.reduceLT, Nat.reduceLeDiff, Nat.reduceBEq, reduceIte, reduceCtorEq, Int.reduceLT, Int.reduceLE, Int.reduceEq, Int.reduceNeg, Int.reduceToNat, Int.reduceAdd, Int.reduceSub, Op.cells]
  have hcut : (o.b.take 50).length ≤ 50 := by rw [List.length_take]; omega
  refine br_split (fun h1 => ?_) (fun h1 => ?_)
  · have h50 : 50 ≤ o.b.length := by have := of_decide_eq_true h1; omega
    simp -implicitDefEqProofs -dsimp only [go_sem, Nat.reduceEqDiff, Nat.reduceAdd, Nat.reduceMul, Nat.reduceSub, Nat.reduceLT, Nat.reduceLeDiff, Nat.reduceBEq, reduceIte, reduceCtorEq, Int.reduceLT, Int.reduceLE, Int.reduceEq, Int.reduceNeg, Int.reduceToNat, Int.reduceAdd, Int.reduceSub, h1, h50, Nat.zero_le, true_and]
    refine br_split (fun h2 => ?_) (fun h2 => ?_)
    · simp -implicitDefEqProofs -dsimp only [go_sem, Nat.reduceEqDiff, Nat.reduceAdd, Nat.reduceMul, Nat.reduceSub, Nat.reduceLT, Nat.reduceLeDiff, Nat.reduceBEq, reduceIte, reduceCtorEq, Int.reduceLT, Int.reduceLE, Int.reduceEq, Int.reduceNeg, Int.reduceToNat, Int.reduceAdd, Int.reduceSub, h2, ↓g_call _ _ c_disk_Disk_Append]
      refine CallK.as (cA (o.b.take 50) hcut) (aft_nil ?_)
      simp -implicitDefEqProofs -dsimp only [go_sem, Nat.reduceEqDiff, Nat.reduceAdd, Nat.reduceMul, Nat.reduceSub, Nat.reduceLT, Nat.reduceLeDiff, Nat.reduceBEq, reduceIte, reduceCtorEq, Int.reduceLT, Int.reduceLE, Int.reduceEq, Int.reduceNeg, Int.reduceToNat, Int.reduceAdd, Int.reduceSub, ↓g_call _ _ c_sautoirref05_Disk_Append]
      refine CallK.as (cRA (o.b.take 50)) (aft_nil ?_)
      simp -implicitDefEqProofs -dsimp only [go_sem, Nat.reduceEqDiff, Nat.reduceAdd, Nat.reduceMul, Nat.reduceSub, Nat.reduceLT, Nat.reduceLeDiff, Nat.reduceBEq, reduceIte, reduceCtorEq, Int.reduceLT, Int.reduceLE, Int.reduceEq, Int.reduceNeg, Int.reduceToNat, Int.reduceAdd, Int.reduceSub]
      exact fin _ (append_inv h o.area (o.b.take 50))
    · simp -implicitDefEqProofs -dsimp only [go_sem, Nat.reduceEqDiff, Nat.reduceAdd, Nat.reduceMul, Nat.reduceSub, Nat.reduceLT, Nat.reduceLeDiff, Nat.reduceBEq, reduceIte, reduceCtorEq, Int.reduceLT, Int.reduceLE, Int.reduceEq, Int.reduceNeg, Int.reduceToNat, Int.reduceAdd, Int.reduceSub, h2]
      refine br_split (fun h3 => ?_) (fun h3 => ?_)
      · simp -implicitDefEqProofs -dsimp only [go_sem, Nat.reduceEqDiff, Nat.reduceAdd, Nat.reduceMul, Nat.reduceSub, Nat.reduceLT, Nat.reduceLeDiff, Nat.reduceBEq, reduceIte, reduceCtorEq, Int.reduceLT, Int.reduceLE, Int.reduceEq, Int.reduceNeg, Int.reduceToNat, Int.reduceAdd, Int.reduceSub, h3, ↓g_call _ _ c_disk_Disk_Append]
        refine CallK.as (cA (o.b.take 50) hcut) (aft_nil ?_)
        simp -implicitDefEqProofs -dsimp only [go_sem, Nat.reduceEqDiff, Nat.reduceAdd, Nat.reduceMul, Nat.reduceSub, Nat.reduceLT, Nat.reduceLeDiff, Nat.reduceBEq, reduceIte, reduceCtorEq, Int.reduceLT, Int.reduceLE, Int.reduceEq, Int.reduceNeg, Int.reduceToNat, Int.reduceAdd, Int.reduceSub, ↓g_call _ _ c_sautoirref05_Disk_Append]
        refine CallK.as (cRA (o.b.take 50)) (aft_nil ?_)
        simp -implicitDefEqProofs -dsimp only [go_sem, Nat.reduceEqDiff, Nat.reduceAdd, Nat.reduceMul, Nat.reduceSub, Nat.reduceLT, Nat.reduceLeDiff, Nat.reduceBEq, reduceIte, reduceCtorEq, Int.reduceLT, Int.reduceLE, Int.reduceEq, Int.reduceNeg, Int.reduceToNat, Int.reduceAdd, Int.reduceSub]
        exact fin _ (append_inv h o.area (o.b.take 50))
      · simp -implicitDefEqProofs -dsimp only [go_sem, Nat.reduceEqDiff, Nat.reduceAdd, Nat.reduceMul, Nat.reduceSub, Nat.reduceLT, Nat.reduceLeDiff, Nat.reduceBEq, reduceIte, reduceCtorEq, Int.reduceLT, Int.reduceLE, Int.reduceEq, Int.reduceNeg, Int.reduceToNat, Int.reduceAdd, Int.reduceSub, h3]
        refine br_split (fun h4 => ?_) (fun h4 => ?_)
        · simp -implicitDefEqProofs -dsimp only [go_sem, Nat.reduceEqDiff, Nat.reduceAdd, Nat.reduceMul, Nat.reduceSub, Nat.reduceLT, Nat.reduceLeDiff, Nat.reduceBEq, reduceIte, reduceCtorEq, Int.reduceLT, Int.reduceLE, Int.reduceEq, Int.reduceNeg, Int.reduceToNat, Int.reduceAdd, Int.reduceSub, h4, ↓g_call _ _ c_disk_Disk_Sync]
          refine CallK.as cS (aft_nil ?_)
          simp -implicitDefEqProofs -dsimp only [go_sem, Nat.reduceEqDiff, Nat.reduceAdd, Nat.reduceMul, Nat.reduceSub, Nat.reduceLT, Nat.reduceLeDiff, Nat.reduceBEq, reduceIte, reduceCtorEq, Int.reduceLT, Int.reduceLE, Int.reduceEq, Int.reduceNeg, Int.reduceToNat, Int.reduceAdd, Int.reduceSub, ↓g_call _ _ c_sautoirref05_Disk_Sync]
          refine CallK.as cRS (aft_nil ?_)
          simp -implicitDefEqProofs -dsimp only [go_sem, Nat.reduceEqDiff, Nat.reduceAdd, Nat.reduceMul, Nat.reduceSub, Nat.reduceLT, Nat.reduceLeDiff, Nat.reduceBEq, reduceIte, reduceCtorEq, Int.reduceLT, Int.reduceLE, Int.reduceEq, Int.reduceNeg, Int.reduceToNat, Int.reduceAdd, Int.reduceSub]
          exact fin _ (sync_inv h o.area)
        · simp -implicitDefEqProofs -dsimp only [go_sem, Nat.reduceEqDiff, Nat.reduceAdd, Nat.reduceMul, Nat.reduceSub, Nat.reduceLT, Nat.reduceLeDiff, Nat.reduceBEq, reduceIte, reduceCtorEq, Int.reduceLT, Int.reduceLE, Int.reduceEq, Int.reduceNeg, Int.reduceToNat, Int.reduceAdd, Int.reduceSub, h4]
          refine br_split (fun h5 => ?_) (fun h5 => ?_)
          · simp -implicitDefEqProofs -dsimp only [go_sem, Nat.reduceEqDiff, Nat.reduceAdd, Nat.reduceMul, Nat.reduceSub, Nat.reduceLT, Nat.reduceLeDiff, Nat.reduceBEq, reduceIte, reduceCtorEq, Int.reduceLT, Int.reduceLE, Int.reduceEq, Int.reduceNeg, Int.reduceToNat, Int.reduceAdd, Int.reduceSub, h5, ↓g_call _ _ c_disk_Disk_Cut]
            refine CallK.as cC (aft_nil ?_)
            simp -implicitDefEqProofs -dsimp only [go_sem, Nat.reduceEqDiff, Nat.reduceAdd, Nat.reduceMul, Nat.reduceSub, Nat.reduceLT, Nat.reduceLeDiff, Nat.reduceBEq, reduceIte, reduceCtorEq, Int.reduceLT, Int.reduceLE, Int.reduceEq, Int.reduceNeg, Int.reduceToNat, Int.reduceAdd, Int.reduceSub, ↓g_call _ _ c_sautoirref05_Disk_Cut]
            refine CallK.as cRC (aft_nil ?_)
            simp -implicitDefEqProofs -dsimp only [go_sem, Nat.reduceEqDiff, Nat.reduceAdd, Nat.reduceMul, Nat.reduceSub, Nat.reduceLT, Nat.reduceLeDiff, Nat.reduceBEq, reduceIte, reduceCtorEq, Int.reduceLT, Int.reduceLE, Int.reduceEq, Int.reduceNeg, Int.reduceToNat, Int.reduceAdd, Int.reduceSub]
            exact fin _ (cut_inv h o.area o.n)
          · simp -implicitDefEqProofs -dsimp only [go_sem, Nat.reduceEqDiff, Nat.reduceAdd, Nat.reduceMul, Nat.reduceSub, Nat.reduceLT, Nat.reduceLeDiff, Nat.reduceBEq, reduceIte, reduceCtorEq, Int.reduceLT, Int.reduceLE, Int.reduceEq, Int.reduceNeg, Int.reduceToNat, Int.reduceAdd, Int.reduceSub, h5]
            refine br_split (fun h6 => ?_) (fun h6 => ?_)
            · simp -implicitDefEqProofs -dsimp only [go_sem, Nat.reduceEqDiff, Nat.reduceAdd, Nat.reduceMul, Nat.reduceSub, Nat.reduceLT, Nat.reduceLeDiff, Nat.reduceBEq, reduceIte, reduceCtorEq, Int.reduceLT, Int.reduceLE, Int.reduceEq, Int.reduceNeg, Int.reduceToNat, Int.reduceAdd, Int.reduceSub, h6, ↓g_call _ _ c_disk_Disk_Arm]
              refine CallK.as cM (aft_nil ?_)
              simp -implicitDefEqProofs -dsimp only [go_sem, Nat.reduceEqDiff, Nat.reduceAdd, Nat.reduceMul, Nat.reduceSub, Nat.reduceLT, Nat.reduceLeDiff, Nat.reduceBEq, reduceIte, reduceCtorEq, Int.reduceLT, Int.reduceLE, Int.reduceEq, Int.reduceNeg, Int.reduceToNat, Int.reduceAdd, Int.reduceSub, ↓g_call _ _ c_sautoirref05_Disk_Arm]
              refine CallK.as cRM (aft_nil ?_)
              simp -implicitDefEqProofs -dsimp only [go_sem, Nat.reduceEqDiff, Nat.reduceAdd, Nat.reduceMul, Nat.reduceSub, Nat.reduceLT, Nat.reduceLeDiff, Nat.reduceBEq, reduceIte, reduceCtorEq, Int.reduceLT, Int.reduceLE, Int.reduceEq, Int.reduceNeg, Int.reduceToNat, Int.reduceAdd, Int.reduceSub]
              exact fin _ (arm_inv h ho.n)
            · simp -implicitDefEqProofs -dsimp only [go_sem, Nat.reduceEqDiff, Nat.reduceAdd, Nat.reduceMul, Nat.reduceSub, Nat.reduceLT, Nat.reduceLeDiff, Nat.reduceBEq, reduceIte, reduceCtorEq, Int.reduceLT, Int.reduceLE, Int.reduceEq, Int.reduceNeg, Int.reduceToNat, Int.reduceAdd, Int.reduceSub, h6]
              refine br_split (fun h7 => ?_) (fun h7 => ?_)
              · simp -implicitDefEqProofs -dsimp only [go_sem, Nat.reduceEqDiff, Nat.reduceAdd, Nat.reduceMul, Nat.reduceSub, Nat.reduceLT, Nat.reduceLeDiff, Nat.reduceBEq, reduceIte, reduceCtorEq, Int.reduceLT, Int.reduceLE, Int.reduceEq, Int.reduceNeg, Int.reduceToNat, Int.reduceAdd, Int.reduceSub, h7, ↓g_call _ _ c_disk_Disk_Crash]
                refine CallK.as cK (aft_nil ?_)
                simp -implicitDefEqProofs -dsimp only [go_sem, Nat.reduceEqDiff, Nat.reduceAdd, Nat.reduceMul, Nat.reduceSub, Nat.reduceLT, Nat.reduceLeDiff, Nat.reduceBEq, reduceIte, reduceCtorEq, Int.reduceLT, Int.reduceLE, Int.reduceEq, Int.reduceNeg, Int.reduceToNat, Int.reduceAdd, Int.reduceSub, ↓g_call _ _ c_sautoirref05_Disk_Crash]
                refine CallK.as cRK (aft_nil ?_)
                simp -implicitDefEqProofs -dsimp only [go_sem, Nat.reduceEqDiff, Nat.reduceAdd, Nat.reduceMul, Nat.reduceSub, Nat.reduceLT, Nat.reduceLeDiff, Nat.reduceBEq, reduceIte, reduceCtorEq, Int.reduceLT, Int.reduceLE, Int.reduceEq, Int.reduceNeg, Int.reduceToNat, Int.reduceAdd, Int.reduceSub]
                exact fin _ (crash_inv h ho.k0.1 ho.k1.1)
              · simp -implicitDefEqProofs -dsimp only [go_sem, Nat.reduceEqDiff, Nat.reduceAdd, Nat.reduceMul, Nat.reduceSub, Nat.reduceLT, Nat.reduceLeDiff, Nat.reduceBEq, reduceIte, reduceCtorEq, Int.reduceLT, Int.reduceLE, Int.reduceEq, Int.reduceNeg, Int.reduceToNat, Int.reduceAdd, Int.reduceSub, h7]
                exact fin _ h
  · have h50 : o.b.length ≤ 50 := by have := of_decide_eq_false h1; omega
    simp -implicitDefEqProofs -dsimp only [go_sem, Nat.reduceEqDiff, Nat.reduceAdd, Nat.reduceMul, Nat.reduceSub, Nat.reduceLT, Nat.reduceLeDiff, Nat.reduceBEq, reduceIte, reduceCtorEq, Int.reduceLT, Int.reduceLE, Int.reduceEq, Int.reduceNeg, Int.reduceToNat, Int.reduceAdd, Int.reduceSub, h1]
    refine br_split (fun h2 => ?_) (fun h2 => ?_)
    · simp -implicitDefEqProofs -dsimp only [go_sem, Nat.reduceEqDiff, Nat.reduceAdd, Nat.reduceMul, Nat.reduceSub, Nat.reduceLT, Nat.reduceLeDiff, Nat.reduceBEq, reduceIte, reduceCtorEq, Int.reduceLT, Int.reduceLE, Int.reduceEq, Int.reduceNeg, Int.reduceToNat, Int.reduceAdd, Int.reduceSub, h2, ↓g_call _ _ c_disk_Disk_Append]
      refine CallK.as (cA o.b h50) (aft_nil ?_)
      simp -implicitDefEqProofs -dsimp only [go_sem, Nat.reduceEqDiff, Nat.reduceAdd, Nat.reduceMul, Nat.reduceSub, Nat.reduceLT, Nat.reduceLeDiff, Nat.reduceBEq, reduceIte, reduceCtorEq, Int.reduceLT, Int.reduceLE, Int.reduceEq, Int.reduceNeg, Int.reduceToNat, Int.reduceAdd, Int.reduceSub, ↓g_call _ _ c_sautoirref05_Disk_Append]
      refine CallK.as (cRA o.b) (aft_nil ?_)
      simp -implicitDefEqProofs -dsimp only [go_sem, Nat.reduceEqDiff, Nat.reduceAdd, Nat.reduceMul, Nat.reduceSub, Nat.reduceLT, Nat.reduceLeDiff, Nat.reduceBEq, reduceIte, reduceCtorEq, Int.reduceLT, Int.reduceLE, Int.reduceEq, Int.reduceNeg, Int.reduceToNat, Int.reduceAdd, Int.reduceSub]
      exact fin _ (append_inv h o.area o.b)
    · simp -implicitDefEqProofs -dsimp only [go_sem, Nat.reduceEqDiff, Nat.reduceAdd, Nat.reduceMul, Nat.reduceSub, Nat.reduceLT, Nat.reduceLeDiff, Nat.reduceBEq, reduceIte, reduceCtorEq, Int.reduceLT, Int.reduceLE, Int.reduceEq, Int.reduceNeg, Int.reduceToNat, Int.reduceAdd, Int.reduceSub, h2]
      refine br_split (fun h3 => ?_) (fun h3 => ?_)
      · simp -implicitDefEqProofs -dsimp only [go_sem, Nat.reduceEqDiff, Nat.reduceAdd, Nat.reduceMul, Nat.reduceSub, Nat.reduceLT, Nat.reduceLeDiff, Nat.reduceBEq, reduceIte, reduceCtorEq, Int.reduceLT, Int.reduceLE, Int.reduceEq, Int.reduceNeg, Int.reduceToNat, Int.reduceAdd, Int.reduceSub, h3, ↓g_call _ _ c_disk_Disk_Append]
        refine CallK.as (cA o.b h50) (aft_nil ?_)
        simp -implicitDefEqProofs -dsimp only [go_sem, Nat.reduceEqDiff, Nat.reduceAdd, Nat.reduceMul, Nat.reduceSub, Nat.reduceLT, Nat.reduceLeDiff, Nat.reduceBEq, reduceIte, reduceCtorEq, Int.reduceLT, Int.reduceLE, Int.reduceEq, Int.reduceNeg, Int.reduceToNat, Int.reduceAdd, Int.reduceSub, ↓g_call _ _ c_sautoirref05_Disk_Append]
        refine CallK.as (cRA o.b) (aft_nil ?_)
        simp -implicitDefEqProofs -dsimp only [go_sem, Nat.reduceEqDiff, Nat.reduceAdd, Nat.reduceMul, Nat.reduceSub, Nat.reduceLT, Nat.reduceLeDiff, Nat.reduceBEq, reduceIte, reduceCtorEq, Int.reduceLT, Int.reduceLE, Int.reduceEq, Int.reduceNeg, Int.reduceToNat, Int.reduceAdd, Int.reduceSub]
        exact fin _ (append_inv h o.area o.b)
      · simp -implicitDefEqProofs -dsimp only [go_sem, Nat.reduceEqDiff, Nat.reduceAdd, Nat.reduceMul, Nat.reduceSub, Nat.reduceLT, Nat.reduceLeDiff, Nat.reduceBEq, reduceIte, reduceCtorEq, Int.reduceLT, Int.reduceLE, Int.reduceEq, Int.reduceNeg, Int.reduceToNat, Int.reduceAdd, Int.reduceSub, h3]
        refine br_split (fun h4 => ?_) (fun h4 => ?_)
        · simp -implicitDefEqProofs -dsimp only [go_sem, Nat.reduceEqDiff, Nat.reduceAdd, Nat.reduceMul, Nat.reduceSub, Nat.reduceLT, Nat.reduceLeDiff, Nat.reduceBEq, reduceIte, reduceCtorEq, Int.reduceLT, Int.reduceLE, Int.reduceEq, Int.reduceNeg, Int.reduceToNat, Int.reduceAdd, Int.reduceSub, h4, ↓g_call _ _ c_disk_Disk_Sync]
          refine CallK.as cS (aft_nil ?_)
          simp -implicitDefEqProofs -dsimp only [go_sem, Nat.reduceEqDiff, Nat.reduceAdd, Nat.reduceMul, Nat.reduceSub, Nat.reduceLT, Nat.reduceLeDiff, Nat.reduceBEq, reduceIte, reduceCtorEq, Int.reduceLT, Int.reduceLE, Int.reduceEq, Int.reduceNeg, Int.reduceToNat, Int.reduceAdd, Int.reduceSub, ↓g_call _ _ c_sautoirref05_Disk_Sync]
          refine CallK.as cRS (aft_nil ?_)
          simp -implicitDefEqProofs -dsimp only [go_sem, Nat.reduceEqDiff, Nat.reduceAdd, Nat.reduceMul, Nat.reduceSub, Nat.reduceLT, Nat.reduceLeDiff, Nat.reduceBEq, reduceIte, reduceCtorEq, Int.reduceLT, Int.reduceLE, Int.reduceEq, Int.reduceNeg, Int.reduceToNat, Int.reduceAdd, Int.reduceSub]
          exact fin _ (sync_inv h o.area)
        · simp -implicitDefEqProofs -dsimp only [go_sem, Nat.reduceEqDiff, Nat.reduceAdd, Nat.reduceMul, Nat.reduceSub, Nat.reduceLT, Nat.reduceLeDiff, Nat.reduceBEq, reduceIte, reduceCtorEq, Int.reduceLT, Int.reduceLE, Int.reduceEq, Int.reduceNeg, Int.reduceToNat, Int.reduceAdd, Int.reduceSub, h4]
          refine br_split (fun h5 => ?_) (fun h5 => ?_)
          · simp -implicitDefEqProofs -dsimp only [go_sem, Nat.reduceEqDiff, Nat.reduceAdd, Nat.reduceMul, Nat.reduceSub, Nat.reduceLT, Nat.reduceLeDiff, Nat.reduceBEq, reduceIte, reduceCtorEq, Int.reduceLT, Int.reduceLE, Int.reduceEq, Int.reduceNeg, Int.reduceToNat, Int.reduceAdd, Int.reduceSub, h5, ↓g_call _ _ c_disk_Disk_Cut]
            refine CallK.as cC (aft_nil ?_)
            simp -implicitDefEqProofs -dsimp only [go_sem, Nat.reduceEqDiff, Nat.reduceAdd, Nat.reduceMul, Nat.reduceSub, Nat.reduceLT, Nat.reduceLeDiff, Nat.reduceBEq, reduceIte, reduceCtorEq, Int.reduceLT, Int.reduceLE, Int.reduceEq, Int.reduceNeg, Int.reduceToNat, Int.reduceAdd, Int.reduceSub, ↓g_call _ _ c_sautoirref05_Disk_Cut]
            refine CallK.as cRC (aft_nil ?_)
            simp -implicitDefEqProofs -dsimp only [go_sem, Nat.reduceEqDiff, Nat.reduceAdd, Nat.reduceMul, Nat.reduceSub, Nat.reduceLT, Nat.reduceLeDiff, Nat.reduceBEq, reduceIte, reduceCtorEq, Int.reduceLT, Int.reduceLE, Int.reduceEq, Int.reduceNeg, Int.reduceToNat, Int.reduceAdd, Int.reduceSub]
            exact fin _ (cut_inv h o.area o.n)
          · simp -implicitDefEqProofs -dsimp only [go_sem, Nat.reduceEqDiff, Nat.reduceAdd, Nat.reduceMul, Nat.reduceSub, Nat.reduceLT, Nat.reduceLeDiff, Nat.reduceBEq, reduceIte, reduceCtorEq, Int.reduceLT, Int.reduceLE, Int.reduceEq, Int.reduceNeg, Int.reduceToNat, Int.reduceAdd, Int.reduceSub, h5]
            refine br_split (fun h6 => ?_) (fun h6 => ?_)
            · simp -implicitDefEqProofs -dsimp only [go_sem, Nat.reduceEqDiff, Nat.reduceAdd, Nat.reduceMul, Nat.reduceSub, Nat.reduceLT, Nat.reduceLeDiff, Nat.reduceBEq, reduceIte, reduceCtorEq, Int.reduceLT, Int.reduceLE, Int.reduceEq, Int.reduceNeg, Int.reduceToNat, Int.reduceAdd, Int.reduceSub, h6, ↓g_call _ _ c_disk_Disk_Arm]
              refine CallK.as cM (aft_nil ?_)
              simp -implicitDefEqProofs -dsimp only [go_sem, Nat.reduceEqDiff, Nat.reduceAdd, Nat.reduceMul, Nat.reduceSub, Nat.reduceLT, Nat.reduceLeDiff, Nat.reduceBEq, reduceIte, reduceCtorEq, Int.reduceLT, Int.reduceLE, Int.reduceEq, Int.reduceNeg, Int.reduceToNat, Int.reduceAdd, Int.reduceSub, ↓g_call _ _ c_sautoirref05_Disk_Arm]
              refine CallK.as cRM (aft_nil ?_)
              simp -implicitDefEqProofs -dsimp only [go_sem, Nat.reduceEqDiff, Nat.reduceAdd, Nat.reduceMul, Nat.reduceSub, Nat.reduceLT, Nat.reduceLeDiff, Nat.reduceBEq, reduceIte, reduceCtorEq, Int.reduceLT, Int.reduceLE, Int.reduceEq, Int.reduceNeg, Int.reduceToNat, Int.reduceAdd, Int.reduceSub]
              exact fin _ (arm_inv h ho.n)
            · simp -implicitDefEqProofs -dsimp only [go_sem, Nat.reduceEqDiff, Nat.reduceAdd, Nat.reduceMul, Nat.reduceSub, Nat.reduceLT, Nat.reduceLeDiff, Nat.reduceBEq, reduceIte, reduceCtorEq, Int.reduceLT, Int.reduceLE, Int.reduceEq, Int.reduceNeg, Int.reduceToNat, Int.reduceAdd, Int.reduceSub, h6]
              refine br_split (fun h7 => ?_) (fun h7 => ?_)
              · simp -implicitDefEqProofs -dsimp only [go_sem, Nat.reduceEqDiff, Nat.reduceAdd, Nat.reduceMul, Nat.reduceSub, Nat.reduceLT, Nat.reduceLeDiff, Nat.reduceBEq, reduceIte, reduceCtorEq, Int.reduceLT, Int.reduceLE, Int.reduceEq, Int.reduceNeg, Int.reduceToNat, Int.reduceAdd, Int.reduceSub, h7, ↓g_call _ _ c_disk_Disk_Crash]
                refine CallK.as cK (aft_nil ?_)
                simp -implicitDefEqProofs -dsimp only [go_sem, Nat.reduceEqDiff, Nat.reduceAdd, Nat.reduceMul, Nat.reduceSub, Nat.reduceLT, Nat.reduceLeDiff, Nat.reduceBEq, reduceIte, reduceCtorEq, Int.reduceLT, Int.reduceLE, Int.reduceEq, Int.reduceNeg, Int.reduceToNat, Int.reduceAdd, Int.reduceSub, ↓g_call _ _ c_sautoirref05_Disk_Crash]
                refine CallK.as cRK (aft_nil ?_)
                simp -implicitDefEqProofs -dsimp only [go_sem, Nat.reduceEqDiff, Nat.reduceAdd, Nat.reduceMul, Nat.reduceSub, Nat.reduceLT, Nat.reduceLeDiff, Nat.reduceBEq, reduceIte, reduceCtorEq, Int.reduceLT, Int.reduceLE, Int.reduceEq, Int.reduceNeg, Int.reduceToNat, Int.reduceAdd, Int.reduceSub]
                exact fin _ (crash_inv h ho.k0.1 ho.k1.1)
              · simp -implicitDefEqProofs -dsimp only [go_sem, Nat.reduceEqDiff, Nat.reduceAdd, Nat.reduceMul, Nat.reduceSub, Nat.reduceLT, Nat.reduceLeDiff, Nat.reduceBEq, reduceIte, reduceCtorEq, Int.reduceLT, Int.reduceLE, Int.reduceEq, Int.reduceNeg, Int.reduceToNat, Int.reduceAdd, Int.reduceSub, h7]
                exact fin _ h

end Go.Aw
