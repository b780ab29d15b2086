import Derived.Test.YtmkbdoamlmpaeaaDoorE12D
import Derived.Test.YtmkbdoamlmpaeaaDoorAwD
namespace Go.Aw
open Go
open Go.Proofs.Tryd (prog)
set_option linter.all false
set_option maxHeartbeats 4000000

theorem rID_len (s : RS) : (rID s).2.1.length ≤ s.1.length := Nat.le_trans (rMost_len _ _) (rMost_len _ _)
theorem rRd_len (s : RS) : (rRd s).2.1.length ≤ s.1.length := Nat.le_trans (rMost_len _ _) (rText_len _ _)
theorem rWt_len (s : RS) : (rWt s).2.1.length ≤ s.1.length := Nat.le_trans (rMost_len _ _) (Nat.le_trans (rText_len _ _) (rText_len _ _))
theorem ac_readID {T : Tab} {id : Nat} {s : RS} (h : T id = rdRow s) (hl : Len s.1.length) : ACalls prog f_entry_readID [.ptr id 0] T (fun v T' => v = .agg [.i .i64 (rID s).1.1, .i .u64 (rID s).1.2] ∧ T' = rT T id (rID s).2) := by
  refine acalls_of mixed t_entry_readID (by simp) ?_
  unfold s_entry_readID
  simp -implicitDefEqProofs -dsimp only [go_sem, Nat.reduceEqDiff, Nat.reduceAdd, Nat.reduceMul, Nat.reduceSub, Nat.reduceLT, Nat.reduceLeDiff, Nat.reduceBEq, reduceIte, reduceCtorEq, Int.reduceLT, Int.reduceLE, Int.reduceEq, Int.reduceNeg, Int.reduceToNat, Int.reduceAdd, Int.reduceSub, ↓g_call _ _ c_octet_Reader_Int]
  refine CallK.as (at_Int h 5 (by decide) hl) (aft_nil ?_)
  simp -implicitDefEqProofs -dsimp only [go_sem, Nat.reduceEqDiff, Nat.reduceAdd, Nat.reduceMul, Nat.reduceSub, Nat.reduceLT, Nat.reduceLeDiff, Nat.reduceBEq, reduceIte, reduceCtorEq, Int.reduceLT, Int.reduceLE, Int.reduceEq, Int.reduceNeg, Int.reduceToNat, Int.reduceAdd, Int.reduceSub, ↓g_call _ _ c_octet_Reader_N]
  refine CallK.as (at_N rT_row (len_le (rMost_len _ _) hl)) (aft_nil ?_)
  simp -implicitDefEqProofs -dsimp only [go_sem, Nat.reduceEqDiff, Nat.reduceAdd, Nat.reduceMul, Nat.reduceSub, Nat.reduceLT, Nat.reduceLeDiff, Nat.reduceBEq, reduceIte, reduceCtorEq, Int.reduceLT, Int.reduceLE, Int.reduceEq, Int.reduceNeg, Int.reduceToNat, Int.reduceAdd, Int.reduceSub]
  exact fin_as (.refl _) rT_rT

theorem lp_readTxn0 {R : RPost} (hR : ExtR R) {B : Tab} {id : Nat} {a b c v0 : AV} (ha : a.plain = true ∧ b.plain = true ∧ c.plain = true ∧ v0.plain = true) : ∀ (n : Nat) (s : RS) (os : List Rd) (v : AV) (T1 : Tab), n ≤ 8 → os.length + n ≤ 1000 → Len s.1.length →
    Own (rT B id s) 2 v os.length (os.flatMap rdC) T1 →
    (∀ v T1 m, Own (rT B id (rList rRd n s).2) 2 v (os ++ (rList rRd n s).1).length ((os ++ (rList rRd n s).1).flatMap rdC) T1 → R (.exit 0) [(0, .ptr id 0), (2, .lp 2 0), (4, .lp 4 0), (5, .i .i64 m), (23, .b false)] [(2, zTx), (4, [a, b, c, v, v0])] T1) →
    AW prog entry_readTxn_l0 R [(0, .ptr id 0), (2, .lp 2 0), (4, .lp 4 0), (5, .i .i64 n)] [(2, zTx), (4, [a, b, c, v, v0])] T1 := by
  obtain ⟨a1, a2, a3, a4⟩ := ha
  intro n
  induction n with
  | zero =>
    intro s os v T1 hn hos hl ho h2
    obtain ⟨p1, p2, p3, p4, p5, p6⟩ := ho.form
    refine AW_loop hR ?_
    unfold entry_readTxn_l0b
    simp -implicitDefEqProofs -dsimp only [go_sem, Nat.reduceEqDiff, Nat.reduceAdd, Nat.reduceMul, Nat.reduceSub, Nat.reduceLT, Nat.reduceLeDiff, Nat.reduceBEq, reduceIte, reduceCtorEq, Int.reduceLT, Int.reduceLE, Int.reduceEq, Int.reduceNeg, Int.reduceToNat, Int.reduceAdd, Int.reduceSub, show ((0 : Nat) : Int) = 0 from rfl, ↓g_gdc, rcOk, true_and, decide_false]
    exact h2 v T1 0 (by simpa [rList] using ho)
  | succ n ih =>
    intro s os v T1 hn hos hl ho h2
    obtain ⟨p1, p2, p3, p4, p5, p6⟩ := ho.form
    have hpos : decide ((0 : Int) < ((n + 1 : Nat) : Int)) = true := decide_eq_true (by omega)
    refine AW_loopD (l := entry_readTxn_l0) rfl hR ?_
    unfold entry_readTxn_l0b
    simp -implicitDefEqProofs -dsimp only [go_sem, Nat.reduceEqDiff, Nat.reduceAdd, Nat.reduceMul, Nat.reduceSub, Nat.reduceLT, Nat.reduceLeDiff, Nat.reduceBEq, reduceIte, reduceCtorEq, Int.reduceLT, Int.reduceLE, Int.reduceEq, Int.reduceNeg, Int.reduceToNat, Int.reduceAdd, Int.reduceSub, hpos, ↓g_gdc, rcOk, true_and, ↓g_call _ _ c_octet_Reader_Bad]
    refine CallK.as (at_Bad ho.rdAt) (aft_nil ?_)
    rcases hb : s.2 with _ | _
    case true =>
      have e : rList rRd (n + 1) s = ([], s) := by simp [rList, hb]
      rw [e] at h2
      simp -implicitDefEqProofs -dsimp only [go_sem, Nat.reduceEqDiff, Nat.reduceAdd, Nat.reduceMul, Nat.reduceSub, Nat.reduceLT, Nat.reduceLeDiff, Nat.reduceBEq, reduceIte, reduceCtorEq, Int.reduceLT, Int.reduceLE, Int.reduceEq, Int.reduceNeg, Int.reduceToNat, Int.reduceAdd, Int.reduceSub, hb]
      exact h2 v T1 _ (by simpa using ho)
    have e : rList rRd (n + 1) s = ((rRd s).1 :: (rList rRd n (rRd s).2).1, (rList rRd n (rRd s).2).2) := by simp [rList, hb]
    rw [e] at h2
    have ho1 := ho.rd (rText 32 s).2
    have ho2 := ho1.rd (rRd s).2
    have l1 := len_le (rText_len 32 s) hl
    simp -implicitDefEqProofs -dsimp only [go_sem, Nat.reduceEqDiff, Nat.reduceAdd, Nat.reduceMul, Nat.reduceSub, Nat.reduceLT, Nat.reduceLeDiff, Nat.reduceBEq, reduceIte, reduceCtorEq, Int.reduceLT, Int.reduceLE, Int.reduceEq, Int.reduceNeg, Int.reduceToNat, Int.reduceAdd, Int.reduceSub, hb, p1, p2, p3, p4, p5, p6, ↓g_call _ _ c_octet_Reader_Text]
    refine CallK.as (at_Text ho.rdAt 32 (by decide) hl) (aft_nil ?_)
    simp -implicitDefEqProofs -dsimp only [go_sem, Nat.reduceEqDiff, Nat.reduceAdd, Nat.reduceMul, Nat.reduceSub, Nat.reduceLT, Nat.reduceLeDiff, Nat.reduceBEq, reduceIte, reduceCtorEq, Int.reduceLT, Int.reduceLE, Int.reduceEq, Int.reduceNeg, Int.reduceToNat, Int.reduceAdd, Int.reduceSub, p1, p2, p3, p4, p5, p6, ↓g_call _ _ c_octet_Reader_N]
    refine CallK.as (at_N ho1.rdAt l1) (aft_nil ?_)
    simp -implicitDefEqProofs -dsimp only [go_sem, Nat.reduceEqDiff, Nat.reduceAdd, Nat.reduceMul, Nat.reduceSub, Nat.reduceLT, Nat.reduceLeDiff, Nat.reduceBEq, reduceIte, reduceCtorEq, Int.reduceLT, Int.reduceLE, Int.reduceEq, Int.reduceNeg, Int.reduceToNat, Int.reduceAdd, Int.reduceSub, p1, p2, p3, p4, p5, p6, a1, a2, a3, a4]
    refine ho2.app (m := 1) (news := rdC (rRd s).1) rfl rfl (by omega) (by omega) fun v2 T2 ho => aft_nil ?_
    obtain ⟨p1, p2, p3, p4, p5, p6⟩ := ho.form
    simp -implicitDefEqProofs -dsimp only [go_sem, Nat.reduceEqDiff, Nat.reduceAdd, Nat.reduceMul, Nat.reduceSub, Nat.reduceLT, Nat.reduceLeDiff, Nat.reduceBEq, reduceIte, reduceCtorEq, Int.reduceLT, Int.reduceLE, Int.reduceEq, Int.reduceNeg, Int.reduceToNat, Int.reduceAdd, Int.reduceSub, p1, p2, p3, p4, p5, p6, a1, a2, a3, a4]
    rw [wrap_pred (by omega)]
    refine ih (rRd s).2 (os ++ [(rRd s).1]) v2 T2 (by omega) (by simp; omega) (len_le (rRd_len s) hl) (by simpa using ho) fun v T1 m ho => h2 v T1 m ?_
    simpa only [List.append_assoc, List.cons_append, List.nil_append] using ho

theorem lp_readTxn1 {R : RPost} (hR : ExtR R) {B : Tab} {id : Nat} {a b c v0 : AV} (ha : a.plain = true ∧ b.plain = true ∧ c.plain = true ∧ v0.plain = true) : ∀ (n : Nat) (s : RS) (os : List Wt) (v : AV) (T1 : Tab), n ≤ 8 → os.length + n ≤ 1000 → Len s.1.length →
    Own (rT B id s) 3 v os.length (os.flatMap wtC) T1 →
    (∀ v T1 m, Own (rT B id (rList rWt n s).2) 3 v (os ++ (rList rWt n s).1).length ((os ++ (rList rWt n s).1).flatMap wtC) T1 → R (.exit 2) [(0, .ptr id 0), (2, .lp 2 0), (4, .lp 4 0), (7, .i .i64 m), (46, .b false)] [(2, zTx), (4, [a, b, c, v0, v])] T1) →
    AW prog entry_readTxn_l1 R [(0, .ptr id 0), (2, .lp 2 0), (4, .lp 4 0), (7, .i .i64 n)] [(2, zTx), (4, [a, b, c, v0, v])] T1 := by
  obtain ⟨a1, a2, a3, a4⟩ := ha
  intro n
  induction n with
  | zero =>
    intro s os v T1 hn hos hl ho h2
    obtain ⟨p1, p2, p3, p4, p5, p6⟩ := ho.form
    refine AW_loop hR ?_
    unfold entry_readTxn_l1b
    simp -implicitDefEqProofs -dsimp only [go_sem, Nat.reduceEqDiff, Nat.reduceAdd, Nat.reduceMul, Nat.reduceSub, Nat.reduceLT, Nat.reduceLeDiff, Nat.reduceBEq, reduceIte, reduceCtorEq, Int.reduceLT, Int.reduceLE, Int.reduceEq, Int.reduceNeg, Int.reduceToNat, Int.reduceAdd, Int.reduceSub, show ((0 : Nat) : Int) = 0 from rfl, ↓g_gdc, rcOk, true_and, decide_false]
    exact h2 v T1 0 (by simpa [rList] using ho)
  | succ n ih =>
    intro s os v T1 hn hos hl ho h2
    obtain ⟨p1, p2, p3, p4, p5, p6⟩ := ho.form
    have hpos : decide ((0 : Int) < ((n + 1 : Nat) : Int)) = true := decide_eq_true (by omega)
    refine AW_loopD (l := entry_readTxn_l1) rfl hR ?_
    unfold entry_readTxn_l1b
    simp -implicitDefEqProofs -dsimp only [go_sem, Nat.reduceEqDiff, Nat.reduceAdd, Nat.reduceMul, Nat.reduceSub, Nat.reduceLT, Nat.reduceLeDiff, Nat.reduceBEq, reduceIte, reduceCtorEq, Int.reduceLT, Int.reduceLE, Int.reduceEq, Int.reduceNeg, Int.reduceToNat, Int.reduceAdd, Int.reduceSub, hpos, ↓g_gdc, rcOk, true_and, ↓g_call _ _ c_octet_Reader_Bad]
    refine CallK.as (at_Bad ho.rdAt) (aft_nil ?_)
    rcases hb : s.2 with _ | _
    case true =>
      have e : rList rWt (n + 1) s = ([], s) := by simp [rList, hb]
      rw [e] at h2
      simp -implicitDefEqProofs -dsimp only [go_sem, Nat.reduceEqDiff, Nat.reduceAdd, Nat.reduceMul, Nat.reduceSub, Nat.reduceLT, Nat.reduceLeDiff, Nat.reduceBEq, reduceIte, reduceCtorEq, Int.reduceLT, Int.reduceLE, Int.reduceEq, Int.reduceNeg, Int.reduceToNat, Int.reduceAdd, Int.reduceSub, hb]
      exact h2 v T1 _ (by simpa using ho)
    have e : rList rWt (n + 1) s = ((rWt s).1 :: (rList rWt n (rWt s).2).1, (rList rWt n (rWt s).2).2) := by simp [rList, hb]
    rw [e] at h2
    have ho1 := ho.rd (rText 32 s).2
    have ho2 := ho1.rd (rText 64 (rText 32 s).2).2
    have ho3 := ho2.rd (rWt s).2
    have l1 := len_le (rText_len 32 s) hl
    have l2 := len_le (rText_len 64 _) l1
    simp -implicitDefEqProofs -dsimp only [go_sem, Nat.reduceEqDiff, Nat.reduceAdd, Nat.reduceMul, Nat.reduceSub, Nat.reduceLT, Nat.reduceLeDiff, Nat.reduceBEq, reduceIte, reduceCtorEq, Int.reduceLT, Int.reduceLE, Int.reduceEq, Int.reduceNeg, Int.reduceToNat, Int.reduceAdd, Int.reduceSub, hb, p1, p2, p3, p4, p5, p6, ↓g_call _ _ c_octet_Reader_Text]
    refine CallK.as (at_Text ho.rdAt 32 (by decide) hl) (aft_nil ?_)
    simp -implicitDefEqProofs -dsimp only [go_sem, Nat.reduceEqDiff, Nat.reduceAdd, Nat.reduceMul, Nat.reduceSub, Nat.reduceLT, Nat.reduceLeDiff, Nat.reduceBEq, reduceIte, reduceCtorEq, Int.reduceLT, Int.reduceLE, Int.reduceEq, Int.reduceNeg, Int.reduceToNat, Int.reduceAdd, Int.reduceSub, p1, p2, p3, p4, p5, p6, ↓g_call _ _ c_octet_Reader_Text]
    refine CallK.as (at_Text ho1.rdAt 64 (by decide) l1) (aft_nil ?_)
    simp -implicitDefEqProofs -dsimp only [go_sem, Nat.reduceEqDiff, Nat.reduceAdd, Nat.reduceMul, Nat.reduceSub, Nat.reduceLT, Nat.reduceLeDiff, Nat.reduceBEq, reduceIte, reduceCtorEq, Int.reduceLT, Int.reduceLE, Int.reduceEq, Int.reduceNeg, Int.reduceToNat, Int.reduceAdd, Int.reduceSub, p1, p2, p3, p4, p5, p6, ↓g_call _ _ c_octet_Reader_Flag]
    refine CallK.as (at_Flag ho2.rdAt l2) (aft_nil ?_)
    simp -implicitDefEqProofs -dsimp only [go_sem, Nat.reduceEqDiff, Nat.reduceAdd, Nat.reduceMul, Nat.reduceSub, Nat.reduceLT, Nat.reduceLeDiff, Nat.reduceBEq, reduceIte, reduceCtorEq, Int.reduceLT, Int.reduceLE, Int.reduceEq, Int.reduceNeg, Int.reduceToNat, Int.reduceAdd, Int.reduceSub, p1, p2, p3, p4, p5, p6, a1, a2, a3, a4]
    refine ho3.app (m := 1) (news := wtC (rWt s).1) rfl rfl (by omega) (by omega) fun v2 T2 ho => aft_nil ?_
    obtain ⟨p1, p2, p3, p4, p5, p6⟩ := ho.form
    simp -implicitDefEqProofs -dsimp only [go_sem, Nat.reduceEqDiff, Nat.reduceAdd, Nat.reduceMul, Nat.reduceSub, Nat.reduceLT, Nat.reduceLeDiff, Nat.reduceBEq, reduceIte, reduceCtorEq, Int.reduceLT, Int.reduceLE, Int.reduceEq, Int.reduceNeg, Int.reduceToNat, Int.reduceAdd, Int.reduceSub, p1, p2, p3, p4, p5, p6, a1, a2, a3, a4]
    rw [wrap_pred (by omega)]
    refine ih (rWt s).2 (os ++ [(rWt s).1]) v2 T2 (by omega) (by simp; omega) (len_le (rWt_len s) hl) (by simpa using ho) fun v T1 m ho => h2 v T1 m ?_
    simpa only [List.append_assoc, List.cons_append, List.nil_append] using ho

theorem rText_key (s : RS) : (rText 32 s).1.length ≤ 32 := rText_le 32 s
theorem rTx_fine (s : RS) : (rTx s).1.Fine := by
  refine ⟨?_, ?_, ?_, ?_, ?_⟩
  · have h1 := rList_le (f := rRd) (rMost 8 (rMost 1 (rID s).2).2).1 (rMost 8 (rMost 1 (rID s).2).2).2
    have h2 := rMost_le 8 (rMost 1 (rID s).2).2
    show (rList rRd _ _).1.length < _; omega
  · have h1 := rList_le (f := rWt) (rMost 8 (rList rRd (rMost 8 (rMost 1 (rID s).2).2).1 (rMost 8 (rMost 1 (rID s).2).2).2).2).1 (rMost 8 (rList rRd (rMost 8 (rMost 1 (rID s).2).2).1 (rMost 8 (rMost 1 (rID s).2).2).2).2).2
    have h2 := rMost_le 8 (rList rRd (rMost 8 (rMost 1 (rID s).2).2).1 (rMost 8 (rMost 1 (rID s).2).2).2).2
    show (rList rWt _ _).1.length < _; omega
  · exact rList_all (p := fun r : Rd => Len r.k.length) (fun s => by have := rText_key s; show Len (rText 32 s).1.length; unfold Len; omega) _ _
  · exact rList_all (p := fun r : Wt => Len r.k.length) (fun s => by have := rText_key s; show Len (rText 32 s).1.length; unfold Len; omega) _ _
  · exact rList_all (p := fun r : Wt => Len r.v.length) (fun s => by have := rText_le 64 (rText 32 s).2; show Len (rText 64 (rText 32 s).2).1.length; unfold Len; omega) _ _

def zeroTx : Tx := ⟨0, 0, false, [], []⟩
/-- What reading a transaction answers. -/
def rTxOk (s : RS) : Bool := !(rTx s).2.2 && txOk (rTx s).1
def rTxAns (s : RS) : Tx × AV := if rTxOk s = true then ((rTx s).1, .nilifc) else (zeroTx, fault [116, 120, 110] (errno 3))

theorem ac_readTxn {T : Tab} {id : Nat} {s : RS} (h : T id = rdRow s) (hl : Len s.1.length) : ACalls prog f_entry_readTxn [.ptr id 0] T (fun v T' => v = .tup [.agg ((rTxAns s).1.cells none none), (rTxAns s).2] ∧ T' = rT T id (rTx s).2) := by
  refine acalls_of mixed t_entry_readTxn (by simp) ?_
  have l1 := len_le (rID_len s) hl
  have l2 := len_le (rMost_len 1 _) l1
  have l3 := len_le (rMost_len 8 _) l2
  have l4 := len_le (rList_len rRd_len (rMost 8 (rMost 1 (rID s).2).2).1 _) l3
  have l5 := len_le (rMost_len 8 _) l4
  have b1 := rMost_le 8 (rMost 1 (rID s).2).2
  have b2 := rMost_le 8 (rList rRd (rMost 8 (rMost 1 (rID s).2).2).1 (rMost 8 (rMost 1 (rID s).2).2).2).2
  have hf := rTx_fine s
  unfold s_entry_readTxn
  simp -implicitDefEqProofs -dsimp only [go_sem, Nat.reduceEqDiff, Nat.reduceAdd, Nat.reduceMul, Nat.reduceSub, Nat.reduceLT, Nat.reduceLeDiff, Nat.reduceBEq, reduceIte, reduceCtorEq, Int.reduceLT, Int.reduceLE, Int.reduceEq, Int.reduceNeg, Int.reduceToNat, Int.reduceAdd, Int.reduceSub, ↓g_call _ _ c_entry_readID]
  refine CallK.as (ac_readID h hl) (aft_nil ?_)
  simp -implicitDefEqProofs -dsimp only [go_sem, Nat.reduceEqDiff, Nat.reduceAdd, Nat.reduceMul, Nat.reduceSub, Nat.reduceLT, Nat.reduceLeDiff, Nat.reduceBEq, reduceIte, reduceCtorEq, Int.reduceLT, Int.reduceLE, Int.reduceEq, Int.reduceNeg, Int.reduceToNat, Int.reduceAdd, Int.reduceSub, ↓g_call _ _ c_octet_Reader_Flag]
  refine CallK.as (at_Flag rT_row l1) (aft_nil ?_)
  simp -implicitDefEqProofs -dsimp only [go_sem, Nat.reduceEqDiff, Nat.reduceAdd, Nat.reduceMul, Nat.reduceSub, Nat.reduceLT, Nat.reduceLeDiff, Nat.reduceBEq, reduceIte, reduceCtorEq, Int.reduceLT, Int.reduceLE, Int.reduceEq, Int.reduceNeg, Int.reduceToNat, Int.reduceAdd, Int.reduceSub, rT_rT, ↓g_call _ _ c_octet_Reader_Int]
  refine CallK.as (at_Int rT_row 8 (by decide) l2) (aft_nil ?_)
  simp -implicitDefEqProofs -dsimp only [go_sem, Nat.reduceEqDiff, Nat.reduceAdd, Nat.reduceMul, Nat.reduceSub, Nat.reduceLT, Nat.reduceLeDiff, Nat.reduceBEq, reduceIte, reduceCtorEq, Int.reduceLT, Int.reduceLE, Int.reduceEq, Int.reduceNeg, Int.reduceToNat, Int.reduceAdd, Int.reduceSub, rT_rT]
  refine lp_readTxn0 (B := T) (by repeat' (first | exact finX_ext _ _ | assumption | apply blkR_ext | apply thenR_ext | apply AW_ext)) ⟨rfl, rfl, rfl, rfl⟩ _ _ [] _ _ b1 (by simp; omega) l3 (.nil ..) (fun v1 T1 m o1 => ?_)
  obtain ⟨p1, p2, p3, p4, p5, p6⟩ := o1.form
  have o1' := o1.rd (rMost 8 (rList rRd (rMost 8 (rMost 1 (rID s).2).2).1 (rMost 8 (rMost 1 (rID s).2).2).2).2).2
  simp -implicitDefEqProofs -dsimp only [go_sem, Nat.reduceEqDiff, Nat.reduceAdd, Nat.reduceMul, Nat.reduceSub, Nat.reduceLT, Nat.reduceLeDiff, Nat.reduceBEq, reduceIte, reduceCtorEq, Int.reduceLT, Int.reduceLE, Int.reduceEq, Int.reduceNeg, Int.reduceToNat, Int.reduceAdd, Int.reduceSub, p1, p2, p3, p4, p5, p6, ↓g_call _ _ c_octet_Reader_Int]
  refine CallK.as (at_Int o1.rdAt 8 (by decide) l4) (aft_nil ?_)
  simp -implicitDefEqProofs -dsimp only [go_sem, Nat.reduceEqDiff, Nat.reduceAdd, Nat.reduceMul, Nat.reduceSub, Nat.reduceLT, Nat.reduceLeDiff, Nat.reduceBEq, reduceIte, reduceCtorEq, Int.reduceLT, Int.reduceLE, Int.reduceEq, Int.reduceNeg, Int.reduceToNat, Int.reduceAdd, Int.reduceSub, p1, p2, p3, p4, p5, p6]
  refine lp_readTxn1 (B := T1) (by repeat' (first | exact finX_ext _ _ | assumption | apply blkR_ext | apply thenR_ext | apply AW_ext)) ⟨rfl, rfl, rfl, p1⟩ _ _ [] _ _ b2 (by simp; omega) l5 (.nil ..) (fun v2 T2 m o2 => ?_)
  obtain ⟨q1, q2, q3, q4, q5, q6⟩ := o2.form
  have o1'' := o1.rd (rTx s).2
  have how : Owns (rT T id (rTx s).2) [⟨3, v2, (rTx s).1.ws.length, (rTx s).1.ws.flatMap wtC⟩, ⟨2, v1, (rTx s).1.rs.length, (rTx s).1.rs.flatMap rdC⟩] T2 := ⟨_, ⟨_, rfl, o1''⟩, o2⟩
  simp -implicitDefEqProofs -dsimp only [go_sem, Nat.reduceEqDiff, Nat.reduceAdd, Nat.reduceMul, Nat.reduceSub, Nat.reduceLT, Nat.reduceLeDiff, Nat.reduceBEq, reduceIte, reduceCtorEq, Int.reduceLT, Int.reduceLE, Int.reduceEq, Int.reduceNeg, Int.reduceToNat, Int.reduceAdd, Int.reduceSub, p1, p2, p3, p4, p5, p6, q1, q2, q3, q4, q5, q6, ↓g_call _ _ c_octet_Reader_Bad]
  refine CallK.as (at_Bad o2.rdAt) (aft_nil ?_)
  have hbad : (rList rWt (rMost 8 (rList rRd (rMost 8 (rMost 1 (rID s).2).2).1 (rMost 8 (rMost 1 (rID s).2).2).2).2).1 (rMost 8 (rList rRd (rMost 8 (rMost 1 (rID s).2).2).1 (rMost 8 (rMost 1 (rID s).2).2).2).2).2).2.2 = (rTx s).2.2 := rfl
  rw [hbad]
  have errEnd : rTxOk s = false → finL (.tup [.agg [.i .i64 0, .i .u64 0, .b false, .fz 0 [] (some 0), .fz 0 [] (some 0)], fault [116, 120, 110] (errno 3)]) (fun v T' => v = .tup [.agg ((rTxAns s).1.cells none none), (rTxAns s).2] ∧ T' = rT T id (rTx s).2) T2 := by
    intro hb
    refine finL_owns how fun S hS => ?_
    simp only [rTxAns, hb, Bool.false_eq_true, if_false, frzt, frzv, fault, errno, List.map_cons, List.map_nil, frz1_i, frz1_b, frz1_fz, frz1_fp, frz1_if]
    exact Wk.tup ⟨Wk.agg Wks.tx, .refl _, trivial⟩
  have cN := pc_fNew [116, 120, 110] 3
  rw [if_neg (by decide)] at cN
  rcases hb : (rTx s).2.2 with _ | _
  · simp -implicitDefEqProofs -dsimp only [go_sem, Nat.reduceEqDiff, Nat.reduceAdd, Nat.reduceMul, Nat.reduceSub, Nat.reduceLT, Nat.reduceLeDiff, Nat.reduceBEq, reduceIte, reduceCtorEq, Int.reduceLT, Int.reduceLE, Int.reduceEq, Int.reduceNeg, Int.reduceToNat, Int.reduceAdd, Int.reduceSub, hb, p1, p2, p3, p4, p5, p6, q1, q2, q3, q4, q5, q6, ↓g_gdc, rcOk, true_and, ↓g_call _ _ c_entry_RightTxn]
    refine CallK.borrow (r := .b (txOk (rTx s).1)) how (fun S hS => ?_) .b (aft_nil ?_)
    · obtain ⟨c1, e1⟩ := hS _ (List.mem_cons_of_mem _ (List.mem_cons_self ..))
      obtain ⟨c2, e2⟩ := hS _ (List.mem_cons_self ..)
      simp only at e1 e2
      have := pc_RightTxn (rTx s).1 c1 c2 hf
      simp only [Tx.cells] at this
      simp only [List.map_cons, List.map_nil, frzv, frz1_i, frz1_b, e1, e2]
      exact this
    rcases hok : txOk (rTx s).1 with _ | _
    · simp -implicitDefEqProofs -dsimp only [go_sem, Nat.reduceEqDiff, Nat.reduceAdd, Nat.reduceMul, Nat.reduceSub, Nat.reduceLT, Nat.reduceLeDiff, Nat.reduceBEq, reduceIte, reduceCtorEq, Int.reduceLT, Int.reduceLE, Int.reduceEq, Int.reduceNeg, Int.reduceToNat, Int.reduceAdd, Int.reduceSub, hb, hok, p1, p2, p3, p4, p5, p6, q1, q2, q3, q4, q5, q6, ↓g_gdc, rcOk, true_and, ↓g_call _ _ c_fault_New]
      refine CallK.pure cN (aft_nil ?_)
      simp -implicitDefEqProofs -dsimp only [go_sem, Nat.reduceEqDiff, Nat.reduceAdd, Nat.reduceMul, Nat.reduceSub, Nat.reduceLT, Nat.reduceLeDiff, Nat.reduceBEq, reduceIte, reduceCtorEq, Int.reduceLT, Int.reduceLE, Int.reduceEq, Int.reduceNeg, Int.reduceToNat, Int.reduceAdd, Int.reduceSub, fault, zTx]
      exact errEnd (by simp [rTxOk, hb, hok])
    · simp -implicitDefEqProofs -dsimp only [go_sem, Nat.reduceEqDiff, Nat.reduceAdd, Nat.reduceMul, Nat.reduceSub, Nat.reduceLT, Nat.reduceLeDiff, Nat.reduceBEq, reduceIte, reduceCtorEq, Int.reduceLT, Int.reduceLE, Int.reduceEq, Int.reduceNeg, Int.reduceToNat, Int.reduceAdd, Int.reduceSub, hb, hok, zTx, p1, p2, p3, p4, p5, p6, q1, q2, q3, q4, q5, q6, ↓g_gdc, rcOk, true_and]
      have hk : rTxOk s = true := by simp [rTxOk, hb, hok]
      refine finL_owns how fun S hS => ?_
      obtain ⟨c1, e1⟩ := hS _ (List.mem_cons_of_mem _ (List.mem_cons_self ..))
      obtain ⟨c2, e2⟩ := hS _ (List.mem_cons_self ..)
      simp only at e1 e2
      simp only [rTxAns, hk, if_true, frzt, frzv, List.map_cons, List.map_nil, frz1_i, frz1_b, e1, e2, frz1_ni]
      exact Wk.tup ⟨Wk.agg Wks.tx, .refl _, trivial⟩
  · simp -implicitDefEqProofs -dsimp only [go_sem, Nat.reduceEqDiff, Nat.reduceAdd, Nat.reduceMul, Nat.reduceSub, Nat.reduceLT, Nat.reduceLeDiff, Nat.reduceBEq, reduceIte, reduceCtorEq, Int.reduceLT, Int.reduceLE, Int.reduceEq, Int.reduceNeg, Int.reduceToNat, Int.reduceAdd, Int.reduceSub, hb, p1, p2, p3, p4, p5, p6, q1, q2, q3, q4, q5, q6, ↓g_gdc, rcOk, true_and, ↓g_call _ _ c_fault_New]
    refine CallK.pure cN (aft_nil ?_)
    simp -implicitDefEqProofs -dsimp only [go_sem, Nat.reduceEqDiff, Nat.reduceAdd, Nat.reduceMul, Nat.reduceSub, Nat.reduceLT, Nat.reduceLeDiff, Nat.reduceBEq, reduceIte, reduceCtorEq, Int.reduceLT, Int.reduceLE, Int.reduceEq, Int.reduceNeg, Int.reduceToNat, Int.reduceAdd, Int.reduceSub, fault, zTx]
    exact errEnd (by simp [rTxOk, hb])
end Go.Aw
