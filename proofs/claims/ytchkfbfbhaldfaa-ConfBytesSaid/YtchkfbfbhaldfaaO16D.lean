import Derived.Test.YtchkfbfbhaldfaaO16C
namespace Go.Aw
open Go
open Go.Proofs.Try (prog)
set_option linter.all false
set_option maxHeartbeats 4000000

def zCf : List AV := [.i .u64 0, .i .i64 0, .fz 0 [] (some 0), .fz 0 [] (some 0), .i .i64 0]
theorem lp_cRead {R : RPost} (hR : ExtR R) {B : Tab} {id : Nat} {a b c : AV} (ha : a.plain = true ∧ b.plain = true ∧ c.plain = true) : ∀ (n : Nat) (s : RS) (os : List (Int × Bool)) (v w : AV) (T1 : Tab), n ≤ 8 → os.length + n ≤ 1000 → Len s.1.length →
    Owns (rT B id s) [⟨1, v, os.length, ints (os.map (·.1))⟩, ⟨1, w, os.length, bools (os.map (·.2))⟩] T1 →
    (∀ v w T1 m, Owns (rT B id (rList rMem n s).2) [⟨1, v, (os ++ (rList rMem n s).1).length, ints ((os ++ (rList rMem n s).1).map (·.1))⟩, ⟨1, w, (os ++ (rList rMem n s).1).length, bools ((os ++ (rList rMem n s).1).map (·.2))⟩] T1 → R (.exit 0) [(0, .ptr id 0), (2, .lp 2 0), (4, .lp 4 0), (5, .i .i64 m), (20, .b false)] [(2, zCf), (4, [a, b, v, w, c])] T1) →
    AW prog conf_Read_l0 R [(0, .ptr id 0), (2, .lp 2 0), (4, .lp 4 0), (5, .i .i64 n)] [(2, zCf), (4, [a, b, v, w, c])] T1 := by
  obtain ⟨a1, a2, a3⟩ := ha
  intro n
  induction n with
  | zero =>
    intro s os v w T1 hn hos hl ho h2
    refine AW_loop hR ?_
    unfold conf_Read_l0b
    simp -implicitDefEqProofs -dsimp only [go_sem, Nat.reduceEqDiff, Nat.reduceAdd, Nat.reduceMul, Nat.reduceSub, Nat.reduceLT, Nat.reduceLeDiff, Nat.reduceBEq, reduceIte, reduceCtorEq, Int.reduceLT, Int.reduceLE, Int.reduceEq, Int.reduceNeg, Int.reduceToNat, Int.reduceAdd, Int.reduceSub, show ((0 : Nat) : Int) = 0 from rfl, ↓g_gdc, rcOk, true_and, decide_false]
    exact h2 v w T1 0 (by simpa [rList] using ho)
  | succ n ih =>
    intro s os v w T1 hn hos hl ho h2
    obtain ⟨p1, p2, p3, p4, p5, p6⟩ := ho.form (List.mem_cons_self ..)
    obtain ⟨q1, q2, q3, q4, q5, q6⟩ := ho.form (List.mem_cons_of_mem _ (List.mem_cons_self ..))
    simp only at p1 p2 p3 p4 p5 p6 q1 q2 q3 q4 q5 q6
    have hpos : decide ((0 : Int) < ((n + 1 : Nat) : Int)) = true := decide_eq_true (by omega)
    refine AW_loopD (l := conf_Read_l0) rfl hR ?_
    unfold conf_Read_l0b
    simp -implicitDefEqProofs -dsimp only [go_sem, Nat.reduceEqDiff, Nat.reduceAdd, Nat.reduceMul, Nat.reduceSub, Nat.reduceLT, Nat.reduceLeDiff, Nat.reduceBEq, reduceIte, reduceCtorEq, Int.reduceLT, Int.reduceLE, Int.reduceEq, Int.reduceNeg, Int.reduceToNat, Int.reduceAdd, Int.reduceSub, hpos, ↓g_gdc, rcOk, true_and, ↓g_call _ _ c_octet_Reader_Bad]
    refine CallK.as (at_Bad ho.rdAt) (aft_nil ?_)
    rcases hb : s.2 with _ | _
    case true =>
      have e : rList rMem (n + 1) s = ([], s) := by simp [rList, hb]
      rw [e] at h2
      simp -implicitDefEqProofs -dsimp only [go_sem, Nat.reduceEqDiff, Nat.reduceAdd, Nat.reduceMul, Nat.reduceSub, Nat.reduceLT, Nat.reduceLeDiff, Nat.reduceBEq, reduceIte, reduceCtorEq, Int.reduceLT, Int.reduceLE, Int.reduceEq, Int.reduceNeg, Int.reduceToNat, Int.reduceAdd, Int.reduceSub, hb]
      exact h2 v w T1 _ (by simpa using ho)
    have e : rList rMem (n + 1) s = ((rMem s).1 :: (rList rMem n (rMem s).2).1, (rList rMem n (rMem s).2).2) := by simp [rList, hb]
    rw [e] at h2
    have ho1 := ho.rd (rMost 7 s).2
    have l1 := len_le (rMost_len 7 s) hl
    simp -implicitDefEqProofs -dsimp only [go_sem, Nat.reduceEqDiff, Nat.reduceAdd, Nat.reduceMul, Nat.reduceSub, Nat.reduceLT, Nat.reduceLeDiff, Nat.reduceBEq, reduceIte, reduceCtorEq, Int.reduceLT, Int.reduceLE, Int.reduceEq, Int.reduceNeg, Int.reduceToNat, Int.reduceAdd, Int.reduceSub, hb, p1, p2, p3, p4, p5, p6, q1, q2, q3, q4, q5, q6, a1, a2, a3, ↓g_call _ _ c_octet_Reader_Int]
    refine CallK.as (at_Int ho.rdAt 7 (by decide) hl) (aft_nil ?_)
    simp -implicitDefEqProofs -dsimp only [go_sem, Nat.reduceEqDiff, Nat.reduceAdd, Nat.reduceMul, Nat.reduceSub, Nat.reduceLT, Nat.reduceLeDiff, Nat.reduceBEq, reduceIte, reduceCtorEq, Int.reduceLT, Int.reduceLE, Int.reduceEq, Int.reduceNeg, Int.reduceToNat, Int.reduceAdd, Int.reduceSub, p1, p2, p3, p4, p5, p6, q1, q2, q3, q4, q5, q6, a1, a2, a3]
    refine ho1.app (m := 1) (b := 8) (news := [.i .i64 ((rMost 7 s).1 : Nat)]) rfl rfl (by simp only; omega) (by simp only; omega) fun v2 T2 ho2 => aft_nil ?_
    obtain ⟨p1, p2, p3, p4, p5, p6⟩ := ho2.form (List.mem_cons_self ..)
    simp only at p1 p2 p3 p4 p5 p6
    have ho3 := (ho2.rd (rMem s).2).swap
    simp -implicitDefEqProofs -dsimp only [go_sem, Nat.reduceEqDiff, Nat.reduceAdd, Nat.reduceMul, Nat.reduceSub, Nat.reduceLT, Nat.reduceLeDiff, Nat.reduceBEq, reduceIte, reduceCtorEq, Int.reduceLT, Int.reduceLE, Int.reduceEq, Int.reduceNeg, Int.reduceToNat, Int.reduceAdd, Int.reduceSub, p1, p2, p3, p4, p5, p6, q1, q2, q3, q4, q5, q6, a1, a2, a3, ↓g_call _ _ c_octet_Reader_Flag]
    refine CallK.as (at_Flag ho2.rdAt l1) (aft_nil ?_)
    simp -implicitDefEqProofs -dsimp only [go_sem, Nat.reduceEqDiff, Nat.reduceAdd, Nat.reduceMul, Nat.reduceSub, Nat.reduceLT, Nat.reduceLeDiff, Nat.reduceBEq, reduceIte, reduceCtorEq, Int.reduceLT, Int.reduceLE, Int.reduceEq, Int.reduceNeg, Int.reduceToNat, Int.reduceAdd, Int.reduceSub, p1, p2, p3, p4, p5, p6, q1, q2, q3, q4, q5, q6, a1, a2, a3]
    refine ho3.app (m := 1) (b := 1) (news := [.b (decide ((rMost 1 (rMost 7 s).2).1 = 1))]) rfl rfl (by simp only; omega) (by simp only; omega) fun w2 T3 ho4 => aft_nil ?_
    have ho5 := ho4.swap
    obtain ⟨q1, q2, q3, q4, q5, q6⟩ := ho4.form (List.mem_cons_self ..)
    simp only at q1 q2 q3 q4 q5 q6
    simp -implicitDefEqProofs -dsimp only [go_sem, Nat.reduceEqDiff, Nat.reduceAdd, Nat.reduceMul, Nat.reduceSub, Nat.reduceLT, Nat.reduceLeDiff, Nat.reduceBEq, reduceIte, reduceCtorEq, Int.reduceLT, Int.reduceLE, Int.reduceEq, Int.reduceNeg, Int.reduceToNat, Int.reduceAdd, Int.reduceSub, p1, p2, p3, p4, p5, p6, q1, q2, q3, q4, q5, q6, a1, a2, a3]
    rw [wrap_pred (by omega)]
    have e1 : ints (os.map (·.1)) ++ [.i .i64 ((rMost 7 s).1 : Nat)] = ints ((os ++ [(rMem s).1]).map (·.1)) := by simp [ints, rMem]
    have e2 : bools (os.map (·.2)) ++ [.b (decide ((rMost 1 (rMost 7 s).2).1 = 1))] = bools ((os ++ [(rMem s).1]).map (·.2)) := by simp [bools, rMem]
    simp only [e1, e2] at ho5
    refine ih (rMem s).2 (os ++ [(rMem s).1]) v2 w2 T3 (by omega) (by simp; omega) (len_le (rMem_len s) hl) (by simpa using ho5) fun v w T1 m ho => h2 v w T1 m ?_
    simpa only [List.append_assoc, List.cons_append, List.nil_append] using ho

def rCfOk (s : RS) : Bool := !(rCf s).2.2 && (rCf s).1.right
def cf00 : Cf := ⟨0, 0, [], [], 0⟩
def rCfAns (s : RS) : Cf := if rCfOk s = true then (rCf s).1 else cf00
theorem Wks.cf5 {a b c : AV} {n m : Nat} {x y : List AV} {k1 k2 : Option Nat} : Wks [a, b, .fz n x k1, .fz m y k2, c] [a, b, .fz n x none, .fz m y none, c] :=
  ⟨.refl _, .refl _, .fz, .fz, .refl _, trivial⟩

theorem ac_cRead {T : Tab} {id : Nat} {s : RS} (h : T id = rdRow s) (hl : Len s.1.length) : ACalls prog f_conf_Read [.ptr id 0] T (fun v T' => v = .tup [.agg ((rCfAns s).cells none none), .b (rCfOk s)] ∧ T' = rT T id (rCf s).2) := by
  refine acalls_of mixed t_conf_Read (by simp) ?_
  have l0 := len_le (rMost_len 18446744073709551615 s) hl
  have l1 := len_le (rMost_len 3 _) l0
  have l2 := len_le (rMost_len 8 _) l1
  have l3 := len_le (rList_len rMem_len (rMost 8 (rMost 3 (rMost 18446744073709551615 s).2).2).1 _) l2
  have b1 := rMost_le 8 (rMost 3 (rMost 18446744073709551615 s).2).2
  have b2 := rList_le (f := rMem) (rMost 8 (rMost 3 (rMost 18446744073709551615 s).2).2).1 (rMost 8 (rMost 3 (rMost 18446744073709551615 s).2).2).2
  unfold s_conf_Read
  simp -implicitDefEqProofs -dsimp only [go_sem, Nat.reduceEqDiff, Nat.reduceAdd, Nat.reduceMul, Nat.reduceSub, Nat.reduceLT, Nat.reduceLeDiff, Nat.reduceBEq, reduceIte, reduceCtorEq, Int.reduceLT, Int.reduceLE, Int.reduceEq, Int.reduceNeg, Int.reduceToNat, Int.reduceAdd, Int.reduceSub, ↓g_call _ _ c_octet_Reader_N]
  refine CallK.as (at_N h hl) (aft_nil ?_)
  simp -implicitDefEqProofs -dsimp only [go_sem, Nat.reduceEqDiff, Nat.reduceAdd, Nat.reduceMul, Nat.reduceSub, Nat.reduceLT, Nat.reduceLeDiff, Nat.reduceBEq, reduceIte, reduceCtorEq, Int.reduceLT, Int.reduceLE, Int.reduceEq, Int.reduceNeg, Int.reduceToNat, Int.reduceAdd, Int.reduceSub, ↓g_call _ _ c_octet_Reader_Int]
  refine CallK.as (at_Int rT_row 3 (by decide) l0) (aft_nil ?_)
  simp -implicitDefEqProofs -dsimp only [go_sem, Nat.reduceEqDiff, Nat.reduceAdd, Nat.reduceMul, Nat.reduceSub, Nat.reduceLT, Nat.reduceLeDiff, Nat.reduceBEq, reduceIte, reduceCtorEq, Int.reduceLT, Int.reduceLE, Int.reduceEq, Int.reduceNeg, Int.reduceToNat, Int.reduceAdd, Int.reduceSub, rT_rT, ↓g_call _ _ c_octet_Reader_Int]
  refine CallK.as (at_Int rT_row 8 (by decide) l1) (aft_nil ?_)
  simp -implicitDefEqProofs -dsimp only [go_sem, Nat.reduceEqDiff, Nat.reduceAdd, Nat.reduceMul, Nat.reduceSub, Nat.reduceLT, Nat.reduceLeDiff, Nat.reduceBEq, reduceIte, reduceCtorEq, Int.reduceLT, Int.reduceLE, Int.reduceEq, Int.reduceNeg, Int.reduceToNat, Int.reduceAdd, Int.reduceSub, rT_rT]
  refine lp_cRead (B := T) (by repeat' (first | exact finX_ext _ _ | assumption | apply blkR_ext | apply thenR_ext | apply AW_ext)) ⟨rfl, rfl, rfl⟩ _ _ [] _ _ _ b1 (by simp; omega) l2 ⟨_, ⟨_, rfl, .nil ..⟩, .nil ..⟩ (fun v w T1 m o1 => ?_)
  obtain ⟨p1, p2, p3, p4, p5, p6⟩ := o1.form (List.mem_cons_self ..)
  obtain ⟨q1, q2, q3, q4, q5, q6⟩ := o1.form (List.mem_cons_of_mem _ (List.mem_cons_self ..))
  simp only at p1 p2 p3 p4 p5 p6 q1 q2 q3 q4 q5 q6
  have how := o1.rd (rCf s).2
  simp only [List.nil_append] at how
  simp -implicitDefEqProofs -dsimp only [go_sem, Nat.reduceEqDiff, Nat.reduceAdd, Nat.reduceMul, Nat.reduceSub, Nat.reduceLT, Nat.reduceLeDiff, Nat.reduceBEq, reduceIte, reduceCtorEq, Int.reduceLT, Int.reduceLE, Int.reduceEq, Int.reduceNeg, Int.reduceToNat, Int.reduceAdd, Int.reduceSub, p1, p2, p3, p4, p5, p6, q1, q2, q3, q4, q5, q6, ↓g_call _ _ c_octet_Reader_Int]
  refine CallK.as (at_Int o1.rdAt 8 (by decide) l3) (aft_nil ?_)
  have ecf : (rCf s).1 = ⟨(rMost 18446744073709551615 s).1, (rMost 3 (rMost 18446744073709551615 s).2).1, (rList rMem (rMost 8 (rMost 3 (rMost 18446744073709551615 s).2).2).1 (rMost 8 (rMost 3 (rMost 18446744073709551615 s).2).2).2).1.map (·.1), (rList rMem (rMost 8 (rMost 3 (rMost 18446744073709551615 s).2).2).1 (rMost 8 (rMost 3 (rMost 18446744073709551615 s).2).2).2).1.map (·.2), if (rMost 8 (rList rMem (rMost 8 (rMost 3 (rMost 18446744073709551615 s).2).2).1 (rMost 8 (rMost 3 (rMost 18446744073709551615 s).2).2).2).2).1 = 8 then -1 else ((rMost 8 (rList rMem (rMost 8 (rMost 3 (rMost 18446744073709551615 s).2).2).1 (rMost 8 (rMost 3 (rMost 18446744073709551615 s).2).2).2).2).1 : Int)⟩ := rfl
  have ers : (rCf s).2 = (rMost 8 (rList rMem (rMost 8 (rMost 3 (rMost 18446744073709551615 s).2).2).1 (rMost 8 (rMost 3 (rMost 18446744073709551615 s).2).2).2).2).2 := rfl
  rw [← ers]
  generalize hms : (rList rMem (rMost 8 (rMost 3 (rMost 18446744073709551615 s).2).2).1 (rMost 8 (rMost 3 (rMost 18446744073709551615 s).2).2).2) = ms at *
  generalize hln : (rMost 8 ms.2).1 = ln at *
  generalize hc : (rCf s).1 = cf at *
  have hlen : Len cf.ch.length := by rw [ecf]; unfold Len; simp; omega
  have errEnd : rCfOk s = false → finL (.tup [.agg [.i .u64 0, .i .i64 0, .fz 0 [] (some 0), .fz 0 [] (some 0), .i .i64 0], .b false]) (fun v T' => v = .tup [.agg ((rCfAns s).cells none none), .b (rCfOk s)] ∧ T' = rT T id (rCf s).2) (rT T1 id (rCf s).2) := by
    intro hb
    refine finL_owns how fun S hS => ?_
    simp only [rCfAns, hb, Bool.false_eq_true, if_false, frzt, frzv, List.map_cons, List.map_nil, frz1_i, frz1_b, frz1_fz]
    exact Wk.tup ⟨Wk.agg Wks.cf5, .refl _, trivial⟩
  have d8 : decide ((ln : Int) = 8) = decide (ln = 8) := decide_eq_decide.2 (by omega)
  rcases h8 : decide (ln = 8) with _ | _
  all_goals
    first
      | (have e8 : (if ln = 8 then (-1 : Int) else ln) = ln := if_neg (of_decide_eq_false h8); rw [e8] at ecf)
      | (have e8 : (if ln = 8 then (-1 : Int) else ln) = -1 := if_pos (of_decide_eq_true h8); rw [e8] at ecf)
    simp -implicitDefEqProofs -dsimp only [go_sem, Nat.reduceEqDiff, Nat.reduceAdd, Nat.reduceMul, Nat.reduceSub, Nat.reduceLT, Nat.reduceLeDiff, Nat.reduceBEq, reduceIte, reduceCtorEq, Int.reduceLT, Int.reduceLE, Int.reduceEq, Int.reduceNeg, Int.reduceToNat, Int.reduceAdd, Int.reduceSub, d8, h8, p1, p2, p3, p4, p5, p6, q1, q2, q3, q4, q5, q6, ↓g_call _ _ c_octet_Reader_Bad]
    refine CallK.as (at_Bad rT_row) (aft_nil ?_)
    rcases hb : (rCf s).2.2 with _ | _
    · simp -implicitDefEqProofs -dsimp only [go_sem, Nat.reduceEqDiff, Nat.reduceAdd, Nat.reduceMul, Nat.reduceSub, Nat.reduceLT, Nat.reduceLeDiff, Nat.reduceBEq, reduceIte, reduceCtorEq, Int.reduceLT, Int.reduceLE, Int.reduceEq, Int.reduceNeg, Int.reduceToNat, Int.reduceAdd, Int.reduceSub, hb, p1, p2, p3, p4, p5, p6, q1, q2, q3, q4, q5, q6, ↓g_gdc, rcOk, true_and, ↓g_call _ _ c_conf_Right]
      refine CallK.borrow (r := .b cf.right) how (fun S hS => ?_) .b (aft_nil ?_)
      · obtain ⟨c1, e1⟩ := hS _ (List.mem_cons_self ..)
        obtain ⟨c2, e2⟩ := hS _ (List.mem_cons_of_mem _ (List.mem_cons_self ..))
        simp only at e1 e2
        have := pc_conf_Right cf c1 c2 hlen
        simp only [Cf.cells] at this
        rw [ecf] at this ⊢
        simp only [List.length_map] at this
        simp only [List.map_cons, List.map_nil, frzv, frz1_i, frz1_b, e1, e2]
        exact this
      rcases hok : cf.right with _ | _
      · simp -implicitDefEqProofs -dsimp only [go_sem, Nat.reduceEqDiff, Nat.reduceAdd, Nat.reduceMul, Nat.reduceSub, Nat.reduceLT, Nat.reduceLeDiff, Nat.reduceBEq, reduceIte, reduceCtorEq, Int.reduceLT, Int.reduceLE, Int.reduceEq, Int.reduceNeg, Int.reduceToNat, Int.reduceAdd, Int.reduceSub, hb, hok, zCf, p1, p2, p3, p4, p5, p6, q1, q2, q3, q4, q5, q6, ↓g_gdc, rcOk, true_and]
        exact errEnd (by simp [rCfOk, hb, hc, hok])
      · simp -implicitDefEqProofs -dsimp only [go_sem, Nat.reduceEqDiff, Nat.reduceAdd, Nat.reduceMul, Nat.reduceSub, Nat.reduceLT, Nat.reduceLeDiff, Nat.reduceBEq, reduceIte, reduceCtorEq, Int.reduceLT, Int.reduceLE, Int.reduceEq, Int.reduceNeg, Int.reduceToNat, Int.reduceAdd, Int.reduceSub, hb, hok, zCf, p1, p2, p3, p4, p5, p6, q1, q2, q3, q4, q5, q6, ↓g_gdc, rcOk, true_and]
        have hk : rCfOk s = true := by simp [rCfOk, hb, hc, hok]
        refine finL_owns how fun S hS => ?_
        obtain ⟨c1, e1⟩ := hS _ (List.mem_cons_self ..)
        obtain ⟨c2, e2⟩ := hS _ (List.mem_cons_of_mem _ (List.mem_cons_self ..))
        simp only at e1 e2
        simp only [rCfAns, hk, if_true, frzt, frzv, List.map_cons, List.map_nil, frz1_i, frz1_b, e1, e2, hc, ecf, Cf.cells, List.length_map]
        exact Wk.tup ⟨Wk.agg Wks.cf5, .refl _, trivial⟩
    · simp -implicitDefEqProofs -dsimp only [go_sem, Nat.reduceEqDiff, Nat.reduceAdd, Nat.reduceMul, Nat.reduceSub, Nat.reduceLT, Nat.reduceLeDiff, Nat.reduceBEq, reduceIte, reduceCtorEq, Int.reduceLT, Int.reduceLE, Int.reduceEq, Int.reduceNeg, Int.reduceToNat, Int.reduceAdd, Int.reduceSub, hb, zCf, p1, p2, p3, p4, p5, p6, q1, q2, q3, q4, q5, q6, ↓g_gdc, rcOk, true_and]
      exact errEnd (by simp [rCfOk, hb])
end Go.Aw
