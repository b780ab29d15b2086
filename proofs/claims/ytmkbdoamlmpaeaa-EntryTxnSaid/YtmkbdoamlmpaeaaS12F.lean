import Derived.Test.YtmkbdoamlmpaeaaS12E
import Derived.Test.YtmkbdoamlmpaeaaS12X
namespace Go.Aw
open Go
open Go.Proofs.Try (prog)
set_option linter.all false
set_option maxHeartbeats 4000000

theorem ac_ReadTxn {T : Tab} {id : Nat} {s : RS} (h : T id = rdRow s) (hl : Len s.1.length) : ACalls prog f_entry_ReadTxn [.ptr id 0] T (fun v T' => v = .tup [.agg ((rTxAns s).1.cells none none), .b (rTxOk s)] ∧ T' = rT T id (rTx s).2) := by
  refine acalls_of mixed t_entry_ReadTxn (by simp) ?_
  have c := ac_readTxn h hl
  simp only [Tx.cells] at c
  unfold s_entry_ReadTxn
  simp -implicitDefEqProofs -dsimp only [go_sem, Nat.reduceEqDiff, Nat.reduceAdd, Nat.reduceMul, Nat.reduceSub, Nat.reduceLT, Nat.reduceLeDiff, Nat.reduceBEq, reduceIte, reduceCtorEq, Int.reduceLT, Int.reduceLE, Int.reduceEq, Int.reduceNeg, Int.reduceToNat, Int.reduceAdd, Int.reduceSub, ↓g_call _ _ c_entry_readTxn]
  refine CallK.as c (aft_nil ?_)
  rcases hk : rTxOk s with _ | _
  · have e : (rTxAns s).2 = fault [116, 120, 110] (errno 3) := by simp [rTxAns, hk]
    simp -implicitDefEqProofs -dsimp only [go_sem, Nat.reduceEqDiff, Nat.reduceAdd, Nat.reduceMul, Nat.reduceSub, Nat.reduceLT, Nat.reduceLeDiff, Nat.reduceBEq, reduceIte, reduceCtorEq, Int.reduceLT, Int.reduceLE, Int.reduceEq, Int.reduceNeg, Int.reduceToNat, Int.reduceAdd, Int.reduceSub, e, fault, eqAv]
    exact finL_pure rfl
  · have e : (rTxAns s).2 = .nilifc := by simp [rTxAns, hk]
    simp -implicitDefEqProofs -dsimp only [go_sem, Nat.reduceEqDiff, Nat.reduceAdd, Nat.reduceMul, Nat.reduceSub, Nat.reduceLT, Nat.reduceLeDiff, Nat.reduceBEq, reduceIte, reduceCtorEq, Int.reduceLT, Int.reduceLE, Int.reduceEq, Int.reduceNeg, Int.reduceToNat, Int.reduceAdd, Int.reduceSub, e, eqAv]
    exact finL_pure rfl

theorem once_keys : ∀ (l seen : List Bs), onceF seen l = true → ∀ k ∈ l, keyOk k = true
  | [], _, _, k, hk => by cases hk
  | x :: l, seen, h, k, hk => by
    simp only [onceF, Bool.and_eq_true] at h
    rcases List.mem_cons.1 hk with rfl | hk
    · exact h.1.1
    · exact once_keys l _ h.2 k hk
theorem key_len {k : Bs} (h : keyOk k = true) : k.length ≤ 32 := by
  simp only [keyOk, Bool.and_eq_true, decide_eq_true_eq] at h; omega
theorem good_of_ok {t : Tx} (h : txOk t = true) (hs : t.sq < 18446744073709551616) (hr : ∀ r ∈ t.rs, 0 ≤ r.n ∧ r.n < 18446744073709551616) : t.Good := by
  simp only [txOk, idOk, Bool.and_eq_true, decide_eq_true_eq, Bool.not_eq_true', decide_eq_false_iff_not] at h
  obtain ⟨⟨⟨⟨⟨h1, h2⟩, h3⟩, h4⟩, h5⟩, ⟨h6, h7⟩, h8⟩ := h
  refine ⟨⟨h1.1.1, h1.1.2⟩, ⟨h1.2, hs⟩, by omega, by omega, fun r hm => ⟨key_len (once_keys _ _ h6 _ (List.mem_map_of_mem hm)), hr r hm⟩, fun w hm => ⟨key_len (once_keys _ _ h7 _ (List.mem_map_of_mem hm)), ?_⟩⟩
  have := List.all_eq_true.1 h8 w hm
  simp only [wOk, valOk, Bool.and_eq_true, decide_eq_true_eq] at this
  omega

theorem byteCells_full (l : List UInt8) : (byteCells l).take l.length = byteCells l := by rw [List.take_of_length_le]; rw [byteCells_length]; exact Nat.le_refl _
theorem encTx_len {t : Tx} (h : t.Good) : (encTx t).length ≤ 2000 := by
  obtain ⟨hcl, hsq, hr, hw, hrr, hww⟩ := h
  have l1 := enc_len10 (m := t.cl.toNat) (by omega)
  have l2 := enc_len10 (m := t.sq.toNat) (by omega)
  have l3 := enc_len10 (m := t.rs.length) (by omega)
  have l4 := enc_len10 (m := t.ws.length) (by omega)
  have l5 := flatB_len (g := encRd) t.rs fun r hr => encRd_len (hrr r hr)
  have l6 := flatB_len (g := encWt) t.ws fun r hr => encWt_len (hww r hr)
  simp only [encTx, List.length_append, List.length_cons, List.length_nil]; omega
theorem fz_bts {n : Nat} {l : List UInt8} {c : Option Nat} (h : l.length = n) : AV.fz n (byteCells l) c = bts l c := by subst h; rfl
theorem rTxOk_put {t : Tx} (h : t.Good) (hok : txOk t = true) (rest : List UInt8) : rTxOk (encTx t ++ rest, false) = true := by
  unfold rTxOk; rw [rTx_put h]; simp [hok]

theorem pc_EntryTxn (t : Tx) (k1 k2 : Option Nat) (b : List UInt8) (cb : Option Nat) (hb : Len b.length) (hf : t.Wide) (hsq : 0 ≤ t.sq ∧ t.sq < 18446744073709551616) (hr : ∀ r ∈ t.rs, 0 ≤ r.n ∧ r.n < 18446744073709551616) : PCalls prog f_sautoirlaw12_EntryTxn [.agg (t.cells k1 k2), bts b cb] (.b true) := by
  refine pcalls_of mixed t_sautoirlaw12_EntryTxn (by simp) fun T => ?_
  have c1 := pc_OurTxn t k1 k2 hf
  have c2 := pc_PlainTxn t.our none none hf.our
  have c3 := pc_rRightTxn t.our none none hf.our hsq.1
  simp only [Tx.cells] at c1 c2 c3
  unfold s_sautoirlaw12_EntryTxn
  simp -implicitDefEqProofs -dsimp only [go_sem, Nat.reduceEqDiff, Nat.reduceAdd, Nat.reduceMul, Nat.reduceSub, Nat.reduceLT, Nat.reduceLeDiff, Nat.reduceBEq, reduceIte, reduceCtorEq, Int.reduceLT, Int.reduceLE, Int.reduceEq, Int.reduceNeg, Int.reduceToNat, Int.reduceAdd, Int.reduceSub, Tx.cells, ↓g_call _ _ c_sautoirlaw12_OurTxn]
  refine CallK.pure c1 (aft_nil ?_)
  simp -implicitDefEqProofs -dsimp only [go_sem, Nat.reduceEqDiff, Nat.reduceAdd, Nat.reduceMul, Nat.reduceSub, Nat.reduceLT, Nat.reduceLeDiff, Nat.reduceBEq, reduceIte, reduceCtorEq, Int.reduceLT, Int.reduceLE, Int.reduceEq, Int.reduceNeg, Int.reduceToNat, Int.reduceAdd, Int.reduceSub, ↓g_call _ _ c_sautoirlaw12_PlainTxn]
  refine CallK.pure c2 (aft_nil ?_)
  simp -implicitDefEqProofs -dsimp only [go_sem, Nat.reduceEqDiff, Nat.reduceAdd, Nat.reduceMul, Nat.reduceSub, Nat.reduceLT, Nat.reduceLeDiff, Nat.reduceBEq, reduceIte, reduceCtorEq, Int.reduceLT, Int.reduceLE, Int.reduceEq, Int.reduceNeg, Int.reduceToNat, Int.reduceAdd, Int.reduceSub, ↓g_call _ _ c_sautoirref12_RightTxn]
  refine CallK.pure c3 (aft_nil ?_)
  rcases hok : txOk t.our with _ | _
  · simp -implicitDefEqProofs -dsimp only [go_sem, Nat.reduceEqDiff, Nat.reduceAdd, Nat.reduceMul, Nat.reduceSub, Nat.reduceLT, Nat.reduceLeDiff, Nat.reduceBEq, reduceIte, reduceCtorEq, Int.reduceLT, Int.reduceLE, Int.reduceEq, Int.reduceNeg, Int.reduceToNat, Int.reduceAdd, Int.reduceSub, hok, ↓g_call _ _ c_sautoirlaw12_awake]
    refine CallK.pure pc_awake12 (aft_nil ?_)
    simp -implicitDefEqProofs -dsimp only [go_sem, Nat.reduceEqDiff, Nat.reduceAdd, Nat.reduceMul, Nat.reduceSub, Nat.reduceLT, Nat.reduceLeDiff, Nat.reduceBEq, reduceIte, reduceCtorEq, Int.reduceLT, Int.reduceLE, Int.reduceEq, Int.reduceNeg, Int.reduceToNat, Int.reduceAdd, Int.reduceSub]
    exact finL_pure rfl
  have hg : t.our.Good := good_of_ok hok hsq.2 fun r h => hr r (List.mem_of_mem_take h)
  have hg' := hf.our
  have c4 := pc_tBytes t.our none none [9] (some 1) hg (by decide)
  have c5 := ac_rPutTxn t.our none none hg T
  simp only [Tx.cells] at c4 c5
  have fin : ∀ (d : List UInt8) (c : Option Nat) (e : Env), d.length ≤ 60 → True := fun _ _ _ _ => trivial
  rcases hlen : decide ((60 : Int) < (b.length : Int)) with _ | _
  case' false =>
    have hd : b.length ≤ 60 := by have := of_decide_eq_false hlen; omega
    simp -implicitDefEqProofs -dsimp only [go_sem, Nat.reduceEqDiff, Nat.reduceAdd, Nat.reduceMul, Nat.reduceSub, Nat.reduceLT, Nat.reduceLeDiff, Nat.reduceBEq, reduceIte, reduceCtorEq, Int.reduceLT, Int.reduceLE, Int.reduceEq, Int.reduceNeg, Int.reduceToNat, Int.reduceAdd, Int.reduceSub, hok, bts, hlen, ↓g_call _ _ c_entry_Txn_Bytes]
    rw [show AV.fz b.length (byteCells b) cb = bts b cb from rfl]
    clear hb hlen fin
    generalize cb = c
    generalize b = d at hd
  case' true =>
    have hd0 : 60 ≤ b.length := by have := of_decide_eq_true hlen; omega
    have hd1 : (b.take 60).length = 60 := by rw [List.length_take]; omega
    have hd : (b.take 60).length ≤ 60 := by omega
    simp -implicitDefEqProofs -dsimp only [go_sem, Nat.reduceEqDiff, Nat.reduceAdd, Nat.reduceMul, Nat.reduceSub, Nat.reduceLT, Nat.reduceLeDiff, Nat.reduceBEq, reduceIte, reduceCtorEq, Int.reduceLT, Int.reduceLE, Int.reduceEq, Int.reduceNeg, Int.reduceToNat, Int.reduceAdd, Int.reduceSub, hok, bts, hlen, show (60 : Int).toNat = 60 from rfl, hd0, Nat.zero_le, ↓g_call _ _ c_entry_Txn_Bytes]
    rw [byteCells_take, fz_bts hd1]
    clear hb hlen hd0 hd1
    generalize b.take 60 = d at hd
  all_goals
    refine CallK.pure c4 (aft_nil ?_)
    simp -implicitDefEqProofs -dsimp only [go_sem, Nat.reduceEqDiff, Nat.reduceAdd, Nat.reduceMul, Nat.reduceSub, Nat.reduceLT, Nat.reduceLeDiff, Nat.reduceBEq, reduceIte, reduceCtorEq, Int.reduceLT, Int.reduceLE, Int.reduceEq, Int.reduceNeg, Int.reduceToNat, Int.reduceAdd, Int.reduceSub, bts]
    simp -implicitDefEqProofs -dsimp only [go_sem, Nat.reduceEqDiff, Nat.reduceAdd, Nat.reduceMul, Nat.reduceSub, Nat.reduceLT, Nat.reduceLeDiff, Nat.reduceBEq, reduceIte, reduceCtorEq, Int.reduceLT, Int.reduceLE, Int.reduceEq, Int.reduceNeg, Int.reduceToNat, Int.reduceAdd, Int.reduceSub, bytesAv_cells, byteCells_length, ↓g_call _ _ c_sautoirref12_PutTxn]
    refine CallK.of c5 (fun v T1 ho => aft_rc (fun _ => ?_) ?_)
    all_goals obtain ⟨p1, p2, p3, p4, p5, p6⟩ := ho.form
    · simp -implicitDefEqProofs -dsimp only [go_sem, Nat.reduceEqDiff, Nat.reduceAdd, Nat.reduceMul, Nat.reduceSub, Nat.reduceLT, Nat.reduceLeDiff, Nat.reduceBEq, reduceIte, reduceCtorEq, Int.reduceLT, Int.reduceLE, Int.reduceEq, Int.reduceNeg, Int.reduceToNat, Int.reduceAdd, Int.reduceSub, rcOk, gvev, gdd, bytesAv_cells, byteCells_length]
    have hto := ho.tabLe
    have hne : 0 < (encTx t.our).length := by have := enc_ne t.our.cl.toNat; have := List.length_pos_iff.2 this; simp only [encTx, List.length_append]; omega
    obtain ⟨j, rfl, hj, rfl⟩ := ho.ne hne
    have hle : 1 + (encTx t.our).length ≤ 9223372036854775807 := by have := encTx_len hg; omega
    simp -implicitDefEqProofs -dsimp only [go_sem, Nat.reduceEqDiff, Nat.reduceAdd, Nat.reduceMul, Nat.reduceSub, Nat.reduceLT, Nat.reduceLeDiff, Nat.reduceBEq, reduceIte, reduceCtorEq, Int.reduceLT, Int.reduceLE, Int.reduceEq, Int.reduceNeg, Int.reduceToNat, Int.reduceAdd, Int.reduceSub, Tab.put_same, byteCells_length, Nat.le_refl, byteCells_full, bytesAv_cells, hle, decide_true]
    have e36 : AV.fz ((encTx t.our).length + 1 - 1) (List.take ((encTx t.our).length + 1 - 1) (List.drop 1 (byteCells (9 :: encTx t.our)))) none = bts (encTx t.our) none := by
      rw [Nat.add_sub_cancel, byteCells_drop, byteCells_take]; simp [bts]
    have hlen := encTx_len hg
    rw [e36]
    refine (Own.nil (T.put j (.row 1 (byteCells (encTx t.our)))) 1).appB (b := []) (by simp; omega) fun v2 T2 ho => aft_nil ?_
    obtain ⟨p1, p2, p3, p4, p5, p6⟩ := ho.form
    simp -implicitDefEqProofs -dsimp only [go_sem, Nat.reduceEqDiff, Nat.reduceAdd, Nat.reduceMul, Nat.reduceSub, Nat.reduceLT, Nat.reduceLeDiff, Nat.reduceBEq, reduceIte, reduceCtorEq, Int.reduceLT, Int.reduceLE, Int.reduceEq, Int.reduceNeg, Int.reduceToNat, Int.reduceAdd, Int.reduceSub, p1, p2, p3, p4, p5, p6]
    refine ho.appB (by simp; omega) fun v2 T2 ho => aft_nil ?_
    obtain ⟨p1, p2, p3, p4, p5, p6⟩ := ho.form
    rw [List.nil_append] at ho
    simp -implicitDefEqProofs -dsimp only [go_sem, Nat.reduceEqDiff, Nat.reduceAdd, Nat.reduceMul, Nat.reduceSub, Nat.reduceLT, Nat.reduceLeDiff, Nat.reduceBEq, reduceIte, reduceCtorEq, Int.reduceLT, Int.reduceLE, Int.reduceEq, Int.reduceNeg, Int.reduceToNat, Int.reduceAdd, Int.reduceSub, p1, p2, p3, p4, p5, p6, ↓g_call _ _ c_octet_New]
    refine CallK.give0 ho rfl (fun q => ac_New _ q (by simp; omega)) (fun v T' h => ?_)
    obtain ⟨id, rfl, hid, rfl⟩ := h
    have hT : TabLe T (T.put j (.row 1 (byteCells (encTx t.our)))) := (TabLe.refl T).put hj
    have c7 := ac_ReadTxn (rT_row (T := T.put j (.row 1 (byteCells (encTx t.our)))) (id := id) (s := (encTx t.our ++ d, false))) (by unfold Len; simp; omega)
    rw [rTxOk_put hg hok d, rTx_put hg d] at c7
    have e7 : (rTxAns (encTx t.our ++ d, false)).1 = t.our := by simp [rTxAns, rTxOk_put hg hok d, rTx_put hg d]
    rw [e7] at c7
    have c8 := pc_SameTxn_refl t.our none none none none hg'
    simp only [Tx.cells] at c7 c8
    refine aft_nil ?_
    simp -implicitDefEqProofs -dsimp only [go_sem, Nat.reduceEqDiff, Nat.reduceAdd, Nat.reduceMul, Nat.reduceSub, Nat.reduceLT, Nat.reduceLeDiff, Nat.reduceBEq, reduceIte, reduceCtorEq, Int.reduceLT, Int.reduceLE, Int.reduceEq, Int.reduceNeg, Int.reduceToNat, Int.reduceAdd, Int.reduceSub, ↓g_call _ _ c_entry_ReadTxn]
    refine CallK.as c7 (aft_nil ?_)
    simp -implicitDefEqProofs -dsimp only [go_sem, Nat.reduceEqDiff, Nat.reduceAdd, Nat.reduceMul, Nat.reduceSub, Nat.reduceLT, Nat.reduceLeDiff, Nat.reduceBEq, reduceIte, reduceCtorEq, Int.reduceLT, Int.reduceLE, Int.reduceEq, Int.reduceNeg, Int.reduceToNat, Int.reduceAdd, Int.reduceSub, ↓g_gdc, rcOk, true_and, ↓g_call _ _ c_sautoirlaw12_PlainTxn]
    refine CallK.pure c2 (aft_nil ?_)
    simp -implicitDefEqProofs -dsimp only [go_sem, Nat.reduceEqDiff, Nat.reduceAdd, Nat.reduceMul, Nat.reduceSub, Nat.reduceLT, Nat.reduceLeDiff, Nat.reduceBEq, reduceIte, reduceCtorEq, Int.reduceLT, Int.reduceLE, Int.reduceEq, Int.reduceNeg, Int.reduceToNat, Int.reduceAdd, Int.reduceSub, ↓g_gdc, rcOk, true_and, ↓g_call _ _ c_sautoirref12_SameTxn]
    refine CallK.pure c8 (aft_nil ?_)
    simp -implicitDefEqProofs -dsimp only [go_sem, Nat.reduceEqDiff, Nat.reduceAdd, Nat.reduceMul, Nat.reduceSub, Nat.reduceLT, Nat.reduceLeDiff, Nat.reduceBEq, reduceIte, reduceCtorEq, Int.reduceLT, Int.reduceLE, Int.reduceEq, Int.reduceNeg, Int.reduceToNat, Int.reduceAdd, Int.reduceSub, bts, ↓g_gdc, rcOk, true_and, ↓g_call _ _ c_octet_Reader_Left]
    refine CallK.as ac_Left (aft_nil ?_)
    have hb := pc_awake12
    simp -implicitDefEqProofs -dsimp only [go_sem, Nat.reduceEqDiff, Nat.reduceAdd, Nat.reduceMul, Nat.reduceSub, Nat.reduceLT, Nat.reduceLeDiff, Nat.reduceBEq, reduceIte, reduceCtorEq, Int.reduceLT, Int.reduceLE, Int.reduceEq, Int.reduceNeg, Int.reduceToNat, Int.reduceAdd, Int.reduceSub, Bool.false_eq_true, decide_true, ↓g_gdc, rcOk, true_and, ↓g_call _ _ c_sautoirlaw12_awake]
    refine CallK.pure hb (aft_nil ?_)
    simp -implicitDefEqProofs -dsimp only [go_sem, Nat.reduceEqDiff, Nat.reduceAdd, Nat.reduceMul, Nat.reduceSub, Nat.reduceLT, Nat.reduceLeDiff, Nat.reduceBEq, reduceIte, reduceCtorEq, Int.reduceLT, Int.reduceLE, Int.reduceEq, Int.reduceNeg, Int.reduceToNat, Int.reduceAdd, Int.reduceSub]
    rw [rT_rT]
    exact (hT.put (hT.unused hid)).fin
end Go.Aw
