import Derived.Test.YtmicojcojlgefaaK29M17M
import Derived.Test.YtmicojcojlgefaaK29S12X
import Derived.Test.YtmicojcojlgefaaK29R28S
import Derived.Test.YtmicojcojlgefaaAwMore5
namespace Go.Aw
open Go
open Go.Proofs.Try (prog)
set_option linter.all false
set_option maxHeartbeats 8000000
set_option maxRecDepth 8000

/-! Ops as values. -/
theorem pc_CloneRead {n : Nat} {xs : List AV} {cap : Option Nat} (hx : xs.length = n * 2) (hn : n ≤ 1000000000) : PCalls prog f_slices_Clone_entry_Read_entry_Read [.fz n xs cap] (.fz n xs none) := by
  refine pcalls_of mixed t_slices_Clone_entry_Read_entry_Read (by simp) fun T => ?_
  unfold s_slices_Clone_entry_Read_entry_Read
  have fin : ∀ v T', Own T 2 v n xs T' → finL v (fun r T'' => r = .fz n xs none ∧ T'' = T) T' := fun v T' h => by
    refine finL_owns (l := [⟨2, v, n, xs⟩]) ⟨T, rfl, h⟩ fun S hS => ?_
    obtain ⟨c1, e2⟩ := hS _ (List.mem_cons_self ..)
    have : frzt T' S v = frz1 T' S v := by rcases h.2 with ⟨h, _⟩ | ⟨j, h, _⟩ <;> (rw [h]; rfl)
    rw [this, e2]
    exact .fz
  have main : ∀ K : AV → Tab → Prop, (∀ v T', Own T 2 v n xs T' → K v T') → appStep 2 24 T (.fz 0 [] (some 0)) (.fz n xs cap) K := fun K hK =>
    (Own.nil T 2).app (m := n) (news := xs) (by simp [slCells, hx]) rfl (by omega) (by omega) (by simpa using hK)
  simp -implicitDefEqProofs -dsimp only [go_sem, seval, snl_fz]
  split
  · refine main _ fun v T' h => ?_
    refine aft_nil ?_
    obtain ⟨q1, q2, q3, q4, q5, q6⟩ := h.form
    simp -implicitDefEqProofs -dsimp only [go_sem, seval, q1]
    exact fin v T' h
  · rename_i h0
    have e : n = 0 := by omega
    subst e
    have e : xs = [] := by simpa using hx
    subst e
    intro b
    refine br_split (fun h => ?_) (fun h => ?_) <;> simp -implicitDefEqProofs -dsimp only [go_sem, seval]
    · exact fin _ _ (Own.nil T 2)
    · refine main _ fun v T' h => ?_
      refine aft_nil ?_
      obtain ⟨q1, q2, q3, q4, q5, q6⟩ := h.form
      simp -implicitDefEqProofs -dsimp only [go_sem, seval, q1]
      exact fin v T' h
theorem pc_CloneWrite {n : Nat} {xs : List AV} {cap : Option Nat} (hx : xs.length = n * 3) (hn : n ≤ 1000000000) : PCalls prog f_slices_Clone_entry_Write_entry_Write [.fz n xs cap] (.fz n xs none) := by
  refine pcalls_of mixed t_slices_Clone_entry_Write_entry_Write (by simp) fun T => ?_
  unfold s_slices_Clone_entry_Write_entry_Write
  have fin : ∀ v T', Own T 3 v n xs T' → finL v (fun r T'' => r = .fz n xs none ∧ T'' = T) T' := fun v T' h => by
    refine finL_owns (l := [⟨3, v, n, xs⟩]) ⟨T, rfl, h⟩ fun S hS => ?_
    obtain ⟨c1, e2⟩ := hS _ (List.mem_cons_self ..)
    have : frzt T' S v = frz1 T' S v := by rcases h.2 with ⟨h, _⟩ | ⟨j, h, _⟩ <;> (rw [h]; rfl)
    rw [this, e2]
    exact .fz
  have main : ∀ K : AV → Tab → Prop, (∀ v T', Own T 3 v n xs T' → K v T') → appStep 3 40 T (.fz 0 [] (some 0)) (.fz n xs cap) K := fun K hK =>
    (Own.nil T 3).app (m := n) (news := xs) (by simp [slCells, hx]) rfl (by omega) (by omega) (by simpa using hK)
  simp -implicitDefEqProofs -dsimp only [go_sem, seval, snl_fz]
  split
  · refine main _ fun v T' h => ?_
    refine aft_nil ?_
    obtain ⟨q1, q2, q3, q4, q5, q6⟩ := h.form
    simp -implicitDefEqProofs -dsimp only [go_sem, seval, q1]
    exact fin v T' h
  · rename_i h0
    have e : n = 0 := by omega
    subst e
    have e : xs = [] := by simpa using hx
    subst e
    intro b
    refine br_split (fun h => ?_) (fun h => ?_) <;> simp -implicitDefEqProofs -dsimp only [go_sem, seval]
    · exact fin _ _ (Own.nil T 3)
    · refine main _ fun v T' h => ?_
      refine aft_nil ?_
      obtain ⟨q1, q2, q3, q4, q5, q6⟩ := h.form
      simp -implicitDefEqProofs -dsimp only [go_sem, seval, q1]
      exact fin v T' h
structure Cp where
  k : Int
  key : Bs
  v : Bs
  rs : List Rd
  ws : List Wt
def Cp.cells (o : Cp) : List AV := [.i .i64 o.k, .s o.key, .s o.v, .fz o.rs.length (o.rs.flatMap rdC) none, .fz o.ws.length (o.ws.flatMap wtC) none]
def Cp.our (o : Cp) : Cp := { o with rs := o.rs.take 10, ws := o.ws.take 10 }
structure Cp.Wide (o : Cp) : Prop where
  key : Len o.key.length
  v : Len o.v.length
  t : (⟨0, 0, false, o.rs, o.ws⟩ : Tx).Wide
structure Cp.Fine (o : Cp) : Prop where
  key : Len o.key.length
  v : Len o.v.length
  t : (⟨0, 0, false, o.rs, o.ws⟩ : Tx).Fine
def txn (o : Cp) (cl sq : Int) : Tx :=
  if o.k = 2 then ⟨cl, sq, true, [], [⟨o.key, o.v, false⟩]⟩ else if o.k = 3 then ⟨cl, sq, true, [], [⟨o.key, [], true⟩]⟩ else if o.k = 4 then ⟨cl, sq, false, o.rs, o.ws⟩ else ⟨0, 0, false, [], []⟩
theorem txn_fine {o : Cp} (h : o.Fine) (cl sq : Int) : (txn o cl sq).Fine := by
  obtain ⟨h1, h2, h3, h4, h5, h6, h7⟩ := h
  unfold txn
  split
  · exact ⟨(show (0 : Nat) < 1000000000 by decide), (show (1 : Nat) < 1000000000 by decide), fun _ h => (by cases h), fun r h => by simp only [List.mem_singleton] at h; subst h; exact h1, fun r h => by simp only [List.mem_singleton] at h; subst h; exact h2⟩
  split
  · exact ⟨(show (0 : Nat) < 1000000000 by decide), (show (1 : Nat) < 1000000000 by decide), fun _ h => (by cases h), fun r h => by simp only [List.mem_singleton] at h; subst h; exact h1, fun r h => by simp only [List.mem_singleton] at h; subst h; exact (show (0 : Nat) < 9223372036854775808 by decide)⟩
  split
  · exact ⟨h3, h4, h5, h6, h7⟩
  · exact ⟨by decide, by decide, fun _ h => (by cases h), fun _ h => (by cases h), fun _ h => (by cases h)⟩
theorem opk (k : Int) : k = 2 ∨ k = 3 ∨ k = 4 ∨ (decide (k = 2) = false ∧ decide (k = 3) = false ∧ decide (k = 4) = false) := by
  simp only [decide_eq_false_iff_not]; omega
theorem Wks.tx0 {a b c : AV} {n m : Nat} {xs ys : List AV} {p q : Option Nat} : Wks [a, b, c, .fz n xs p, .fz m ys q] [a, b, c, .fz n xs none, .fz m ys none] := ⟨.refl _, .refl _, .refl _, .fz, .fz, trivial⟩
theorem pc_Txn (o : Cp) (cl sq : Int) (h : o.Fine) : PCalls prog f_client_Op_Txn [.agg o.cells, .agg [.i .i64 cl, .i .u64 sq]] (.agg ((txn o cl sq).cells none none)) := by
  refine pcalls_of mixed t_client_Op_Txn (by simp) fun T => ?_
  have c1 := pc_CloneRead (n := o.rs.length) (xs := o.rs.flatMap rdC) (cap := none) (flat_length rdC_len o.rs) (by have := h.t.r; simp only at this; omega)
  have c2 := pc_CloneWrite (n := o.ws.length) (xs := o.ws.flatMap wtC) (cap := none) (flat_length wtC_len o.ws) (by have := h.t.w; simp only at this; omega)
  obtain ⟨k, key, v, rs, ws⟩ := o
  simp only at c1 c2
  unfold s_client_Op_Txn
  rcases opk k with rfl | rfl | rfl | ⟨h2, h3, h4⟩
  · simp -implicitDefEqProofs -dsimp only [go_sem, seval, Cp.cells, decide_true]
    refine fin_as ?_ rfl
    exact Wk.agg Wks.tx0
  · simp -implicitDefEqProofs -dsimp only [go_sem, seval, Cp.cells, decide_true, decide_false]
    refine fin_as ?_ rfl
    exact Wk.agg Wks.tx0
  · simp -implicitDefEqProofs -dsimp only [go_sem, seval, Cp.cells, decide_true, decide_false, ↓g_call _ _ c_slices_Clone_entry_Read_entry_Read]
    refine CallK.pure c1 (aft_nil ?_)
    simp -implicitDefEqProofs -dsimp only [go_sem, seval, ↓g_call _ _ c_slices_Clone_entry_Write_entry_Write]
    refine CallK.pure c2 (aft_nil ?_)
    simp -implicitDefEqProofs -dsimp only [go_sem, seval]
    refine fin_as ?_ rfl
    exact Wk.agg Wks.tx0
  · simp -implicitDefEqProofs -dsimp only [go_sem, seval, Cp.cells, h2, h3, h4]
    refine fin_as ?_ rfl
    have e : txn ⟨k, key, v, rs, ws⟩ cl sq = ⟨0, 0, false, [], []⟩ := by
      unfold txn
      rw [if_neg (of_decide_eq_false h2), if_neg (of_decide_eq_false h3), if_neg (of_decide_eq_false h4)]
    rw [e]
    exact Wk.agg Wks.tx0
def mayF (o : Cp) : Bool := if o.k = 1 then keyOk o.key else txOk (txn o 0 1)
theorem pc_cMay (o : Cp) (h : o.Fine) : PCalls prog f_client_May [.agg o.cells] (.b (mayF o)) := by
  refine pcalls_of mixed t_client_May (by simp) fun T => ?_
  have c1 := pc_kRight o.key h.key
  have c2 := pc_Txn o 0 1 h
  have c3 := pc_RightTxn (txn o 0 1) none none (txn_fine h 0 1)
  unfold mayF
  simp only [Cp.cells] at c2
  unfold s_client_May
  by_cases h1 : o.k = 1
  · rw [if_pos h1]
    have d : decide (o.k = 1) = true := decide_eq_true h1
    simp -implicitDefEqProofs -dsimp only [go_sem, seval, Cp.cells, d, ↓g_call _ _ c_keys_Right]
    refine CallK.pure c1 (aft_nil ?_)
    simp -implicitDefEqProofs -dsimp only [go_sem, seval]
    exact finL_pure rfl
  · rw [if_neg h1]
    have d : decide (o.k = 1) = false := decide_eq_false h1
    generalize txn o 0 1 = t at *
    simp -implicitDefEqProofs -dsimp only [go_sem, seval, Cp.cells, d, ↓g_call _ _ c_client_Op_Txn]
    refine CallK.pure c2 (aft_nil ?_)
    simp -implicitDefEqProofs -dsimp only [go_sem, seval, ↓g_call _ _ c_entry_RightTxn]
    refine CallK.pure c3 (aft_nil ?_)
    simp -implicitDefEqProofs -dsimp only [go_sem, seval]
    exact finL_pure rfl
theorem pc_cOurs (o : Cp) (h : o.Wide) : PCalls prog f_sautoirlaw29_Ours [.agg o.cells] (.agg o.our.cells) := by
  refine pcalls_of mixed t_sautoirlaw29_Ours (by simp) fun T => ?_
  have c1 := pc_OurTxn ⟨0, 0, false, o.rs, o.ws⟩ none none h.t
  simp only [Tx.cells, Tx.our] at c1
  unfold s_sautoirlaw29_Ours
  simp -implicitDefEqProofs -dsimp only [go_sem, seval, Cp.cells, ↓g_call _ _ c_sautoirlaw12_OurTxn]
  refine CallK.pure c1 (aft_nil ?_)
  simp -implicitDefEqProofs -dsimp only [go_sem, seval]
  exact finL_pure rfl
theorem Cp.Wide.our {o : Cp} (h : o.Wide) : o.our.Fine := ⟨h.key, h.v, h.t.our⟩
end Go.Aw

