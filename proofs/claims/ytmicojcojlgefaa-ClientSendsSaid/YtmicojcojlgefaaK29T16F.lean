import Derived.Test.YtmicojcojlgefaaK29M17A
namespace Go.Aw
open Go
open Go.Proofs.Try (prog)
set_option linter.all false
set_option maxHeartbeats 4000000

def Cf.place (c : Cf) (n : Int) : Int := if c.right then ixI n c.ch else -1
def Cf.at (c : Cf) (k : Int) : Int := if c.right = true ∧ 0 ≤ k ∧ k < c.ch.length then (c.ch[k.toNat]?).getD 0 else -1

theorem pc_at (c : Cf) (k1 k2 : Option Nat) (n : Int) (hl : Len c.ch.length) : PCalls prog f_conf_Conf_at [.agg (c.cells k1 k2), .i .i64 n] (.i .i64 (c.at n)) := by
  refine pcalls_of mixed t_conf_Conf_at (by simp) fun T => ?_
  unfold s_conf_Conf_at
  simp -implicitDefEqProofs -dsimp only [go_sem, seval, Cf.cells, ↓g_call _ _ c_conf_Right]
  (first | (apply br_split <;> intro h_1 <;> simp -implicitDefEqProofs -dsimp only [go_sem, seval, Cf.cells, ↓g_call _ _ c_conf_Right, h_1]) | (refine CallK.pure (pc_conf_Right c k1 k2 hl) (aft_nil ?_); simp -implicitDefEqProofs -dsimp only [go_sem, seval, Cf.cells, ↓g_call _ _ c_conf_Right]; have h_1 := trivial) | (have h_1 := trivial)) <;>
    (first | (apply br_split <;> intro h_2 <;> simp -implicitDefEqProofs -dsimp only [go_sem, seval, Cf.cells, ↓g_call _ _ c_conf_Right, h_1, h_2]) | (refine CallK.pure (pc_conf_Right c k1 k2 hl) (aft_nil ?_); simp -implicitDefEqProofs -dsimp only [go_sem, seval, Cf.cells, ↓g_call _ _ c_conf_Right, h_1]; have h_2 := trivial) | (have h_2 := trivial)) <;>
    (first | (apply br_split <;> intro h_3 <;> simp -implicitDefEqProofs -dsimp only [go_sem, seval, Cf.cells, ↓g_call _ _ c_conf_Right, h_1, h_2, h_3]) | (refine CallK.pure (pc_conf_Right c k1 k2 hl) (aft_nil ?_); simp -implicitDefEqProofs -dsimp only [go_sem, seval, Cf.cells, ↓g_call _ _ c_conf_Right, h_1, h_2]; have h_3 := trivial) | (have h_3 := trivial)) <;>
    (first | (apply br_split <;> intro h_4 <;> simp -implicitDefEqProofs -dsimp only [go_sem, seval, Cf.cells, ↓g_call _ _ c_conf_Right, h_1, h_2, h_3, h_4]) | (refine CallK.pure (pc_conf_Right c k1 k2 hl) (aft_nil ?_); simp -implicitDefEqProofs -dsimp only [go_sem, seval, Cf.cells, ↓g_call _ _ c_conf_Right, h_1, h_2, h_3]; have h_4 := trivial) | (have h_4 := trivial))
  · refine finL_pure ?_
    simp only [Bool.not_eq_true'] at h_2
    simp [Cf.at, h_2]
  · refine finL_pure ?_
    have := of_decide_eq_true h_3
    rw [Cf.at, if_neg (by omega)]
  · refine finL_pure ?_
    have := of_decide_eq_true h_4
    rw [Cf.at, if_neg (by omega)]
  · have e3 := of_decide_eq_false h_3
    have e4 := of_decide_eq_false h_4
    simp only [Bool.not_eq_false'] at h_2
    have hb : 0 ≤ n ∧ n < (c.ch.length : Int) := by omega
    have hx : c.ch[n.toNat]? = some c.ch[n.toNat] := List.getElem?_eq_getElem (by omega)
    simp -implicitDefEqProofs -dsimp only [go_sem, seval, hb, ints_at, hx]
    refine finL_pure ?_
    rw [Cf.at, if_pos ⟨h_2, hb⟩, hx]
    rfl

theorem pc_Head (c : Cf) (k1 k2 : Option Nat) (hl : Len c.ch.length) : PCalls prog f_conf_Conf_Head [.agg (c.cells k1 k2)] (.i .i64 (c.at 0)) := by
  refine pcalls_of mixed t_conf_Conf_Head (by simp) fun T => ?_
  unfold s_conf_Conf_Head
  simp -implicitDefEqProofs -dsimp only [go_sem, seval, Cf.cells, ↓g_call _ _ c_conf_Conf_at]
  refine CallK.pure (pc_at c k1 k2 0 hl) (aft_nil ?_)
  simp -implicitDefEqProofs -dsimp only [go_sem, seval]
  exact finL_pure rfl

def Cf.has (c : Cf) (n : Int) : Bool := c.right && decide (0 ≤ n) && (decide (n = c.ln) || ctn c.ch n)

end Go.Aw

namespace Go.Aw
open Go
open Go.Proofs.Try (prog)
set_option linter.all false
set_option maxHeartbeats 4000000

theorem ac_Clone_int {T : Tab} {n : Nat} {xs : List AV} {cap : Option Nat} (hx : xs.length = n) (hn : n ≤ 1000000000) : ACalls prog f_slices_Clone_int_int [.fz n xs cap] T (fun v T' => Own T 1 v n xs T') := by
  refine acalls_of mixed t_slices_Clone_int_int (by simp) ?_
  unfold s_slices_Clone_int_int
  have main : ∀ K : AV → Tab → Prop, (∀ v T', Own T 1 v n xs T' → K v T') → appStep 1 8 T (.fz 0 [] (some 0)) (.fz n xs cap) K := fun K hK =>
    (Own.nil T 1).app (m := n) (news := xs) (by simp [slCells, hx]) rfl (by omega) (by omega) (by simpa using hK)
  simp -implicitDefEqProofs -dsimp only [go_sem, seval, snl_fz]
  split
  · refine main _ fun v T' h => ?_
    refine aft_nil ?_
    obtain ⟨q1, q2, q3, q4, q5, q6⟩ := h.form
    simp -implicitDefEqProofs -dsimp only [go_sem, seval, q1]
    exact h.fin (fun _ _ h => h)
  · rename_i h0
    have e : n = 0 := by omega
    subst e
    have e : xs = [] := by simpa using hx
    subst e
    intro b
    refine br_split (fun h => ?_) (fun h => ?_) <;> simp -implicitDefEqProofs -dsimp only [go_sem, seval]
    · exact (Own.nil T 1).fin (fun _ _ h => h)
    · refine main _ fun v T' h => ?_
      refine aft_nil ?_
      obtain ⟨q1, q2, q3, q4, q5, q6⟩ := h.form
      simp -implicitDefEqProofs -dsimp only [go_sem, seval, q1]
      exact h.fin (fun _ _ h => h)

theorem ac_Clone_bool {T : Tab} {n : Nat} {xs : List AV} {cap : Option Nat} (hx : xs.length = n) (hn : n ≤ 1000000000) : ACalls prog f_slices_Clone_bool_bool [.fz n xs cap] T (fun v T' => Own T 1 v n xs T') := by
  refine acalls_of mixed t_slices_Clone_bool_bool (by simp) ?_
  unfold s_slices_Clone_bool_bool
  have main : ∀ K : AV → Tab → Prop, (∀ v T', Own T 1 v n xs T' → K v T') → appStep 1 1 T (.fz 0 [] (some 0)) (.fz n xs cap) K := fun K hK =>
    (Own.nil T 1).app (m := n) (news := xs) (by simp [slCells, hx]) rfl (by omega) (by omega) (by simpa using hK)
  simp -implicitDefEqProofs -dsimp only [go_sem, seval, snl_fz]
  split
  · refine main _ fun v T' h => ?_
    refine aft_nil ?_
    obtain ⟨q1, q2, q3, q4, q5, q6⟩ := h.form
    simp -implicitDefEqProofs -dsimp only [go_sem, seval, q1]
    exact h.fin (fun _ _ h => h)
  · rename_i h0
    have e : n = 0 := by omega
    subst e
    have e : xs = [] := by simpa using hx
    subst e
    intro b
    refine br_split (fun h => ?_) (fun h => ?_) <;> simp -implicitDefEqProofs -dsimp only [go_sem, seval]
    · exact (Own.nil T 1).fin (fun _ _ h => h)
    · refine main _ fun v T' h => ?_
      refine aft_nil ?_
      obtain ⟨q1, q2, q3, q4, q5, q6⟩ := h.form
      simp -implicitDefEqProofs -dsimp only [go_sem, seval, q1]
      exact h.fin (fun _ _ h => h)

end Go.Aw

