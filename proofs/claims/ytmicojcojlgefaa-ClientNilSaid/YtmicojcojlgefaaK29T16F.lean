import Derived.Test.YtmicojcojlgefaaK29T16E
namespace Go.Aw
open Go
open Go.Proofs.Try (prog)
set_option linter.all false
set_option maxHeartbeats 4000000

theorem ac_Clone_int {T : Tab} {n : Nat} {xs : List AV} {cap : Option Nat} (hx : xs.length = n) (hn : n ≤ 1000000000) : ACalls prog f_slices_Clone_int_int [.fz n xs cap] T (fun v T' => Own T 1 v n xs T') := by
  refine acalls_of mixed t_slices_Clone_int_int (by simp) ?_
  unfold s_slices_Clone_int_int
  have main : ∀ K : AV → Tab → Prop, (∀ v T', Own T 1 v n xs T' → K v T') → appStep 1 8 T (.fz 0 [] (some 0)) (.fz n xs cap) K := fun K hK =>
    (Own.nil T 1).app (m := n) (news := xs) (by simp [slCells, hx]) rfl (by omega) (by omega) (by simpa using hK)
  simp -implicitDefEqProofs -dsimp only [go_sem, seval, snl_fz]
  split
  · refine main _ fun v T' h => ?_
    refine aft_nil ?_
    obtain ⟨q1, q2, q3, q4, q5, q6⟩ := h.form
    simp -implicitDefEqProofs -dsimp only [go_sem, seval, q1]
    exact h.fin (fun _ _ h => h)
  · rename_i h0
    have e : n = 0 := by omega
    subst e
    have e : xs = [] := by simpa using hx
    subst e
    intro b
    refine br_split (fun h => ?_) (fun h => ?_) <;> simp -implicitDefEqProofs -dsimp only [go_sem, seval]
    · exact (Own.nil T 1).fin (fun _ _ h => h)
    · refine main _ fun v T' h => ?_
      refine aft_nil ?_
      obtain ⟨q1, q2, q3, q4, q5, q6⟩ := h.form
      simp -implicitDefEqProofs -dsimp only [go_sem, seval, q1]
      exact h.fin (fun _ _ h => h)

theorem ac_Clone_bool {T : Tab} {n : Nat} {xs : List AV} {cap : Option Nat} (hx : xs.length = n) (hn : n ≤ 1000000000) : ACalls prog f_slices_Clone_bool_bool [.fz n xs cap] T (fun v T' => Own T 1 v n xs T') := by
  refine acalls_of mixed t_slices_Clone_bool_bool (by simp) ?_
  unfold s_slices_Clone_bool_bool
  have main : ∀ K : AV → Tab → Prop, (∀ v T', Own T 1 v n xs T' → K v T') → appStep 1 1 T (.fz 0 [] (some 0)) (.fz n xs cap) K := fun K hK =>
    (Own.nil T 1).app (m := n) (news := xs) (by simp [slCells, hx]) rfl (by omega) (by omega) (by simpa using hK)
  simp -implicitDefEqProofs -dsimp only [go_sem, seval, snl_fz]
  split
  · refine main _ fun v T' h => ?_
    refine aft_nil ?_
    obtain ⟨q1, q2, q3, q4, q5, q6⟩ := h.form
    simp -implicitDefEqProofs -dsimp only [go_sem, seval, q1]
    exact h.fin (fun _ _ h => h)
  · rename_i h0
    have e : n = 0 := by omega
    subst e
    have e : xs = [] := by simpa using hx
    subst e
    intro b
    refine br_split (fun h => ?_) (fun h => ?_) <;> simp -implicitDefEqProofs -dsimp only [go_sem, seval]
    · exact (Own.nil T 1).fin (fun _ _ h => h)
    · refine main _ fun v T' h => ?_
      refine aft_nil ?_
      obtain ⟨q1, q2, q3, q4, q5, q6⟩ := h.form
      simp -implicitDefEqProofs -dsimp only [go_sem, seval, q1]
      exact h.fin (fun _ _ h => h)

end Go.Aw

