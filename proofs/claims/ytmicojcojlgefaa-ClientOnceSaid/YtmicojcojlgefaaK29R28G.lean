import Derived.Test.YtmicojcojlgefaaK29M17A
namespace Go.Aw
open Go
open Go.Proofs.Try (prog)
set_option linter.all false
set_option maxHeartbeats 4000000

def Cf.place (c : Cf) (n : Int) : Int := if c.right then ixI n c.ch else -1
def Cf.at (c : Cf) (k : Int) : Int := if c.right = true ∧ 0 ≤ k ∧ k < c.ch.length then (c.ch[k.toNat]?).getD 0 else -1

theorem pc_at (c : Cf) (k1 k2 : Option Nat) (n : Int) (hl : Len c.ch.length) : PCalls prog f_conf_Conf_at [.agg (c.cells k1 k2), .i .i64 n] (.i .i64 (c.at n)) := by
  refine pcalls_of mixed t_conf_Conf_at (by simp) fun T => ?_
  unfold s_conf_Conf_at
  simp -implicitDefEqProofs -dsimp only [go_sem, seval, Cf.cells, ↓g_call _ _ c_conf_Right]
  (first | (apply br_split <;> intro h_1 <;> simp -implicitDefEqProofs -dsimp only [go_sem, seval, Cf.cells, ↓g_call _ _ c_conf_Right, h_1]) | (refine CallK.pure (pc_conf_Right c k1 k2 hl) (aft_nil ?_); simp -implicitDefEqProofs -dsimp only [go_sem, seval, Cf.cells, ↓g_call _ _ c_conf_Right]; have h_1 := trivial) | (have h_1 := trivial)) <;>
    (first | (apply br_split <;> intro h_2 <;> simp -implicitDefEqProofs -dsimp only [go_sem, seval, Cf.cells, ↓g_call _ _ c_conf_Right, h_1, h_2]) | (refine CallK.pure (pc_conf_Right c k1 k2 hl) (aft_nil ?_); simp -implicitDefEqProofs -dsimp only [go_sem, seval, Cf.cells, ↓g_call _ _ c_conf_Right, h_1]; have h_2 := trivial) | (have h_2 := trivial)) <;>
    (first | (apply br_split <;> intro h_3 <;> simp -implicitDefEqProofs -dsimp only [go_sem, seval, Cf.cells, ↓g_call _ _ c_conf_Right, h_1, h_2, h_3]) | (refine CallK.pure (pc_conf_Right c k1 k2 hl) (aft_nil ?_); simp -implicitDefEqProofs -dsimp only [go_sem, seval, Cf.cells, ↓g_call _ _ c_conf_Right, h_1, h_2]; have h_3 := trivial) | (have h_3 := trivial)) <;>
    (first | (apply br_split <;> intro h_4 <;> simp -implicitDefEqProofs -dsimp only [go_sem, seval, Cf.cells, ↓g_call _ _ c_conf_Right, h_1, h_2, h_3, h_4]) | (refine CallK.pure (pc_conf_Right c k1 k2 hl) (aft_nil ?_); simp -implicitDefEqProofs -dsimp only [go_sem, seval, Cf.cells, ↓g_call _ _ c_conf_Right, h_1, h_2, h_3]; have h_4 := trivial) | (have h_4 := trivial))
  · refine finL_pure ?_
    simp only [Bool.not_eq_true'] at h_2
    simp [Cf.at, h_2]
  · refine finL_pure ?_
    have := of_decide_eq_true h_3
    rw [Cf.at, if_neg (by omega)]
  · refine finL_pure ?_
    have := of_decide_eq_true h_4
    rw [Cf.at, if_neg (by omega)]
  · have e3 := of_decide_eq_false h_3
    have e4 := of_decide_eq_false h_4
    simp only [Bool.not_eq_false'] at h_2
    have hb : 0 ≤ n ∧ n < (c.ch.length : Int) := by omega
    have hx : c.ch[n.toNat]? = some c.ch[n.toNat] := List.getElem?_eq_getElem (by omega)
    simp -implicitDefEqProofs -dsimp only [go_sem, seval, hb, ints_at, hx]
    refine finL_pure ?_
    rw [Cf.at, if_pos ⟨h_2, hb⟩, hx]
    rfl

theorem pc_Head (c : Cf) (k1 k2 : Option Nat) (hl : Len c.ch.length) : PCalls prog f_conf_Conf_Head [.agg (c.cells k1 k2)] (.i .i64 (c.at 0)) := by
  refine pcalls_of mixed t_conf_Conf_Head (by simp) fun T => ?_
  unfold s_conf_Conf_Head
  simp -implicitDefEqProofs -dsimp only [go_sem, seval, Cf.cells, ↓g_call _ _ c_conf_Conf_at]
  refine CallK.pure (pc_at c k1 k2 0 hl) (aft_nil ?_)
  simp -implicitDefEqProofs -dsimp only [go_sem, seval]
  exact finL_pure rfl

def Cf.has (c : Cf) (n : Int) : Bool := c.right && decide (0 ≤ n) && (decide (n = c.ln) || ctn c.ch n)

end Go.Aw

namespace Go.Aw
open Go
open Go.Proofs.Try (prog)
set_option linter.all false
set_option maxHeartbeats 4000000

theorem ac_Clone_int {T : Tab} {n : Nat} {xs : List AV} {cap : Option Nat} (hx : xs.length = n) (hn : n ≤ 1000000000) : ACalls prog f_slices_Clone_int_int [.fz n xs cap] T (fun v T' => Own T 1 v n xs T') := by
  refine acalls_of mixed t_slices_Clone_int_int (by simp) ?_
  unfold s_slices_Clone_int_int
  have main : ∀ K : AV → Tab → Prop, (∀ v T', Own T 1 v n xs T' → K v T') → appStep 1 8 T (.fz 0 [] (some 0)) (.fz n xs cap) K := fun K hK =>
    (Own.nil T 1).app (m := n) (news := xs) (by simp [slCells, hx]) rfl (by omega) (by omega) (by simpa using hK)
  simp -implicitDefEqProofs -dsimp only [go_sem, seval, snl_fz]
  split
  · refine main _ fun v T' h => ?_
    refine aft_nil ?_
    obtain ⟨q1, q2, q3, q4, q5, q6⟩ := h.form
    simp -implicitDefEqProofs -dsimp only [go_sem, seval, q1]
    exact h.fin (fun _ _ h => h)
  · rename_i h0
    have e : n = 0 := by omega
    subst e
    have e : xs = [] := by simpa using hx
    subst e
    intro b
    refine br_split (fun h => ?_) (fun h => ?_) <;> simp -implicitDefEqProofs -dsimp only [go_sem, seval]
    · exact (Own.nil T 1).fin (fun _ _ h => h)
    · refine main _ fun v T' h => ?_
      refine aft_nil ?_
      obtain ⟨q1, q2, q3, q4, q5, q6⟩ := h.form
      simp -implicitDefEqProofs -dsimp only [go_sem, seval, q1]
      exact h.fin (fun _ _ h => h)

theorem ac_Clone_bool {T : Tab} {n : Nat} {xs : List AV} {cap : Option Nat} (hx : xs.length = n) (hn : n ≤ 1000000000) : ACalls prog f_slices_Clone_bool_bool [.fz n xs cap] T (fun v T' => Own T 1 v n xs T') := by
  refine acalls_of mixed t_slices_Clone_bool_bool (by simp) ?_
  unfold s_slices_Clone_bool_bool
  have main : ∀ K : AV → Tab → Prop, (∀ v T', Own T 1 v n xs T' → K v T') → appStep 1 1 T (.fz 0 [] (some 0)) (.fz n xs cap) K := fun K hK =>
    (Own.nil T 1).app (m := n) (news := xs) (by simp [slCells, hx]) rfl (by omega) (by omega) (by simpa using hK)
  simp -implicitDefEqProofs -dsimp only [go_sem, seval, snl_fz]
  split
  · refine main _ fun v T' h => ?_
    refine aft_nil ?_
    obtain ⟨q1, q2, q3, q4, q5, q6⟩ := h.form
    simp -implicitDefEqProofs -dsimp only [go_sem, seval, q1]
    exact h.fin (fun _ _ h => h)
  · rename_i h0
    have e : n = 0 := by omega
    subst e
    have e : xs = [] := by simpa using hx
    subst e
    intro b
    refine br_split (fun h => ?_) (fun h => ?_) <;> simp -implicitDefEqProofs -dsimp only [go_sem, seval]
    · exact (Own.nil T 1).fin (fun _ _ h => h)
    · refine main _ fun v T' h => ?_
      refine aft_nil ?_
      obtain ⟨q1, q2, q3, q4, q5, q6⟩ := h.form
      simp -implicitDefEqProofs -dsimp only [go_sem, seval, q1]
      exact h.fin (fun _ _ h => h)

end Go.Aw

namespace Go.Aw
open Go
open Go.Proofs.Try (prog)
set_option linter.all false
set_option maxHeartbeats 4000000

/-- A struct whose two slices are owned is handed to a function for good. -/
theorem CallK.frz2 {P : Program} {f : FuncId} {T T' : Tab} {l : List Ow} {n m : Nat} {v1 v2 : AV} {xs ys : List AV} {k1 k2 k3 : IntKind} {a b c : Int} {r : AV} {k : AV → Tab → Prop} (h : Owns T (⟨1, v1, n, xs⟩ :: ⟨1, v2, m, ys⟩ :: l) T') (hn : 0 < n) (hm : 0 < m)
    (hc : ∀ q1 q2, PCalls P f [.agg [.i k1 a, .i k2 b, .fz n xs q1, .fz m ys q2, .i k3 c]] r) (hk : ∀ T'', Owns T l T'' → k r T'') : CallK P f [.agg [.i k1 a, .i k2 b, v1, v2, .i k3 c]] T' k := by
  obtain ⟨T1, ⟨T0, h0, hy, h2⟩, hx, h1⟩ := h
  rcases h2 with ⟨_, e, _⟩ | ⟨j, e2, hj, rfl⟩
  · simp only at e; omega
  rcases h1 with ⟨_, e, _⟩ | ⟨i, e1, hi, rfl⟩
  · simp only at e; omega
  simp only at e1 e2 hx hy
  subst e1; subst e2
  obtain ⟨hij, hi0⟩ := Tab.unused_put hi
  have t1 : ((T0.put j (.row 1 ys)).put i (.row 1 xs)) i = .row 1 xs := Tab.put_same ..
  have t2 : ((T0.put j (.row 1 ys)).put i (.row 1 xs)) j = .row 1 ys := by rw [Tab.put_ne _ _ (Ne.symm hij)]; exact Tab.put_same ..
  have hkill : kill ((T0.put j (.row 1 ys)).put i (.row 1 xs)) [i, j] = T0 := by
    simp only [kill]
    funext q
    simp only [Tab.put]
    by_cases h1 : q = i
    · subst h1; simp [hi0]
    · by_cases h2 : q = j
      · subst h2; simp [h1, hj]
      · simp [h1, h2]
  unfold CallK
  refine ⟨[i, j], fun v T' => v = r ∧ T' = T0, by simp [hij], ?_, ?_, ?_⟩
  · intro id hid
    simp only [List.mem_cons, List.not_mem_nil, or_false] at hid
    rcases hid with rfl | rfl
    · rw [t1]; simp
    · rw [t2]; simp
  · rw [hkill]
    have e : ([AV.agg [.i k1 a, .i k2 b, .sl i 0 n none, .sl j 0 m none, .i k3 c]].map (frzv ((T0.put j (.row 1 ys)).put i (.row 1 xs)) [i, j])) = [.agg [.i k1 a, .i k2 b, .fz n xs none, .fz m ys none, .i k3 c]] := by
      simp only [List.map_cons, List.map_nil, frzv, frz1, List.mem_cons, true_or, or_true, if_true, t1, t2, Nat.zero_add, List.drop_zero]
      rw [if_pos (by omega), if_pos (by omega), List.take_of_length_le (by omega), List.take_of_length_le (by omega)]
    rw [e]
    exact hc none none T0
  · intro v T' h
    rw [h.1, h.2]
    exact hk T0 h0

theorem pc_ocopied (c : Cf) (k1 k2 : Option Nat) (h1 : c.ch.length ≤ 1000000000) (h2 : c.fu.length ≤ 1000000000) : PCalls prog f_order_copied [.agg (c.cells k1 k2)] (.agg (c.cells none none)) := by
  refine pcalls_of mixed t_order_copied (by simp) fun T => ?_
  unfold s_order_copied
  simp -implicitDefEqProofs -dsimp only [go_sem, seval, Cf.cells, ↓g_call _ _ c_slices_Clone_int_int]
  refine CallK.of (ac_Clone_int (xs := ints c.ch) (ints_length _) h1) (fun v1 T1 o1 => ?_)
  refine aft_nil ?_
  obtain ⟨p1, p2, p3, p4, p5, p6⟩ := o1.form
  simp -implicitDefEqProofs -dsimp only [go_sem, seval, ↓g_call _ _ c_slices_Clone_bool_bool, p1, p2, p3, p4, p5, p6]
  refine CallK.of (ac_Clone_bool (xs := bools c.fu) (bools_length _) h2) (fun v2 T2 o2 => ?_)
  refine aft_nil ?_
  obtain ⟨q1, q2, q3, q4, q5, q6⟩ := o2.form
  simp -implicitDefEqProofs -dsimp only [go_sem, seval, p1, p2, p3, p4, p5, p6, q1, q2, q3, q4, q5, q6]
  have how : Owns T [⟨1, v2, c.fu.length, bools c.fu⟩, ⟨1, v1, c.ch.length, ints c.ch⟩] T2 := ⟨T1, ⟨T, rfl, o1⟩, o2⟩
  refine finL_owns how fun S hS => ?_
  obtain ⟨c1, e1⟩ := hS _ (List.mem_cons_of_mem _ (List.mem_cons_self ..))
  obtain ⟨c2, e2⟩ := hS _ (List.mem_cons_self ..)
  simp only at e1 e2
  simp only [frzt, frzv, List.map_cons, List.map_nil, e1, e2, frz1_i]
  exact Wk.agg Wks.cf

theorem pc_rcopied (c : Cf) (k1 k2 : Option Nat) (h1 : c.ch.length ≤ 1000000000) (h2 : c.fu.length ≤ 1000000000) : PCalls prog f_route_copied [.agg (c.cells k1 k2)] (.agg (c.cells none none)) := by
  refine pcalls_of mixed t_route_copied (by simp) fun T => ?_
  unfold s_route_copied
  simp -implicitDefEqProofs -dsimp only [go_sem, seval, Cf.cells, ↓g_call _ _ c_slices_Clone_int_int]
  refine CallK.of (ac_Clone_int (xs := ints c.ch) (ints_length _) h1) (fun v1 T1 o1 => ?_)
  refine aft_nil ?_
  obtain ⟨p1, p2, p3, p4, p5, p6⟩ := o1.form
  simp -implicitDefEqProofs -dsimp only [go_sem, seval, ↓g_call _ _ c_slices_Clone_bool_bool, p1, p2, p3, p4, p5, p6]
  refine CallK.of (ac_Clone_bool (xs := bools c.fu) (bools_length _) h2) (fun v2 T2 o2 => ?_)
  refine aft_nil ?_
  obtain ⟨q1, q2, q3, q4, q5, q6⟩ := o2.form
  simp -implicitDefEqProofs -dsimp only [go_sem, seval, p1, p2, p3, p4, p5, p6, q1, q2, q3, q4, q5, q6]
  have how : Owns T [⟨1, v2, c.fu.length, bools c.fu⟩, ⟨1, v1, c.ch.length, ints c.ch⟩] T2 := ⟨T1, ⟨T, rfl, o1⟩, o2⟩
  refine finL_owns how fun S hS => ?_
  obtain ⟨c1, e1⟩ := hS _ (List.mem_cons_of_mem _ (List.mem_cons_self ..))
  obtain ⟨c2, e2⟩ := hS _ (List.mem_cons_self ..)
  simp only at e1 e2
  simp only [frzt, frzv, List.map_cons, List.map_nil, e1, e2, frz1_i]
  exact Wk.agg Wks.cf
end Go.Aw

