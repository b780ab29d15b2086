import Derived.Test.YtmicojcojlgefaaGreatZ29T16D
namespace Go.Aw
open Go
open Go.Proofs.Tryz (prog)
set_option linter.all false
set_option maxHeartbeats 4000000
theorem z4q {v : Int} : ∀ {l : List Int} {k j : Nat}, ixF v l k = some j -> k <= j /\ j < k + l.length
 | [], k, j, h => by simp [ixF] at h
 | y :: l, k, j, h => by
  simp only [ixF] at h
  split at h
  ·injection h with h; subst h; simp
  ·have := z4q h
   simp only [List.length_cons]
   omega
def Cf.place (c : Cf) (n : Int) : Int := if c.right then ixI n c.ch else -1
def Cf.at (c : Cf) (k : Int) : Int := if c.right = true /\ 0 <= k /\ k < c.ch.length then (c.ch[k.toNat]?).getD 0 else -1
theorem zct (c : Cf) (k1 k2 : Option Nat) (n : Int) (hl : Len c.ch.length) : PCalls prog qao [.agg (c.cells k1 k2), .i .i64 n] (.i .i64 (c.at n)) := by
 refine K5 Q7 qr9 (by simp) fun T => ?_
 unfold qkd
 simp -implicitDefEqProofs -dsimp only [go_sem, seval, Cf.cells, ↓J0 _ _ q24]
 (first | (apply J2 <;> intro h_1 <;> simp -implicitDefEqProofs -dsimp only [go_sem, seval, Cf.cells, ↓J0 _ _ q24, h_1]) | (refine CallK.pure (q7z c k1 k2 hl) (J1 ?_); simp -implicitDefEqProofs -dsimp only [go_sem, seval, Cf.cells, ↓J0 _ _ q24]; have h_1 := trivial) | (have h_1 := trivial)) <;>
  (first | (apply J2 <;> intro h_2 <;> simp -implicitDefEqProofs -dsimp only [go_sem, seval, Cf.cells, ↓J0 _ _ q24, h_1, h_2]) | (refine CallK.pure (q7z c k1 k2 hl) (J1 ?_); simp -implicitDefEqProofs -dsimp only [go_sem, seval, Cf.cells, ↓J0 _ _ q24, h_1]; have h_2 := trivial) | (have h_2 := trivial)) <;>
  (first | (apply J2 <;> intro h_3 <;> simp -implicitDefEqProofs -dsimp only [go_sem, seval, Cf.cells, ↓J0 _ _ q24, h_1, h_2, h_3]) | (refine CallK.pure (q7z c k1 k2 hl) (J1 ?_); simp -implicitDefEqProofs -dsimp only [go_sem, seval, Cf.cells, ↓J0 _ _ q24, h_1, h_2]; have h_3 := trivial) | (have h_3 := trivial)) <;>
  (first | (apply J2 <;> intro h_4 <;> simp -implicitDefEqProofs -dsimp only [go_sem, seval, Cf.cells, ↓J0 _ _ q24, h_1, h_2, h_3, h_4]) | (refine CallK.pure (q7z c k1 k2 hl) (J1 ?_); simp -implicitDefEqProofs -dsimp only [go_sem, seval, Cf.cells, ↓J0 _ _ q24, h_1, h_2, h_3]; have h_4 := trivial) | (have h_4 := trivial))
 ·refine K1 ?_
  simp only [Bool.not_eq_true'] at h_2
  simp [Cf.at, h_2]
 ·refine K1 ?_
  have := of_decide_eq_true h_3
  rw [Cf.at, if_neg (by omega)]
 ·refine K1 ?_
  have := of_decide_eq_true h_4
  rw [Cf.at, if_neg (by omega)]
 ·have e3 := of_decide_eq_false h_3
  have e4 := of_decide_eq_false h_4
  simp only [Bool.not_eq_false'] at h_2
  have hb : 0 <= n /\ n < (c.ch.length : Int) := by omega
  have hx : c.ch[n.toNat]? = some c.ch[n.toNat] := List.getElem?_eq_getElem (by omega)
  simp -implicitDefEqProofs -dsimp only [go_sem, seval, hb, qnh, hx]
  refine K1 ?_
  rw [Cf.at, if_pos ⟨h_2, hb⟩, hx]
  rfl
theorem z5w (c : Cf) (k1 k2 : Option Nat) (hl : Len c.ch.length) : PCalls prog q98 [.agg (c.cells k1 k2)] (.i .i64 (c.at 0)) := by
 refine K5 Q7 qoo (by simp) fun T => ?_
 unfold qgi
 simp -implicitDefEqProofs -dsimp only [go_sem, seval, Cf.cells, ↓J0 _ _ qra]
 refine cpn (zct c k1 k2 0 hl) ?_
 simp -implicitDefEqProofs -dsimp only [go_sem, seval]
 exact K1 rfl
def Cf.next (c : Cf) (n : Int) : Int := if c.place n < 0 then -1 else c.at (c.place n + 1)
def Cf.has (c : Cf) (n : Int) : Bool := c.right && decide (0 <= n) && (decide (n = c.ln) || ctn c.ch n)
end Go.Aw
namespace Go.Aw
open Go
open Go.Proofs.Tryz (prog)
set_option linter.all false
set_option maxHeartbeats 4000000
theorem qod {T : Tab} {n : Nat} {xs : List AV} {cap : Option Nat} (hx : xs.length = n) (hn : n <= 1000000000) : ACalls prog q1n [.fz n xs cap] T (fun v T' => Own T 1 v n xs T') := by
 refine U9 Q7 qgs (by simp) ?_
 unfold qad
 have main : ∀ K : AV -> Tab -> Prop, (∀ v T', Own T 1 v n xs T' -> K v T') -> q4z 1 8 T (.fz 0 [] (some 0)) (.fz n xs cap) K := fun K hK =>
  (Own.nil T 1).app (m := n) (news := xs) (by simp [Z0, hx]) rfl (by omega) (by omega) (by simpa using hK)
 simp -implicitDefEqProofs -dsimp only [go_sem, seval, qwt]
 split
 ·refine main _ fun v T' h => ?_
  refine J1 ?_
  obtain ⟨q1, q2, q3, q4, q5, q6⟩ := h.form
  simp -implicitDefEqProofs -dsimp only [go_sem, seval, q1]
  exact h.fin (fun _ _ h => h)
 ·rename_i h0
  have e : n = 0 := by omega
  subst e
  have e : xs = [] := by simpa using hx
  subst e
  intro b
  refine J2 (fun h => ?_) (fun h => ?_) <;> simp -implicitDefEqProofs -dsimp only [go_sem, seval]
  ·exact (Own.nil T 1).fin (fun _ _ h => h)
  ·refine main _ fun v T' h => ?_
   refine J1 ?_
   obtain ⟨q1, q2, q3, q4, q5, q6⟩ := h.form
   simp -implicitDefEqProofs -dsimp only [go_sem, seval, q1]
   exact h.fin (fun _ _ h => h)
theorem qn0 {T : Tab} {n : Nat} {xs : List AV} {cap : Option Nat} (hx : xs.length = n) (hn : n <= 1000000000) : ACalls prog q0y [.fz n xs cap] T (fun v T' => Own T 1 v n xs T') := by
 refine U9 Q7 qfg (by simp) ?_
 unfold q9q
 have main : ∀ K : AV -> Tab -> Prop, (∀ v T', Own T 1 v n xs T' -> K v T') -> q4z 1 1 T (.fz 0 [] (some 0)) (.fz n xs cap) K := fun K hK =>
  (Own.nil T 1).app (m := n) (news := xs) (by simp [Z0, hx]) rfl (by omega) (by omega) (by simpa using hK)
 simp -implicitDefEqProofs -dsimp only [go_sem, seval, qwt]
 split
 ·refine main _ fun v T' h => ?_
  refine J1 ?_
  obtain ⟨q1, q2, q3, q4, q5, q6⟩ := h.form
  simp -implicitDefEqProofs -dsimp only [go_sem, seval, q1]
  exact h.fin (fun _ _ h => h)
 ·rename_i h0
  have e : n = 0 := by omega
  subst e
  have e : xs = [] := by simpa using hx
  subst e
  intro b
  refine J2 (fun h => ?_) (fun h => ?_) <;> simp -implicitDefEqProofs -dsimp only [go_sem, seval]
  ·exact (Own.nil T 1).fin (fun _ _ h => h)
  ·refine main _ fun v T' h => ?_
   refine J1 ?_
   obtain ⟨q1, q2, q3, q4, q5, q6⟩ := h.form
   simp -implicitDefEqProofs -dsimp only [go_sem, seval, q1]
   exact h.fin (fun _ _ h => h)
end Go.Aw
namespace Go.Aw
open Go
open Go.Proofs.Tryz (prog)
set_option linter.all false
set_option maxHeartbeats 4000000
theorem CallK.frz2 {P : Program} {f : FuncId} {T T' : Tab} {l : List Ow} {n m : Nat} {v1 v2 : AV} {xs ys : List AV} {k1 k2 k3 : IntKind} {a b c : Int} {r : AV} {k : AV -> Tab -> Prop} (h : Owns T (⟨1, v1, n, xs⟩ :: ⟨1, v2, m, ys⟩ :: l) T') (hn : 0 < n) (hm : 0 < m)
  (hc : ∀ q1 q2, PCalls P f [.agg [.i k1 a, .i k2 b, .fz n xs q1, .fz m ys q2, .i k3 c]] r) (hk : ∀ T'', Owns T l T'' -> k r T'') : CallK P f [.agg [.i k1 a, .i k2 b, v1, v2, .i k3 c]] T' k := by
 obtain ⟨T1, ⟨T0, h0, hy, h2⟩, hx, h1⟩ := h
 rcases h2 with ⟨_, e, _⟩ | ⟨j, e2, hj, rfl⟩
 ·simp only at e; omega
 rcases h1 with ⟨_, e, _⟩ | ⟨i, e1, hi, rfl⟩
 ·simp only at e; omega
 simp only at e1 e2 hx hy
 subst e1; subst e2
 obtain ⟨hij, hi0⟩ := Tab.unused_put hi
 have t1 : ((T0.put j (.row 1 ys)).put i (.row 1 xs)) i = .row 1 xs := Tab.put_same ..
 have t2 : ((T0.put j (.row 1 ys)).put i (.row 1 xs)) j = .row 1 ys := by rw [Tab.put_ne _ _ (Ne.symm hij)]; exact Tab.put_same ..
 have hkill : qn8 ((T0.put j (.row 1 ys)).put i (.row 1 xs)) [i, j] = T0 := by
  simp only [qn8]
  funext q
  simp only [Tab.put]
  by_cases h1 : q = i
  ·subst h1; simp [hi0]
  ·by_cases h2 : q = j
   ·subst h2; simp [h1, hj]
   ·simp [h1, h2]
 unfold CallK
 refine ⟨[i, j], fun v T' => v = r /\ T' = T0, by simp [hij], ?_, ?_, ?_⟩
 ·intro id hid
  simp only [List.mem_cons, List.not_mem_nil, or_false] at hid
  rcases hid with rfl | rfl
  ·rw [t1]; simp
  ·rw [t2]; simp
 ·rw [hkill]
  have e : ([AV.agg [.i k1 a, .i k2 b, .sl i 0 n none, .sl j 0 m none, .i k3 c]].map (qns ((T0.put j (.row 1 ys)).put i (.row 1 xs)) [i, j])) = [.agg [.i k1 a, .i k2 b, .fz n xs none, .fz m ys none, .i k3 c]] := by
   simp only [List.map_cons, List.map_nil, qns, qn7, List.mem_cons, true_or, or_true, if_true, t1, t2, Nat.zero_add, List.drop_zero]
   rw [if_pos (by omega), if_pos (by omega), List.take_of_length_le (by omega), List.take_of_length_le (by omega)]
  rw [e]
  exact hc none none T0
 ·intro v T' h
  rw [h.1, h.2]
  exact hk T0 h0
theorem qy2 (c : Cf) (k1 k2 : Option Nat) (h1 : c.ch.length <= 1000000000) (h2 : c.fu.length <= 1000000000) : PCalls prog qam [.agg (c.cells k1 k2)] (.agg (c.cells none none)) := by
 refine K5 Q7 qr2 (by simp) fun T => ?_
 unfold qk9
 simp -implicitDefEqProofs -dsimp only [go_sem, seval, Cf.cells, ↓J0 _ _ qae]
 refine CallK.of (qod (xs := q9k c.ch) (qpt _) h1) (fun v1 T1 o1 => ?_)
 refine J1 ?_
 obtain ⟨p1, p2, p3, p4, p5, p6⟩ := o1.form
 simp -implicitDefEqProofs -dsimp only [go_sem, seval, ↓J0 _ _ q9r, p1, p2, p3, p4, p5, p6]
 refine CallK.of (qn0 (xs := q34 c.fu) (qh7 _) h2) (fun v2 T2 o2 => ?_)
 refine J1 ?_
 obtain ⟨q1, q2, q3, q4, q5, q6⟩ := o2.form
 simp -implicitDefEqProofs -dsimp only [go_sem, seval, p1, p2, p3, p4, p5, p6, q1, q2, q3, q4, q5, q6]
 have how : Owns T [⟨1, v2, c.fu.length, q34 c.fu⟩, ⟨1, v1, c.ch.length, q9k c.ch⟩] T2 := ⟨T1, ⟨T, rfl, o1⟩, o2⟩
 refine q4i how fun S hS => ?_
 obtain ⟨c1, e1⟩ := hS _ (List.mem_cons_of_mem _ (List.mem_cons_self ..))
 obtain ⟨c2, e2⟩ := hS _ (List.mem_cons_self ..)
 simp only at e1 e2
 simp only [qrh, qns, List.map_cons, List.map_nil, e1, e2, qo1]
 exact Wk.agg Wks.cf
theorem qrv (c : Cf) (k1 k2 : Option Nat) (h1 : c.ch.length <= 1000000000) (h2 : c.fu.length <= 1000000000) : PCalls prog q8s [.agg (c.cells k1 k2)] (.agg (c.cells none none)) := by
 refine K5 Q7 qr0 (by simp) fun T => ?_
 unfold qk7
 simp -implicitDefEqProofs -dsimp only [go_sem, seval, Cf.cells, ↓J0 _ _ qae]
 refine CallK.of (qod (xs := q9k c.ch) (qpt _) h1) (fun v1 T1 o1 => ?_)
 refine J1 ?_
 obtain ⟨p1, p2, p3, p4, p5, p6⟩ := o1.form
 simp -implicitDefEqProofs -dsimp only [go_sem, seval, ↓J0 _ _ q9r, p1, p2, p3, p4, p5, p6]
 refine CallK.of (qn0 (xs := q34 c.fu) (qh7 _) h2) (fun v2 T2 o2 => ?_)
 refine J1 ?_
 obtain ⟨q1, q2, q3, q4, q5, q6⟩ := o2.form
 simp -implicitDefEqProofs -dsimp only [go_sem, seval, p1, p2, p3, p4, p5, p6, q1, q2, q3, q4, q5, q6]
 have how : Owns T [⟨1, v2, c.fu.length, q34 c.fu⟩, ⟨1, v1, c.ch.length, q9k c.ch⟩] T2 := ⟨T1, ⟨T, rfl, o1⟩, o2⟩
 refine q4i how fun S hS => ?_
 obtain ⟨c1, e1⟩ := hS _ (List.mem_cons_of_mem _ (List.mem_cons_self ..))
 obtain ⟨c2, e2⟩ := hS _ (List.mem_cons_self ..)
 simp only at e1 e2
 simp only [qrh, qns, List.map_cons, List.map_nil, e1, e2, qo1]
 exact Wk.agg Wks.cf
end Go.Aw
