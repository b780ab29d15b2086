import Derived.Test.YtnkagdjmjakeiaaGreatDoorV22T16H
namespace Go.Aw
open Go
open Go.Proofs.Tryz (prog)
set_option linter.all false
set_option maxHeartbeats 4000000
theorem qbc {T : Tab} {r r' : AV} (h : Wk r r') : qdr r (fun v T' => v = r' /\ T' = T) T :=
 ⟨[], T, r', List.nodup_nil, by simp, fun _ => .inr (.inl rfl), by rw [qce]; exact h, rfl, rfl⟩
def Cf.ret (r : Cf × Int) : AV := .tup [.agg (r.1.cells none none), .i .i64 r.2]
theorem q9h (e : Int) : Wk (.tup [.agg (cfz.cells (some 0) (some 0)), .i .i64 e]) (Cf.ret (cfz, e)) :=
 Wk.tup ⟨Wk.agg Wks.cf, .refl _, trivial⟩
theorem q7q {T T' : Tab} {l : List Ow} (h : Owns T l T') (e : Int) : qdr (.tup [.agg (cfz.cells (some 0) (some 0)), .i .i64 e]) (fun v T' => v = Cf.ret (cfz, e) /\ T' = T) T' :=
 q9z h fun S _ => q9h e
theorem qde {T T' : Tab} {v1 v2 : AV} {l : List Ow} {r : Cf × Int} {ep sh ln e : Int} {ch : List Int} {fu : List Bool} {n m : Nat} (h : Owns T l T') (hr : r = (⟨ep, sh, ch, fu, ln⟩, e)) (h1 : ⟨1, v1, n, q38 ch⟩ ∈ l) (h2 : ⟨1, v2, m, G4 fu⟩ ∈ l)
  (hn : ch.length = n) (hm : fu.length = m) : qdr (.tup [.agg [.i .u64 ep, .i .i64 sh, v1, v2, .i .i64 ln], .i .i64 e]) (fun v T' => v = Cf.ret r /\ T' = T) T' := by
 subst hn; subst hm; subst hr
 refine q9z h fun S hS => ?_
 obtain ⟨c1, e1⟩ := hS _ h1
 obtain ⟨c2, e2⟩ := hS _ h2
 simp only at e1 e2
 simp only [ql8, qf0, List.map_cons, List.map_nil, e1, e2, qq4]
 exact Wk.tup ⟨Wk.agg Wks.cf, .refl _, trivial⟩
def Cf.remove (c : Cf) (n ep : Int) : Cf × Int :=
 if c.may n ep = false then (cfz, 1) else
 if n = c.ln then (⟨ep, c.sh, c.ch, c.fu, -1⟩, 0) else
 if c.place n < 0 then (cfz, 6) else
 if c.ch.length = 1 \/ (c.place n = 0 /\ c.fu[1]? = some false) then (cfz, 10) else
 (⟨ep, c.sh, c.ch.eraseIdx (c.place n).toNat, c.fu.eraseIdx (c.place n).toNat, c.ln⟩, 0)
theorem qdf {α β : Type} (f : α -> β) : ∀ (l : List α) (k : Nat), (l.map f).eraseIdx k = (l.eraseIdx k).map f
 | [], _ => rfl
 | _ :: _, 0 => rfl
 | x :: l, k + 1 => by simp only [List.map_cons, List.eraseIdx_cons_succ]; rw [qdf f l k]
theorem qev (l : List Int) (k : Nat) : (q38 l).eraseIdx k = q38 (l.eraseIdx k) := qdf _ l k
theorem qdg (l : List Bool) (k : Nat) : (G4 l).eraseIdx k = G4 (l.eraseIdx k) := qdf _ l k
theorem qhb (c : Cf) (k1 k2 : Option Nat) (n ep : Int) (hl : Len c.ch.length) : U4 prog q2n [.agg (c.cells k1 k2), .i .i64 n, .i .u64 ep] (Cf.ret (c.remove n ep)) := by
 refine K9 O2 qft (by simp) fun T => ?_
 unfold qab
 simp -implicitDefEqProofs -dsimp only [go_sem, seval, Cf.cells, ↓J1 _ _ q67]
 refine CallK.of (qdd c k1 k2 n ep hl T) (fun v T1 h => ?_)
 refine J5 ?_
 rcases h with ⟨h0, rfl, rfl⟩ | ⟨h0, v1, v2, rfl, how⟩
 ·simp -implicitDefEqProofs -dsimp only [go_sem, seval, cfz, Cf.cells]
  refine qbc ?_
  rw [Cf.remove, if_pos h0]
  exact q9h 1
 ·obtain ⟨p1, p2, p3, p4, p5, p6⟩ := how.form (List.mem_cons_self ..)
  obtain ⟨q1, q2, q3, q4, q5, q6⟩ := how.form (List.mem_cons_of_mem _ (List.mem_cons_self ..))
  simp only at p1 p2 p3 p4 p5 p6 q1 q2 q3 q4 q5 q6
  have hr : c.right = true := by simp only [Cf.may, Bool.and_eq_true] at h0; exact h0.1.1
  obtain ⟨r1, r2, r3⟩ := Cf.right_len hr
  have hpl := c.place_lt n
  simp -implicitDefEqProofs -dsimp only [go_sem, seval, Cf.cells, p1, p2, p3, p4, p5, p6, q1, q2, q3, q4, q5, q6]
  refine J8 (fun h1 => ?_) (fun h1 => ?_)
  ·simp -implicitDefEqProofs -dsimp only [go_sem, seval, h1, Cf.cells, p1, p2, p3, p4, p5, p6, q1, q2, q3, q4, q5, q6]
   refine qde how ?_ (List.mem_cons_of_mem _ (List.mem_cons_self ..)) (List.mem_cons_self ..) rfl r3
   rw [Cf.remove, if_neg (by simp [h0]), if_pos (of_decide_eq_true h1)]
  ·simp -implicitDefEqProofs -dsimp only [go_sem, seval, h1, Cf.cells, p1, p2, p3, p4, p5, p6, q1, q2, q3, q4, q5, q6, ↓J1 _ _ q5l]
   refine cpn (qjl c k1 k2 n hl) ?_
   simp -implicitDefEqProofs -dsimp only [go_sem, seval, h1, Cf.cells, p1, p2, p3, p4, p5, p6, q1, q2, q3, q4, q5, q6]
   have d1 : ¬ n = c.ln := of_decide_eq_false h1
   refine J8 (fun h2 => ?_) (fun h2 => ?_)
   ·simp -implicitDefEqProofs -dsimp only [go_sem, seval, h1, h2, Cf.cells, p1, p2, p3, p4, p5, p6, q1, q2, q3, q4, q5, q6]
    have : c.remove n ep = (cfz, 6) := by rw [Cf.remove, if_neg (by simp [h0]), if_neg d1, if_pos (of_decide_eq_true h2)]
    rw [this]
    exact q7q how 6
   ·have d2 : ¬ c.place n < 0 := of_decide_eq_false h2
    simp -implicitDefEqProofs -dsimp only [go_sem, seval, h1, h2, Cf.cells, p1, p2, p3, p4, p5, p6, q1, q2, q3, q4, q5, q6]
    have fail : (c.ch.length = 1 \/ (c.place n = 0 /\ c.fu[1]? = some false)) -> c.remove n ep = (cfz, 10) := fun h => by
     rw [Cf.remove, if_neg (by simp [h0]), if_neg d1, if_neg d2, if_pos h]
    have good : ¬ (c.ch.length = 1 \/ (c.place n = 0 /\ c.fu[1]? = some false)) -> ∀ v1 v2 T1, Owns T [⟨1, v2, c.ch.length - 1, G4 (c.fu.eraseIdx (c.place n).toNat)⟩, ⟨1, v1, c.ch.length - 1, q38 (c.ch.eraseIdx (c.place n).toNat)⟩] T1 ->
      qdr (.tup [.agg [.i .u64 ep, .i .i64 c.sh, v1, v2, .i .i64 c.ln], .i .i64 0]) (fun v T' => v = Cf.ret (c.remove n ep) /\ T' = T) T1 := fun h v1 v2 T1 how => by
     refine qde how ?_ (List.mem_cons_of_mem _ (List.mem_cons_self ..)) (List.mem_cons_self ..) ?_ ?_
     ·rw [Cf.remove, if_neg (by simp [h0]), if_neg d1, if_neg d2, if_neg h]
     ·rw [List.length_eraseIdx_of_lt (by omega)]
     ·rw [List.length_eraseIdx_of_lt (by omega), r3]
    refine J8 (fun h3 => ?_) (fun h3 => ?_)
    ·simp -implicitDefEqProofs -dsimp only [go_sem, seval, h1, h2, h3, Cf.cells, p1, p2, p3, p4, p5, p6, q1, q2, q3, q4, q5, q6]
     rw [fail (.inl (by have := of_decide_eq_true h3; omega))]
     exact q7q how 10
    ·have d3 : ¬ c.ch.length = 1 := by have := of_decide_eq_false h3; omega
     have e1 : (1 : Int) < (c.fu.length : Int) := by omega
     have e2 : c.fu[1]? = some c.fu[1] := List.getElem?_eq_getElem (by omega)
     simp -implicitDefEqProofs -dsimp only [go_sem, seval, h1, h2, h3, Cf.cells, p1, p2, p3, p4, p5, p6, q1, q2, q3, q4, q5, q6]
     obtain ⟨k, hk⟩ : ∃ k : Nat, c.place n = k := ⟨(c.place n).toNat, by omega⟩
     have hw : IntKind.i64.wrap ((k : Int) + 1) = (k : Int) + 1 := q2k (by unfold I64; omega)
     obtain ⟨id2, rfl, i1, i2, i3⟩ := how.upd (by omega)
     rw [hk] at h2 d2 fail good hpl
     rw [hk]
     simp only [Int.toNat_natCast] at good
     have fin4 : c.fu[1] = true \/ ¬ k = 0 -> ¬ (c.ch.length = 1 \/ ((k : Int) = 0 /\ c.fu[1]? = some false)) := fun h hx => by
      rcases hx with hx | ⟨hx1, hx2⟩
      ·exact d3 hx
      ·rw [e2] at hx2
       injection hx2 with hx2
       rcases h with h | h
       ·rw [h] at hx2; cases hx2
       ·omega
     refine J8 (fun h4 => ?_) (fun h4 => ?_)
     ·have d4 : k = 0 := by have := of_decide_eq_true h4; omega
      simp -implicitDefEqProofs -dsimp only [go_sem, seval, h1, h2, h3, h4, e1, e2, q3t, Cf.cells, p1, p2, p3, p4, p5, p6, q1, q2, q3, q4, q5, q6, hw, ↓J1 _ _ q0j]
      refine J8 (fun h5 => ?_) (fun h5 => ?_)
      ·simp -implicitDefEqProofs -dsimp only [go_sem, seval, h1, h2, h3, h4, h5, Cf.cells, p1, p2, p3, p4, p5, p6, q1, q2, q3, q4, q5, q6]
       rw [fail (.inr ⟨by omega, by rw [e2]; simpa using h5⟩)]
       exact q7q how 10
      ·have d5 := fin4 (.inl (by simpa using h5))
       clear fin4
       simp -implicitDefEqProofs -dsimp only [go_sem, seval, h1, h2, h3, h4, h5, e1, e2, q3t, Cf.cells, p1, p2, p3, p4, p5, p6, q1, q2, q3, q4, q5, q6, hw, ↓J1 _ _ q0j]
       have how1 := how.swap
       obtain ⟨id1, rfl, j1, j2, j3⟩ := how1.upd (by omega)
       refine CallK.of (qak j1 (q20 _) (by omega) (by omega)) (fun v T2 h => ?_)
       obtain ⟨rfl, rfl⟩ := h
       refine J5 ?_
       have how2 := (j3 (c.ch.length - 1) (q38 (c.ch.eraseIdx k)) (by rw [q20, List.length_eraseIdx_of_lt (by omega)]; omega)).swap
       obtain ⟨id3, e3, l1, l2, l3⟩ := how2.upd (by omega)
       injection e3 with e3; subst e3
       rw [qev]
       simp -implicitDefEqProofs -dsimp only [go_sem, seval, Cf.cells, ↓J1 _ _ q1q]
       refine CallK.of (q8g l1 (by rw [G7, r3]) (by omega) (by omega)) (fun v T2 h => ?_)
       obtain ⟨rfl, rfl⟩ := h
       refine J5 ?_
       rw [qdg]
       simp -implicitDefEqProofs -dsimp only [go_sem, seval]
       exact good d5 _ _ _ (l3 (c.ch.length - 1) _ (by rw [G7, List.length_eraseIdx_of_lt (by omega)]; omega))
     ·have d5 := fin4 (.inr (by have := of_decide_eq_false h4; omega))
      clear fin4
      simp -implicitDefEqProofs -dsimp only [go_sem, seval, h1, h2, h3, h4, e1, e2, q3t, Cf.cells, p1, p2, p3, p4, p5, p6, q1, q2, q3, q4, q5, q6, hw, ↓J1 _ _ q0j]
      have how1 := how.swap
      obtain ⟨id1, rfl, j1, j2, j3⟩ := how1.upd (by omega)
      refine CallK.of (qak j1 (q20 _) (by omega) (by omega)) (fun v T2 h => ?_)
      obtain ⟨rfl, rfl⟩ := h
      refine J5 ?_
      have how2 := (j3 (c.ch.length - 1) (q38 (c.ch.eraseIdx k)) (by rw [q20, List.length_eraseIdx_of_lt (by omega)]; omega)).swap
      obtain ⟨id3, e3, l1, l2, l3⟩ := how2.upd (by omega)
      injection e3 with e3; subst e3
      rw [qev]
      simp -implicitDefEqProofs -dsimp only [go_sem, seval, Cf.cells, ↓J1 _ _ q1q]
      refine CallK.of (q8g l1 (by rw [G7, r3]) (by omega) (by omega)) (fun v T2 h => ?_)
      obtain ⟨rfl, rfl⟩ := h
      refine J5 ?_
      rw [qdg]
      simp -implicitDefEqProofs -dsimp only [go_sem, seval]
      exact good d5 _ _ _ (l3 (c.ch.length - 1) _ (by rw [G7, List.length_eraseIdx_of_lt (by omega)]; omega))
end Go.Aw
