import Derived.Test.YtmicojcojlgefaaGreatZ29C29P
namespace Go.Aw
open Go
open Go.Proofs.Tryz (prog)
set_option linter.all false
set_option maxHeartbeats 8000000
set_option maxRecDepth 8000
theorem qxf {T : Tab} {id r l w x : Nat} {c : Cl} (h : Ct T id r l w x c) (hk : c.Ok) (m : Lt Cf) (hm : m.Small) (ht : m.t.Fine) (hlen : m.cs.length < 1000000) (hc : ∀ c ∈ m.cs, q6r c /\ 0 <= c.ep) :
  ACalls prog q00 [.ptr id 0, .agg m.cc] T (fun v T' => v = .b (qf4 c m).2 /\ ∃ x', Ct T' id r l w x' (qf4 c m).1 /\ Fr [id, l] [] T T' /\ (x' = x \/ T x' = .unused)) := by
 refine U9 Q7 qbf (by simp) ?_
 have hT := h.cr
 simp only [qb3] at hT
 have cR := qur m hm ht
 have hself : Fr [id, l] [] T T := Fr.refl _ _
 unfold q89 qf4 z79
 rcases hr : lrF m with _ | _
 ·rw [hr] at cR
  simp only [Bool.false_and, if_true]
  simp -implicitDefEqProofs -dsimp only [go_sem, seval, q9d, ↓N1, U6, true_and, ↓J0 _ _ V5]
  refine cpn cR ?_
  simp -implicitDefEqProofs -dsimp only [go_sem, seval, ↓N1, U6, true_and]
  exact V1 _ (fun _ => .inr (.inl rfl)) ⟨rfl, x, h, hself, .inl rfl⟩
 rw [hr] at cR
 simp only [Bool.true_and]
 rcases hmn : (decide (m.tk = 3) && decide (m.tn = c.me)) with _ | _
 ·simp only [if_true]
  simp -implicitDefEqProofs -dsimp only [go_sem, seval, q9d, ↓N1, U6, true_and, ↓J0 _ _ V5]
  refine cpn cR ?_
  simp -implicitDefEqProofs -dsimp only [go_sem, seval, hT, U2, K6, Bool.and_true, hmn, ↓N1, U6, true_and]
  exact V1 _ (fun _ => .inr (.inl rfl)) ⟨rfl, x, h, hself, .inl rfl⟩
 simp only [Bool.true_eq_false, if_false]
 rcases hcf : (decide (m.k = 2) && decide (m.fk = 1)) with _ | _
 case true =>
  simp only [Bool.and_eq_true] at hcf
  obtain ⟨k2, f1⟩ := hcf
  simp only [if_true]
  simp -implicitDefEqProofs -dsimp only [go_sem, seval, q9d, ↓N1, U6, true_and, ↓J0 _ _ V5]
  refine cpn cR ?_
  simp -implicitDefEqProofs -dsimp only [go_sem, seval, hT, U2, K6, Bool.and_true, hmn, k2, f1, q9d, ↓N1, U6, true_and]
  refine z1r (T0 := T) (by repeat' (first | exact N5 _ _ | assumption | apply N4 | apply K7 | apply U1)) hlen hc m.cs 0 rfl (Nat.zero_le _) c T hk.l h (Fr.refl _ _) (fun T1 h1 hf => ?_)
  simp -implicitDefEqProofs -dsimp only [go_sem, seval]
  exact V1 _ (fun _ => .inr (.inl rfl)) ⟨rfl, x, h1, Fr.wide hf (fun j hj => by simp only [List.mem_singleton] at hj; subst hj; simp) (fun j hj => by cases hj), .inl rfl⟩
 simp only [Bool.false_eq_true, if_false]
 have quit : qlq c m = false -> qnz (.b false) (fun v T' => v = .b (if qlq c m = true then (({ c with w := none, la := some (qrz m) } : Cl), true) else (c, false)).2 /\ ∃ x', Ct T' id r l w x' (if qlq c m = true then (({ c with w := none, la := some (qrz m) } : Cl), true) else (c, false)).1 /\ Fr [id, l] [] T T' /\ (x' = x \/ T x' = .unused)) T := fun e => by
  rw [e]
  exact V1 _ (fun _ => .inr (.inl rfl)) ⟨rfl, x, h, hself, .inl rfl⟩
 rcases k2 : decide (m.k = 2) with _ | _
 case true =>
  have f1 : decide (m.fk = 1) = false := by rw [k2, Bool.true_and] at hcf; exact hcf
  have k21 : decide (m.k = 21) = false := by have := of_decide_eq_true k2; exact decide_eq_false (by omega)
  simp -implicitDefEqProofs -dsimp only [go_sem, seval, q9d, ↓N1, U6, true_and, ↓J0 _ _ V5]
  refine cpn cR ?_
  simp -implicitDefEqProofs -dsimp only [go_sem, seval, hT, U2, K6, Bool.and_true, hmn, k2, f1, k21, q9d, ↓N1, U6, true_and]
  exact quit (by simp only [qlq, k21, Bool.false_and])
 rcases k21 : decide (m.k = 21) with _ | _
 ·simp -implicitDefEqProofs -dsimp only [go_sem, seval, q9d, ↓N1, U6, true_and, ↓J0 _ _ V5]
  refine cpn cR ?_
  simp -implicitDefEqProofs -dsimp only [go_sem, seval, hT, U2, K6, Bool.and_true, hmn, k2, k21, q9d, ↓N1, U6, true_and]
  exact quit (by simp only [qlq, k21, Bool.false_and])
 rcases f2 : decide (m.fk = 2) with _ | _
 ·simp -implicitDefEqProofs -dsimp only [go_sem, seval, q9d, ↓N1, U6, true_and, ↓J0 _ _ V5]
  refine cpn cR ?_
  simp -implicitDefEqProofs -dsimp only [go_sem, seval, hT, U2, K6, Bool.and_true, hmn, k2, k21, f2, q9d, ↓N1, U6, true_and]
  exact quit (by simp only [qlq, f2, Bool.and_false, Bool.false_and])
 rcases hw : c.w with _ | o
 ·rw [hw, qcg] at hT
  simp -implicitDefEqProofs -dsimp only [go_sem, seval, q9d, ↓N1, U6, true_and, ↓J0 _ _ V5]
  refine cpn cR ?_
  simp -implicitDefEqProofs -dsimp only [go_sem, seval, hT, U2, K6, Bool.and_true, hmn, k2, k21, f2, q9d, ↓N1, U6, true_and]
  have := quit (by simp only [qlq, hw, Option.isSome_none, Bool.false_and, Bool.and_false])
  exact this
 have hW := h.cw _ hw
 simp only [qx7] at hW
 rw [hw, qch] at hT
 rcases hid : (decide (m.cl = c.me) && decide (m.sq = (c.sq : Int))) with _ | _
 ·simp -implicitDefEqProofs -dsimp only [go_sem, seval, q9d, ↓N1, U6, true_and, ↓J0 _ _ V5]
  refine cpn cR ?_
  simp -implicitDefEqProofs -dsimp only [go_sem, seval, hT, U2, K6, Bool.and_true, hmn, k2, k21, f2, hW, hid, q9d, ↓N1, U6, true_and]
  have := quit (by simp only [qlq, hid, Bool.and_false])
  exact this
 have ha : qlq c m = true := by simp only [qlq, k21, f2, hw, hid, Option.isSome_some, Bool.and_self]
 simp only [ha, if_true]
 simp -implicitDefEqProofs -dsimp only [go_sem, seval, q9d, ↓N1, U6, true_and, ↓J0 _ _ V5]
 refine cpn cR ?_
 simp -implicitDefEqProofs -dsimp only [go_sem, seval, hT, U2, K6, Bool.and_true, hmn, k2, k21, f2, hW, hid, q9d, ↓N1, U6, true_and]
 refine q4h hT rfl rfl (by simp) (J1 ?_)
 have hT1 : (T.put id (.row 6 [.i .i64 c.me, .i .i64 c.ma, .ptr r 0, .i .u64 c.sq, .nilptr, ptO c.la x])) id = .row 6 [.i .i64 c.me, .i .i64 c.ma, .ptr r 0, .i .u64 c.sq, .nilptr, ptO c.la x] := Tab.put_same ..
 simp -implicitDefEqProofs -dsimp only [go_sem, seval]
 intro x' hx'
 refine J1 ?_
 obtain ⟨n1, hx'⟩ := Tab.unused_put hx'
 have hT2 : ((T.put id (.row 6 [.i .i64 c.me, .i .i64 c.ma, .ptr r 0, .i .u64 c.sq, .nilptr, ptO c.la x])).put x' (qyu (qrz m))) id = .row 6 [.i .i64 c.me, .i .i64 c.ma, .ptr r 0, .i .u64 c.sq, .nilptr, ptO c.la x] := by
  rw [Tab.put_ne _ _ (Ne.symm n1)]; exact hT1
 simp -implicitDefEqProofs -dsimp only [go_sem, seval]
 refine q4h hT2 rfl rfl (by simp) (J1 ?_)
 have hput : ∀ j, j ≠ id -> T j ≠ .unused -> ∀ A B C, (((T.put id A).put x' B).put id C) j = T j := fun j h1 h2 A B C => by
  rw [Tab.put_ne _ _ h1, Tab.put_ne _ _ (fun e => by subst e; exact h2 hx'), Tab.put_ne _ _ h1]
 have hct : Ct (((T.put id (.row 6 [.i .i64 c.me, .i .i64 c.ma, .ptr r 0, .i .u64 c.sq, .nilptr, ptO c.la x])).put x' (qyu (qrz m))).put id (qb3 { c with w := none, la := some (qrz m) } r w x')) id r l w x' { c with w := none, la := some (qrz m) } := by
  refine ⟨Tab.put_same .., ⟨?_, ?_⟩, ?_, ?_⟩
  ·rw [hput r (Ne.symm h.id_r) (by rw [h.rt.1]; simp)]; exact h.rt.1
  ·rw [hput l (Ne.symm h.id_l) (by rw [h.rt.2]; simp)]; exact h.rt.2
  ·intro q hq; cases hq
  ·intro y hy
   injection hy with hy
   subst hy
   exact ⟨by rw [Tab.put_ne _ _ n1]; exact Tab.put_same .., Ne.symm n1⟩
 have hF : Fr [id, l] [] T (((T.put id (.row 6 [.i .i64 c.me, .i .i64 c.ma, .ptr r 0, .i .u64 c.sq, .nilptr, ptO c.la x])).put x' (qyu (qrz m))).put id (qb3 { c with w := none, la := some (qrz m) } r w x')) := by
  exact ⟨fun j h1 h2 => hput j (fun e => h2 (by simp [e])) h1 _ _ _, fun j hj => by cases hj⟩
 simp -implicitDefEqProofs -dsimp only [go_sem, seval]
 exact V1 _ (fun _ => .inr (.inl rfl)) ⟨rfl, x', hct, hF, .inr hx'⟩
end Go.Aw
namespace Go.Aw
open Go
open Go.Proofs.Tryz (prog)
set_option linter.all false
set_option maxHeartbeats 8000000
set_option maxRecDepth 8000
structure Cl.At (c : Cl) (me ma : Int) (n : Nat) : Prop where
 me : c.me = me
 ma : c.ma = ma
 ok : c.Ok
 sq : c.sq <= n
 w : ∀ o, c.w = some o -> o.2 <= n
theorem At.mono {c : Cl} {me ma : Int} {n m : Nat} (h : c.At me ma n) (hm : n <= m) : c.At me ma m := ⟨h.me, h.ma, h.ok, by have := h.sq; omega, fun o ho => by have := h.w o ho; omega⟩
theorem z6u {c : Cl} {me ma : Int} {n : Nat} {o : Cp} (h : c.At me ma n) (ho : o.Fine) (hn : n <= 1000) : (qaj c o).1.1.At me ma (n + 1) /\ ∀ g ∈ (qaj c o).1.2, LtS me g := by
 have hme := h.me
 obtain ⟨h1, h2, hk, h4, h5⟩ := h
 have no : ∀ g ∈ ([] : List (Lt Cf)), LtS me g := fun g hg => by cases hg
 have hat : c.At me ma (n + 1) := At.mono ⟨h1, h2, hk, h4, h5⟩ (by omega)
 unfold qaj
 split
 ·exact ⟨hat, no⟩
 split
 ·exact ⟨hat, no⟩
 split
 ·exact ⟨hat, no⟩
 rename_i q1 q2 q3
 have hm : qut o = true := by simpa using q2
 have hk2 : ({ c with sq := c.sq + 1, w := some (o, 0) } : Cl).Ok := ⟨hk.me, hk.ma, (by show c.sq + 1 < _; omega), hk.l, fun q hq => by
  injection hq with hq
  subst hq
  exact ⟨⟨ho, hm, Nat.le_add_left 1 _⟩, Int.le_refl _, (show (0 : Int) < 1000000 by decide)⟩⟩
 refine ⟨⟨h1, h2, hk2, (by show c.sq + 1 <= _; omega), fun q hq => ?_⟩, fun g hg => ?_⟩
 ·injection hq with hq
  subst hq
  show (0 : Int) <= _; omega
 ·have := z4y (c := { c with sq := c.sq + 1, w := some (o, 0) }) (o := o) (t := 0) hk2 ⟨ho, hm, Nat.le_add_left 1 _⟩ (Int.le_refl _) g hg
  rw [<- hme]; exact this
theorem z6v {c : Cl} {me ma : Int} {n : Nat} (h : c.At me ma n) (hn : n <= 1000) : (qfk c).1.At me ma (n + 1) /\ ∀ g ∈ (qfk c).2, LtS me g := by
 have hme := h.me
 obtain ⟨h1, h2, hk, h4, h5⟩ := h
 unfold qfk
 rcases hw : c.w with _ | ⟨o, t⟩
 ·exact ⟨At.mono ⟨h1, h2, hk, h4, h5⟩ (by omega), fun g hg => by cases hg⟩
 ·simp only
  obtain ⟨ho, ht0, ht1⟩ := hk.w _ hw
  have htn := h5 _ hw
  simp only at ho ht0 ht1 htn
  have hk2 : ({ c with w := some (o, t + 1) } : Cl).Ok := ⟨hk.me, hk.ma, hk.sq, hk.l, fun q hq => by
   injection hq with hq
   subst hq
   exact ⟨ho, by show 0 <= t + 1; omega, by show t + 1 < _; omega⟩⟩
  refine ⟨⟨h1, h2, hk2, (by show c.sq <= _; omega), fun q hq => ?_⟩, fun g hg => ?_⟩
  ·injection hq with hq
   subst hq
   show t + 1 <= _; omega
  ·have := z4y (c := { c with w := some (o, t + 1) }) (o := o) (t := t + 1) hk2 ho (by omega) g hg
   rw [<- hme]; exact this
theorem z1t {c : Cl} {me ma : Int} {n : Nat} {m : Lt Cf} (h : c.At me ma n) (hc : ∀ c ∈ m.cs, 0 <= c.ep) : (qf4 c m).1.At me ma n := by
 obtain ⟨h1, h2, hk, h4, h5⟩ := h
 unfold qf4
 split
 ·exact ⟨h1, h2, hk, h4, h5⟩
 split
 ·exact ⟨h1, h2, ⟨hk.me, hk.ma, hk.sq, z4w _ hk.l hc, hk.w⟩, h4, h5⟩
 split
 ·exact ⟨h1, h2, ⟨hk.me, hk.ma, hk.sq, hk.l, fun q hq => by cases hq⟩, h4, fun q hq => by cases hq⟩
 ·exact ⟨h1, h2, hk, h4, h5⟩
end Go.Aw
