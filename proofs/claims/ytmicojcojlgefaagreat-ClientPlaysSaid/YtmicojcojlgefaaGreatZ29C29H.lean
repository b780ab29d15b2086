import Derived.Test.YtmicojcojlgefaaGreatZ29C29F
namespace Go.Aw
open Go
open Go.Proofs.Tryz (prog)
set_option linter.all false
set_option maxHeartbeats 8000000
set_option maxRecDepth 8000
theorem qn5 {T : Tab} {r r' : AV} {Q : AV -> Tab -> Prop} (hw : Wk r r') (hQ : Q r' T) : qnz r Q T :=
 ⟨[], T, r', List.nodup_nil, by simp, fun _ => .inr (.inl rfl), by rw [qp4]; exact hw, hQ⟩
theorem qcg {α : Type} (w : Nat) : ptO (none : Option α) w = .nilptr := rfl
theorem qch {α : Type} (a : α) (w : Nat) : ptO (some a) w = .ptr w 0 := rfl
theorem qoi {T : Tab} {a b m n : Nat} {xs ys : List AV} (ha : T a = .row m xs) (hb : T b = .row n ys) (h : m ≠ n) : a ≠ b := fun e => by
 subst e; rw [ha] at hb; injection hb with h1; exact h h1
section
variable {T : Tab} {id r l w x : Nat} {c : Cl}
theorem Ct.id_r (h : Ct T id r l w x c) : id ≠ r := qoi h.cr h.rt.1 (by decide)
theorem Ct.id_l (h : Ct T id r l w x c) : id ≠ l := qoi h.cr h.rt.2 (by decide)
theorem Ct.id_w (h : Ct T id r l w x c) {o : Cp × Int} (hw : c.w = some o) : id ≠ w := qoi h.cr (h.cw _ hw) (by decide)
theorem Ct.r_w (h : Ct T id r l w x c) {o : Cp × Int} (hw : c.w = some o) : r ≠ w := qoi h.rt.1 (h.cw _ hw) (by decide)
theorem Ct.l_w (h : Ct T id r l w x c) {o : Cp × Int} (hw : c.w = some o) : l ≠ w := qoi h.rt.2 (h.cw _ hw) (by decide)
theorem Ct.x_w (h : Ct T id r l w x c) {o : Cp × Int} (hw : c.w = some o) {y : Cr} (hy : c.la = some y) : x ≠ w := qoi (h.cy _ hy).1 (h.cw _ hw) (by decide)
theorem Ct.x_l (h : Ct T id r l w x c) {y : Cr} (hy : c.la = some y) : x ≠ l := qoi (h.cy _ hy).1 h.rt.2 (by decide)
theorem Ct.tick (h : Ct T id r l w x c) {o : Cp} {t : Int} (hw : c.w = some (o, t)) (t' : Int) : Ct (T.put w (qx7 c.me c.sq o t')) id r l w x { c with w := some (o, t') } := by
 refine ⟨?_, ⟨?_, ?_⟩, ?_, ?_⟩
 ·rw [Tab.put_ne _ _ (h.id_w hw), h.cr]; simp only [qb3, hw, qch]
 ·rw [Tab.put_ne _ _ (h.r_w hw)]; exact h.rt.1
 ·rw [Tab.put_ne _ _ (h.l_w hw)]; exact h.rt.2
 ·intro q hq
  injection hq with hq
  subst hq
  exact Tab.put_same ..
 ·intro y hy
  obtain ⟨h1, h2⟩ := h.cy y hy
  exact ⟨by rw [Tab.put_ne _ _ (h.x_w hw hy)]; exact h1, h2⟩
end
theorem Fr.put {T : Tab} {fp : List Nat} {w : Nat} {s : Slot} (h : w ∈ fp) : Fr fp [] T (T.put w s) := ⟨fun j _ hj => Tab.put_ne _ _ (fun e => hj (e ▸ h)), fun _ h => by cases h⟩
def qfk (c : Cl) : Cl × List (Lt Cf) := match c.w with
 | none => (c, [])
 | some (o, t) => ({ c with w := some (o, t + 1) }, qp8 c o (t + 1))
theorem z4v (c : Cl) (w : Option (Cp × Int)) (o : Cp) (t : Int) : qp8 { c with w := w } o t = qp8 c o t := rfl
theorem z6s {T : Tab} {id r l w x : Nat} {c : Cl} (h : Ct T id r l w x c) (hk : c.Ok) (hk2 : (qfk c).1.Ok) :
  ACalls prog q42 [.ptr id 0] T (fun v T' => v = .fz (qfk c).2.length ((qfk c).2.flatMap Lt.kc) none /\ Ct T' id r l w x (qfk c).1 /\ Fr [w] [] T T' /\ (c.w = none -> T' = T)) := by
 refine U9 Q7 qis (by simp) ?_
 have hT := h.cr
 simp only [qb3] at hT
 unfold qfk at hk2 ⊢
 unfold qbh
 rcases hw : c.w with _ | ⟨o, t⟩
 ·simp only [hw, qcg, qch] at hT ⊢
  simp -implicitDefEqProofs -dsimp only [go_sem, seval, hT, q9d, ↓N1, U6, true_and]
  exact qn5 .fz ⟨rfl, h, ⟨fun _ _ _ => rfl, fun _ h => by cases h⟩, fun _ => rfl⟩
 ·simp only [hw, qcg, qch] at hT hk2 ⊢
  have hW := h.cw _ hw
  have ht := (hk.w _ hw).2
  simp only at ht hW
  have hct := h.tick hw (t + 1)
  have hW2 := hW
  simp only [qx7] at hW2
  have w1 : IntKind.i64.wrap (t + 1) = t + 1 := q02 (by unfold I64; omega)
  have hac := z4u hct rfl hk2
  rw [z4v] at hac
  simp -implicitDefEqProofs -dsimp only [go_sem, seval, hT, hW2, q9d, ↓N1, U6, true_and, w1]
  refine q4h hW2 rfl rfl (by simp) (J1 ?_)
  simp -implicitDefEqProofs -dsimp only [go_sem, seval, ↓J0 _ _ qct]
  refine CallK.of hac fun v T' hv => ?_
  rw [hv.1, hv.2]
  refine J1 ?_
  simp -implicitDefEqProofs -dsimp only [go_sem, seval]
  exact V1 _ (fun _ => .inr (.inl rfl)) ⟨rfl, hct, Fr.put (by simp), fun e => by cases e⟩
end Go.Aw
namespace Go.Aw
open Go
open Go.Proofs.Tryz (prog)
set_option linter.all false
set_option maxHeartbeats 8000000
set_option maxRecDepth 8000
def qaj (c : Cl) (o : Cp) : (Cl × List (Lt Cf)) × Int :=
 if c.w.isSome = true then ((c, []), 10) else if qut o = false then ((c, []), 1) else if c.sq = 18446744073709551615 then ((c, []), 9) else
  (({ c with sq := c.sq + 1, w := some (o, 0) }, qp8 { c with sq := c.sq + 1 } o 0), 0)
theorem Fr.refl (fp : List Nat) (T : Tab) : Fr fp [] T T := ⟨fun _ _ _ => rfl, fun _ h => by cases h⟩
theorem z1o {T : Tab} {id r l w x : Nat} {c : Cl} (h : Ct T id r l w x c) (hk : c.Ok) (o : Cp) (ho : o.Fine) (hk2 : (qaj c o).1.1.Ok) :
  ACalls prog q2m [.ptr id 0, .agg o.cells] T (fun v T' => v = .tup [.fz (qaj c o).1.2.length ((qaj c o).1.2.flatMap Lt.kc) none, .i .i64 (qaj c o).2] /\ ∃ w', Ct T' id r l w' x (qaj c o).1.1 /\ Fr [id, w] [w'] T T') := by
 refine U9 Q7 qim (by simp) ?_
 have hT := h.cr
 simp only [qb3] at hT
 have cm := z6q o ho
 have cR := qoh (n := o.rs.length) (xs := o.rs.flatMap rdC) (cap := none) (K8 q7n o.rs) (by have := ho.t.r; simp only at this; omega)
 have cW := qn4 (n := o.ws.length) (xs := o.ws.flatMap wtC) (cap := none) (K8 q5n o.ws) (by have := ho.t.w; simp only at this; omega)
 simp only [Cp.cells] at cm
 have hfr : Fr [id, w] [w] T T := ⟨fun _ _ _ => rfl, fun j hj => .inl (by simp only [List.mem_singleton] at hj; subst hj; simp)⟩
 unfold qaj at hk2 ⊢
 unfold qbd
 rcases hw : c.w with _ | ⟨o1, t1⟩
 case some =>
  simp only [hw, qcg, qch, Option.isSome_some, if_true] at hT ⊢
  simp -implicitDefEqProofs -dsimp only [go_sem, seval, Cp.cells, hT, q9d]
  exact qn5 (r' := .tup [.fz 0 [] none, .i .i64 10]) (Wk.tup ⟨.fz, .refl _, trivial⟩) ⟨rfl, w, h, hfr⟩
 simp only [hw, qcg, qch, Option.isSome_none, Bool.false_eq_true, if_false] at hT hk2 ⊢
 rcases hm : qut o with _ | _
 ·rw [hm] at cm
  simp only [if_true]
  simp -implicitDefEqProofs -dsimp only [go_sem, seval, Cp.cells, hT, q9d, ↓J0 _ _ qhk]
  refine cpn cm ?_
  simp -implicitDefEqProofs -dsimp only [go_sem, seval]
  exact qn5 (r' := .tup [.fz 0 [] none, .i .i64 1]) (Wk.tup ⟨.fz, .refl _, trivial⟩) ⟨rfl, w, h, hfr⟩
 rw [hm] at cm
 simp only [hm, Bool.true_eq_false, if_false] at hk2 ⊢
 by_cases hs : c.sq = 18446744073709551615
 ·have ds : decide ((c.sq : Int) = 18446744073709551615) = true := decide_eq_true (by omega)
  rw [if_pos hs]
  simp -implicitDefEqProofs -dsimp only [go_sem, seval, Cp.cells, hT, q9d, ↓J0 _ _ qhk]
  refine cpn cm ?_
  simp -implicitDefEqProofs -dsimp only [go_sem, seval, hT, ds]
  exact qn5 (r' := .tup [.fz 0 [] none, .i .i64 9]) (Wk.tup ⟨.fz, .refl _, trivial⟩) ⟨rfl, w, h, hfr⟩
 have ds : decide ((c.sq : Int) = 18446744073709551615) = false := decide_eq_false (by omega)
 rw [if_neg hs] at hk2 ⊢
 have hsq := hk.sq
 have ws : IntKind.u64.wrap ((c.sq : Int) + 1) = ((c.sq + 1 : Nat) : Int) := (IntWalk.u64_in _ (by omega)).trans (by omega)
 simp -implicitDefEqProofs -dsimp only [go_sem, seval, Cp.cells, hT, q9d, ↓J0 _ _ qhk]
 refine cpn cm ?_
 simp -implicitDefEqProofs -dsimp only [go_sem, seval, hT, ds, ws]
 refine q4h hT rfl rfl (by simp) (J1 ?_)
 simp -implicitDefEqProofs -dsimp only [go_sem, seval, ↓J0 _ _ q32]
 refine cpn cR ?_
 simp -implicitDefEqProofs -dsimp only [go_sem, seval, ↓J0 _ _ q28]
 refine cpn cW ?_
 have hT1 : (T.put id (.row 6 [.i .i64 c.me, .i .i64 c.ma, .ptr r 0, .i .u64 ((c.sq + 1 : Nat) : Int), .nilptr, ptO c.la x])) id = .row 6 [.i .i64 c.me, .i .i64 c.ma, .ptr r 0, .i .u64 ((c.sq + 1 : Nat) : Int), .nilptr, ptO c.la x] := Tab.put_same ..
 simp -implicitDefEqProofs -dsimp only [go_sem, seval, hT1]
 intro w' hw'
 refine J1 ?_
 obtain ⟨n1, hw'⟩ := Tab.unused_put hw'
 have hT2 : ((T.put id (.row 6 [.i .i64 c.me, .i .i64 c.ma, .ptr r 0, .i .u64 ((c.sq + 1 : Nat) : Int), .nilptr, ptO c.la x])).put w' (qx7 c.me (c.sq + 1) o 0)) id = .row 6 [.i .i64 c.me, .i .i64 c.ma, .ptr r 0, .i .u64 ((c.sq + 1 : Nat) : Int), .nilptr, ptO c.la x] := by
  rw [Tab.put_ne _ _ (Ne.symm n1)]; exact hT1
 simp -implicitDefEqProofs -dsimp only [go_sem, seval]
 refine q4h hT2 rfl rfl (by simp) (J1 ?_)
 have hct : Ct (((T.put id (.row 6 [.i .i64 c.me, .i .i64 c.ma, .ptr r 0, .i .u64 ((c.sq + 1 : Nat) : Int), .nilptr, ptO c.la x])).put w' (qx7 c.me (c.sq + 1) o 0)).put id (qb3 { c with sq := c.sq + 1, w := some (o, 0) } r w' x)) id r l w' x { c with sq := c.sq + 1, w := some (o, 0) } := by
  have hput : ∀ j, j ≠ id -> T j ≠ .unused -> ∀ A B C, (((T.put id A).put w' B).put id C) j = T j := fun j h1 h2 A B C => by
   rw [Tab.put_ne _ _ h1, Tab.put_ne _ _ (fun e => by subst e; exact h2 hw'), Tab.put_ne _ _ h1]
  refine ⟨Tab.put_same .., ⟨?_, ?_⟩, ?_, ?_⟩
  ·rw [hput r (Ne.symm h.id_r) (by rw [h.rt.1]; simp)]; exact h.rt.1
  ·rw [hput l (Ne.symm h.id_l) (by rw [h.rt.2]; simp)]; exact h.rt.2
  ·intro q hq
   injection hq with hq
   subst hq
   rw [Tab.put_ne _ _ n1]; exact Tab.put_same ..
  ·intro y hy
   obtain ⟨h1, h2⟩ := h.cy y hy
   exact ⟨by rw [hput x (Ne.symm h2) (by rw [h1]; simp [qyu])]; exact h1, h2⟩
 have hF : Fr [id, w] [w'] T (((T.put id (.row 6 [.i .i64 c.me, .i .i64 c.ma, .ptr r 0, .i .u64 ((c.sq + 1 : Nat) : Int), .nilptr, ptO c.la x])).put w' (qx7 c.me (c.sq + 1) o 0)).put id (qb3 { c with sq := c.sq + 1, w := some (o, 0) } r w' x)) := by
  refine ⟨fun j h1 h2 => ?_, fun j hj => ?_⟩
  ·have hj : j ≠ id := fun e => h2 (by simp [e])
   rw [Tab.put_ne _ _ hj, Tab.put_ne _ _ (fun e => by subst e; exact h1 hw'), Tab.put_ne _ _ hj]
  ·simp only [List.mem_singleton] at hj
   subst hj
   exact .inr hw'
 generalize hT3 : Tab.put (Tab.put (Tab.put T id _) w' _) id _ = T3
 have hct' : Ct T3 id r l w' x { c with sq := c.sq + 1, w := some (o, 0) } := by rw [<- hT3]; exact hct
 have hF' : Fr [id, w] [w'] T T3 := by rw [<- hT3]; exact hF
 clear hct hF hT3
 have hac := z4u hct' rfl hk2
 simp -implicitDefEqProofs -dsimp only [go_sem, seval, ↓J0 _ _ qct]
 refine CallK.of hac fun v T' hv => ?_
 rw [hv.1, hv.2]
 refine J1 ?_
 simp -implicitDefEqProofs -dsimp only [go_sem, seval]
 exact V1 _ (fun _ => .inr (.inl rfl)) ⟨rfl, w', hct', hF'⟩
end Go.Aw
