import Derived.Test.YtmicojcojlgefaaC29G
namespace Go.Aw
open Go
open Go.Proofs.Try (prog)
set_option linter.all false
set_option maxHeartbeats 8000000
set_option maxRecDepth 8000
def qi7 (c : Cl) (o : Cp) : (Cl × List (Lt Cf)) × Int :=
 if c.w.isSome = true then ((c, []), 10) else if qqs o = false then ((c, []), 1) else if c.sq = 18446744073709551615 then ((c, []), 9) else
  (({ c with sq := c.sq + 1, w := some (o, 0) }, qsc { c with sq := c.sq + 1 } o 0), 0)
theorem Fr.refl (fp : List Nat) (T : Tab) : Fr fp [] T T := ⟨fun _ _ _ => rfl, fun _ h => by cases h⟩
theorem qug {T : Tab} {id r l w x : Nat} {c : Cl} (h : Ct T id r l w x c) (hk : c.Ok) (o : Cp) (ho : o.Fine) (hk2 : (qi7 c o).1.1.Ok) :
  ACalls prog q21 [.ptr id 0, .agg o.cells] T (fun v T' => v = .tup [.fz (qi7 c o).1.2.length ((qi7 c o).1.2.flatMap Lt.kc) none, .i .i64 (qi7 c o).2] /\ ∃ w', Ct T' id r l w' x (qi7 c o).1.1 /\ Fr [id, w] [w'] T T') := by
 refine I5 U6 qb7 (by simp) ?_
 have hT := h.cr
 simp only [qd1] at hT
 have cm := qqt o ho
 have cR := qfi (n := o.rs.length) (xs := o.rs.flatMap rdC) (cap := none) (O1 q4z o.rs) (by have := ho.t.r; simp only at this; omega)
 have cW := qeb (n := o.ws.length) (xs := o.ws.flatMap wtC) (cap := none) (O1 q3z o.ws) (by have := ho.t.w; simp only at this; omega)
 simp only [Cp.cells] at cm
 have hfr : Fr [id, w] [w] T T := ⟨fun _ _ _ => rfl, fun j hj => .inl (by simp only [List.mem_singleton] at hj; subst hj; simp)⟩
 unfold qi7 at hk2 ⊢
 unfold q6j
 rcases hw : c.w with _ | ⟨o1, t1⟩
 case some =>
  simp only [hw, qg6, qg7, Option.isSome_some, if_true] at hT ⊢
  simp -implicitDefEqProofs -dsimp only [go_sem, seval, Cp.cells, hT, qce]
  exact qqw (r' := .tup [.fz 0 [] none, .i .i64 10]) (Wk.tup ⟨.fz, .refl _, trivial⟩) ⟨rfl, w, h, hfr⟩
 simp only [hw, qg6, qg7, Option.isSome_none, Bool.false_eq_true, if_false] at hT hk2 ⊢
 rcases hm : qqs o with _ | _
 ·rw [hm] at cm
  simp only [if_true]
  simp -implicitDefEqProofs -dsimp only [go_sem, seval, Cp.cells, hT, qce, ↓J0 _ _ q7n]
  refine cpn cm ?_
  simp -implicitDefEqProofs -dsimp only [go_sem, seval]
  exact qqw (r' := .tup [.fz 0 [] none, .i .i64 1]) (Wk.tup ⟨.fz, .refl _, trivial⟩) ⟨rfl, w, h, hfr⟩
 rw [hm] at cm
 simp only [hm, Bool.true_eq_false, if_false] at hk2 ⊢
 by_cases hs : c.sq = 18446744073709551615
 ·have ds : decide ((c.sq : Int) = 18446744073709551615) = true := decide_eq_true (by omega)
  rw [if_pos hs]
  simp -implicitDefEqProofs -dsimp only [go_sem, seval, Cp.cells, hT, qce, ↓J0 _ _ q7n]
  refine cpn cm ?_
  simp -implicitDefEqProofs -dsimp only [go_sem, seval, hT, ds]
  exact qqw (r' := .tup [.fz 0 [] none, .i .i64 9]) (Wk.tup ⟨.fz, .refl _, trivial⟩) ⟨rfl, w, h, hfr⟩
 have ds : decide ((c.sq : Int) = 18446744073709551615) = false := decide_eq_false (by omega)
 rw [if_neg hs] at hk2 ⊢
 have hsq := hk.sq
 have ws : IntKind.u64.wrap ((c.sq : Int) + 1) = ((c.sq + 1 : Nat) : Int) := (IntWalk.u64_in _ (by omega)).trans (by omega)
 simp -implicitDefEqProofs -dsimp only [go_sem, seval, Cp.cells, hT, qce, ↓J0 _ _ q7n]
 refine cpn cm ?_
 simp -implicitDefEqProofs -dsimp only [go_sem, seval, hT, ds, ws]
 refine qem hT rfl rfl (by simp) (J1 ?_)
 simp -implicitDefEqProofs -dsimp only [go_sem, seval, ↓J0 _ _ q1b]
 refine cpn cR ?_
 simp -implicitDefEqProofs -dsimp only [go_sem, seval, ↓J0 _ _ q0r]
 refine cpn cW ?_
 have hT1 : (T.put id (.row 6 [.i .i64 c.me, .i .i64 c.ma, .ptr r 0, .i .u64 ((c.sq + 1 : Nat) : Int), .nilptr, ptO c.la x])) id = .row 6 [.i .i64 c.me, .i .i64 c.ma, .ptr r 0, .i .u64 ((c.sq + 1 : Nat) : Int), .nilptr, ptO c.la x] := Tab.put_same ..
 simp -implicitDefEqProofs -dsimp only [go_sem, seval, hT1]
 intro w' hw'
 refine J1 ?_
 obtain ⟨n1, hw'⟩ := Tab.unused_put hw'
 have hT2 : ((T.put id (.row 6 [.i .i64 c.me, .i .i64 c.ma, .ptr r 0, .i .u64 ((c.sq + 1 : Nat) : Int), .nilptr, ptO c.la x])).put w' (qua c.me (c.sq + 1) o 0)) id = .row 6 [.i .i64 c.me, .i .i64 c.ma, .ptr r 0, .i .u64 ((c.sq + 1 : Nat) : Int), .nilptr, ptO c.la x] := by
  rw [Tab.put_ne _ _ (Ne.symm n1)]; exact hT1
 simp -implicitDefEqProofs -dsimp only [go_sem, seval]
 refine qem hT2 rfl rfl (by simp) (J1 ?_)
 have hct : Ct (((T.put id (.row 6 [.i .i64 c.me, .i .i64 c.ma, .ptr r 0, .i .u64 ((c.sq + 1 : Nat) : Int), .nilptr, ptO c.la x])).put w' (qua c.me (c.sq + 1) o 0)).put id (qd1 { c with sq := c.sq + 1, w := some (o, 0) } r w' x)) id r l w' x { c with sq := c.sq + 1, w := some (o, 0) } := by
  have hput : ∀ j, j ≠ id -> T j ≠ .unused -> ∀ A B C, (((T.put id A).put w' B).put id C) j = T j := fun j h1 h2 A B C => by
   rw [Tab.put_ne _ _ h1, Tab.put_ne _ _ (fun e => by subst e; exact h2 hw'), Tab.put_ne _ _ h1]
  refine ⟨Tab.put_same .., ⟨?_, ?_⟩, ?_, ?_⟩
  ·rw [hput r (Ne.symm h.id_r) (by rw [h.rt.1]; simp)]; exact h.rt.1
  ·rw [hput l (Ne.symm h.id_l) (by rw [h.rt.2]; simp)]; exact h.rt.2
  ·intro q hq
   injection hq with hq
   subst hq
   rw [Tab.put_ne _ _ n1]; exact Tab.put_same ..
  ·intro y hy
   obtain ⟨h1, h2⟩ := h.cy y hy
   exact ⟨by rw [hput x (Ne.symm h2) (by rw [h1]; simp [qur])]; exact h1, h2⟩
 have hF : Fr [id, w] [w'] T (((T.put id (.row 6 [.i .i64 c.me, .i .i64 c.ma, .ptr r 0, .i .u64 ((c.sq + 1 : Nat) : Int), .nilptr, ptO c.la x])).put w' (qua c.me (c.sq + 1) o 0)).put id (qd1 { c with sq := c.sq + 1, w := some (o, 0) } r w' x)) := by
  refine ⟨fun j h1 h2 => ?_, fun j hj => ?_⟩
  ·have hj : j ≠ id := fun e => h2 (by simp [e])
   rw [Tab.put_ne _ _ hj, Tab.put_ne _ _ (fun e => by subst e; exact h1 hw'), Tab.put_ne _ _ hj]
  ·simp only [List.mem_singleton] at hj
   subst hj
   exact .inr hw'
 generalize hT3 : Tab.put (Tab.put (Tab.put T id _) w' _) id _ = T3
 have hct' : Ct T3 id r l w' x { c with sq := c.sq + 1, w := some (o, 0) } := by rw [<- hT3]; exact hct
 have hF' : Fr [id, w] [w'] T T3 := by rw [<- hT3]; exact hF
 clear hct hF hT3
 have hac := qy0 hct' rfl hk2
 simp -implicitDefEqProofs -dsimp only [go_sem, seval, ↓J0 _ _ qcp]
 refine CallK.of hac fun v T' hv => ?_
 rw [hv.1, hv.2]
 refine J1 ?_
 simp -implicitDefEqProofs -dsimp only [go_sem, seval]
 exact q1d _ (fun _ => .inr (.inl rfl)) ⟨rfl, w', hct', hF'⟩
end Go.Aw
