import Derived.Test.YtmicojcojlgefaaC29N
namespace Go.Aw
open Go
open Go.Proofs.Try (prog)
set_option linter.all false
set_option maxHeartbeats 8000000
set_option maxRecDepth 8000

theorem ac_CallO {T : Tab} {id r l w x : Nat} {c : Cl} (h : Ct T id r l w x c) (hk : c.Ok) (o : Cp) (ho : o.Fine) (hk2 : (callF c o).1.1.Ok) :
    ACalls prog f_client_Client_Call [.ptr id 0, .agg o.cells] T (fun v T' => ∃ v0 w' Tc, v = .tup [v0, .i .i64 (callF c o).2] ∧ Ct Tc id r l w' x (callF c o).1.1 ∧ Fr [id, w] [w'] T Tc ∧ Own Tc 26 v0 (callF c o).1.2.length ((callF c o).1.2.flatMap Lt.kc) T') := by
  refine acalls_of mixed t_client_Client_Call (by simp) ?_
  have hT := h.cr
  simp only [clRow] at hT
  have cm := pc_cMay o ho
  have cR := pc_CloneRead (n := o.rs.length) (xs := o.rs.flatMap rdC) (cap := none) (flat_length rdC_len o.rs) (by have := ho.t.r; simp only at this; omega)
  have cW := pc_CloneWrite (n := o.ws.length) (xs := o.ws.flatMap wtC) (cap := none) (flat_length wtC_len o.ws) (by have := ho.t.w; simp only at this; omega)
  simp only [Cp.cells] at cm
  have hfr : Fr [id, w] [w] T T := ⟨fun _ _ _ => rfl, fun j hj => .inl (by simp only [List.mem_singleton] at hj; subst hj; simp)⟩
  unfold callF at hk2 ⊢
  unfold s_client_Client_Call
  rcases hw : c.w with _ | ⟨o1, t1⟩
  case some =>
    simp only [hw, ptO_none, ptO_some, Option.isSome_some, if_true] at hT ⊢
    simp -implicitDefEqProofs -dsimp only [go_sem, seval, Cp.cells, hT, eqAv]
    exact finL_of _ (fun _ => .inr (.inl rfl)) ⟨_, w, T, rfl, h, hfr, .nil ..⟩
  simp only [hw, ptO_none, ptO_some, Option.isSome_none, Bool.false_eq_true, if_false] at hT hk2 ⊢
  rcases hm : mayF o with _ | _
  · rw [hm] at cm
    simp only [if_true]
    simp -implicitDefEqProofs -dsimp only [go_sem, seval, Cp.cells, hT, eqAv, ↓g_call _ _ c_client_May]
    refine CallK.pure cm (aft_nil ?_)
    simp -implicitDefEqProofs -dsimp only [go_sem, seval]
    exact finL_of _ (fun _ => .inr (.inl rfl)) ⟨_, w, T, rfl, h, hfr, .nil ..⟩
  rw [hm] at cm
  simp only [hm, Bool.true_eq_false, if_false] at hk2 ⊢
  by_cases hs : c.sq = 18446744073709551615
  · have ds : decide ((c.sq : Int) = 18446744073709551615) = true := decide_eq_true (by omega)
    rw [if_pos hs]
    simp -implicitDefEqProofs -dsimp only [go_sem, seval, Cp.cells, hT, eqAv, ↓g_call _ _ c_client_May]
    refine CallK.pure cm (aft_nil ?_)
    simp -implicitDefEqProofs -dsimp only [go_sem, seval, hT, ds]
    exact finL_of _ (fun _ => .inr (.inl rfl)) ⟨_, w, T, rfl, h, hfr, .nil ..⟩
  have ds : decide ((c.sq : Int) = 18446744073709551615) = false := decide_eq_false (by omega)
  rw [if_neg hs] at hk2 ⊢
  have hsq := hk.sq
  have ws : IntKind.u64.wrap ((c.sq : Int) + 1) = ((c.sq + 1 : Nat) : Int) := (IntWalk.u64_in _ (by omega)).trans (by omega)
  simp -implicitDefEqProofs -dsimp only [go_sem, seval, Cp.cells, hT, eqAv, ↓g_call _ _ c_client_May]
  refine CallK.pure cm (aft_nil ?_)
  simp -implicitDefEqProofs -dsimp only [go_sem, seval, hT, ds, ws]
  refine stS_row hT rfl rfl (by simp) (aft_nil ?_)
  simp -implicitDefEqProofs -dsimp only [go_sem, seval, ↓g_call _ _ c_slices_Clone_entry_Read_entry_Read]
  refine CallK.pure cR (aft_nil ?_)
  simp -implicitDefEqProofs -dsimp only [go_sem, seval, ↓g_call _ _ c_slices_Clone_entry_Write_entry_Write]
  refine CallK.pure cW (aft_nil ?_)
  have hT1 : (T.put id (.row 6 [.i .i64 c.me, .i .i64 c.ma, .ptr r 0, .i .u64 ((c.sq + 1 : Nat) : Int), .nilptr, ptO c.la x])) id = .row 6 [.i .i64 c.me, .i .i64 c.ma, .ptr r 0, .i .u64 ((c.sq + 1 : Nat) : Int), .nilptr, ptO c.la x] := Tab.put_same ..
  simp -implicitDefEqProofs -dsimp only [go_sem, seval, hT1]
  intro w' hw'
  refine aft_nil ?_
  obtain ⟨n1, hw'⟩ := Tab.unused_put hw'
  have hT2 : ((T.put id (.row 6 [.i .i64 c.me, .i .i64 c.ma, .ptr r 0, .i .u64 ((c.sq + 1 : Nat) : Int), .nilptr, ptO c.la x])).put w' (wRow c.me (c.sq + 1) o 0)) id = .row 6 [.i .i64 c.me, .i .i64 c.ma, .ptr r 0, .i .u64 ((c.sq + 1 : Nat) : Int), .nilptr, ptO c.la x] := by
    rw [Tab.put_ne _ _ (Ne.symm n1)]; exact hT1
  simp -implicitDefEqProofs -dsimp only [go_sem, seval]
  refine stS_row hT2 rfl rfl (by simp) (aft_nil ?_)
  have hct : Ct (((T.put id (.row 6 [.i .i64 c.me, .i .i64 c.ma, .ptr r 0, .i .u64 ((c.sq + 1 : Nat) : Int), .nilptr, ptO c.la x])).put w' (wRow c.me (c.sq + 1) o 0)).put id (clRow { c with sq := c.sq + 1, w := some (o, 0) } r w' x)) id r l w' x { c with sq := c.sq + 1, w := some (o, 0) } := by
    have hput : ∀ j, j ≠ id → T j ≠ .unused → ∀ A B C, (((T.put id A).put w' B).put id C) j = T j := fun j h1 h2 A B C => by
      rw [Tab.put_ne _ _ h1, Tab.put_ne _ _ (fun e => by subst e; exact h2 hw'), Tab.put_ne _ _ h1]
    refine ⟨Tab.put_same .., ⟨?_, ?_⟩, ?_, ?_⟩
    · rw [hput r (Ne.symm h.id_r) (by rw [h.rt.1]; simp)]; exact h.rt.1
    · rw [hput l (Ne.symm h.id_l) (by rw [h.rt.2]; simp)]; exact h.rt.2
    · intro q hq
      injection hq with hq
      subst hq
      rw [Tab.put_ne _ _ n1]; exact Tab.put_same ..
    · intro y hy
      obtain ⟨h1, h2⟩ := h.cy y hy
      exact ⟨by rw [hput x (Ne.symm h2) (by rw [h1]; simp [rRow])]; exact h1, h2⟩
  have hF : Fr [id, w] [w'] T (((T.put id (.row 6 [.i .i64 c.me, .i .i64 c.ma, .ptr r 0, .i .u64 ((c.sq + 1 : Nat) : Int), .nilptr, ptO c.la x])).put w' (wRow c.me (c.sq + 1) o 0)).put id (clRow { c with sq := c.sq + 1, w := some (o, 0) } r w' x)) := by
    refine ⟨fun j h1 h2 => ?_, fun j hj => ?_⟩
    · have hj : j ≠ id := fun e => h2 (by simp [e])
      rw [Tab.put_ne _ _ hj, Tab.put_ne _ _ (fun e => by subst e; exact h1 hw'), Tab.put_ne _ _ hj]
    · simp only [List.mem_singleton] at hj
      subst hj
      exact .inr hw'
  generalize hT3 : Tab.put (Tab.put (Tab.put T id _) w' _) id _ = T3
  have hct' : Ct T3 id r l w' x { c with sq := c.sq + 1, w := some (o, 0) } := by rw [← hT3]; exact hct
  have hF' : Fr [id, w] [w'] T T3 := by rw [← hT3]; exact hF
  clear hct hF hT3
  have hac := ac_tryO hct' rfl hk2
  simp -implicitDefEqProofs -dsimp only [go_sem, seval, ↓g_call _ _ c_client_Client_try]
  refine CallK.of hac fun v T' hv => aft_nil ?_
  obtain ⟨p1, p2, p3, p4, p5, p6⟩ := hv.form
  simp -implicitDefEqProofs -dsimp only [go_sem, seval, p1, p2, p3, p4, p5, p6]
  exact finL_of _ (fun _ => .inr (.inl rfl)) ⟨v, w', T3, rfl, hct', hF', hv⟩
end Go.Aw

namespace Go.Aw
open Go
open Go.Proofs.Try (prog)
set_option linter.all false
set_option maxHeartbeats 8000000
set_option maxRecDepth 8000

/-! What a client sends is right, and from itself. -/
theorem newF_srv {ch : List Int} : ∀ (ys : List Int) (k : Nat), newF ch ys k = true → ∀ y ∈ ys, srv y = true
  | [], _, _, y, hy => by cases hy
  | x :: ys, k, h, y, hy => by
    simp only [newF, Bool.and_eq_true] at h
    rcases List.mem_cons.1 hy with rfl | hy
    · exact h.1.1
    · exact newF_srv (ch := ch) ys (k + 1) h.2 y hy
theorem right_srv {c : Cf} (h : c.right = true) : ∀ y ∈ c.ch, 0 ≤ y ∧ y < 8 := fun y hy => by
  have h1 : newF c.ch c.ch 0 = true := by
    simp only [Cf.right, Bool.and_eq_true] at h
    exact h.2
  have := newF_srv (ch := c.ch) _ _ h1 y hy
  simp only [srv, Bool.and_eq_true, Bool.not_eq_true', decide_eq_true_eq, decide_eq_false_iff_not] at this
  omega
structure LtS (me : Int) (g : Lt Cf) : Prop where
  r : lrF g = true
  fk : g.fk = 3
  fn : g.fn = me
  tk : g.tk ≠ 3
  s : g.Small
  t : g.t.Fine
theorem ad_of {k n : Int} (h : 0 ≤ n) (h2 : n < mostA k) : adOk k n = true := by simp only [adOk, Bool.and_eq_true, decide_eq_true_eq]; exact ⟨h, h2⟩
theorem zLs : ∀ (fk fn tk tn k cl sq : Int) (v : Bs) (t : Tx), t.Fine → ({ zL with fk := fk, fn := fn, tk := tk, tn := tn, k := k, cl := cl, sq := sq, v := v, t := t } : Lt Cf).Small := fun _ _ _ _ _ _ _ _ t ht =>
  ⟨(show (0 : Nat) < 9223372036854775808 by decide), (show (0 : Nat) < 9223372036854775808 by decide), (show (0 : Nat) < 9223372036854775808 by decide), (by have := ht.r; show t.rs.length < 9223372036854775808; omega), (by have := ht.w; show t.ws.length < 9223372036854775808; omega), fun _ h => (by cases h), fun _ h => (by cases h)⟩
theorem try_ok {c : Cl} {o : Cp} {t : Int} (hk : c.Ok) (ho : o.Fine ∧ mayF o = true ∧ 1 ≤ c.sq) (ht : 0 ≤ t) : ∀ g ∈ tryL c o t, LtS c.me g := by
  have hme := hk.me
  have hma := hk.ma
  have a3 : adOk 3 c.me = true := ad_of hme.1 (show c.me < 6 from hme.2)
  have hf : LtS c.me (fsL c o t) := by
    unfold fsL
    by_cases h1 : o.k = 1
    · rw [if_pos h1]
      have hmay := ho.2.1
      unfold mayF at hmay
      rw [if_pos h1] at hmay
      have hkl : o.key.length ≤ 32 := by
        simp only [keyOk, Bool.and_eq_true, decide_eq_true_eq] at hmay; omega
      obtain ⟨cf, xx, r1, r2, r3⟩ := rd_some hk.l o.key t
      have hr := right_srv (hk.l.c _ cf r1).1 xx (List.mem_of_getElem? r2)
      have a2 : adOk 2 (rdTo c.l o.key t) = true := by rw [r3]; exact ad_of hr.1 (show xx < 8 from hr.2)
      exact ⟨gt_right a3 a2 (by simp only [idOk, Bool.and_eq_true, decide_eq_true_eq]; omega) (by omega), rfl, rfl, (show (2 : Int) ≠ 3 by decide), zLs _ _ _ _ _ _ _ _ _ zTf, zTf⟩
    · rw [if_neg h1]
      have hmay := ho.2.1
      unfold mayF at hmay
      rw [if_neg h1] at hmay
      have htx : txOk (txn o c.me c.sq) = true := txOk_id hmay hme (by omega)
      have htf := txn_fine ho.1 c.me c.sq
      obtain ⟨xx, cf, r1, r2, r3⟩ := wr_some hk.l htx
      have hri := (hk.l.c _ cf r2).1
      have hlen := right_len hri
      have a2 : adOk 2 (wrTo c.l (txn o c.me c.sq)) = true := by
        rw [r3]
        unfold Cf.at
        rw [if_pos ⟨hri, by omega, by omega⟩]
        obtain ⟨y, hy⟩ : ∃ y, cf.ch[(0 : Int).toNat]? = some y := ⟨_, List.getElem?_eq_getElem (by show 0 < _; omega)⟩
        rw [hy]
        have := right_srv hri y (List.mem_of_getElem? hy)
        exact ad_of this.1 (show y < 8 from this.2)
      exact ⟨do_right a3 a2 htx, rfl, rfl, (show (2 : Int) ≠ 3 by decide), zLs _ _ _ _ _ 0 0 [] _ htf, htf⟩
  intro g hg
  unfold tryL at hg
  rcases List.mem_cons.1 hg with rfl | hg
  · exact hf
  split at hg
  · simp only [List.mem_singleton] at hg
    subst hg
    have b1 := Int.lt_tmod_of_pos (t.tdiv 3) (show (0 : Int) < c.ma by omega)
    have b2 := Int.tmod_lt_of_pos (t.tdiv 3) (show (0 : Int) < c.ma by omega)
    have b3 : 0 ≤ (t.tdiv 3).tmod c.ma := Int.tmod_nonneg _ (by rw [Int.tdiv_eq_ediv_of_nonneg ht]; omega)
    have a1 : adOk 1 ((t.tdiv 3).tmod c.ma) = true := ad_of b3 (show _ < (5 : Int) by omega)
    exact ⟨kn_right a3 a1, rfl, rfl, (show (1 : Int) ≠ 3 by decide), zLs _ _ _ _ _ 0 0 [] _ zTf, zTf⟩
  · cases hg
end Go.Aw

