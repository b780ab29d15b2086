import Derived.Test.YtchkfbfbhaldfaaO16E
namespace Go.Aw
open Go
open Go.Proofs.Try (prog)
set_option linter.all false
set_option maxHeartbeats 4000000

theorem fz_bts {n : Nat} {l : List UInt8} {c : Option Nat} (h : l.length = n) : AV.fz n (byteCells l) c = bts l c := by subst h; rfl
theorem byteCells_full (l : List UInt8) : (byteCells l).take l.length = byteCells l := by rw [List.take_of_length_le]; rw [byteCells_length]; exact Nat.le_refl _
theorem rT_le {T T1 : Tab} {id : Nat} {s : RS} (h : TabLe T T1) (hid : T1 id = .unused) : TabLe T (rT T1 id s) := h.put (h.unused hid)
theorem rCf_ep (s : RS) : 0 ≤ (rCf s).1.ep ∧ (rCf s).1.ep < 18446744073709551616 := by
  have := rMost_le 18446744073709551615 s
  show 0 ≤ ((rMost 18446744073709551615 s).1 : Int) ∧ ((rMost 18446744073709551615 s).1 : Int) < _
  omega
theorem drop_left {a b : List UInt8} {n : Nat} (h : n = (a ++ b).length - b.length) : (a ++ b).drop n = b := by
  rw [h, List.length_append, Nat.add_sub_cancel]; simp

theorem at_Left {T : Tab} {id : Nat} {s : RS} (h : T id = rdRow s) : ACalls prog f_octet_Reader_Left [.ptr id 0] T (fun v T' => v = .i .i64 (if s.2 = true then (0 : Nat) else s.1.length : Nat) ∧ T' = T) := by
  have := ac_Left (T := T) (id := id) (s := s); rwa [rT_self h] at this
theorem pc_ConfBytes (c : Rf) (k : Option Nat) (b : List UInt8) (cb : Option Nat) (hb : Len b.length) (hl : Len c.l.length) (he : 0 ≤ c.ep ∧ c.ep < 18446744073709551616) : PCalls prog f_sautoirlaw16_ConfBytes [.agg (c.cells k), bts b cb] (.b true) := by
  refine pcalls_of mixed t_sautoirlaw16_ConfBytes (by simp) fun T => ?_
  have ho : c.ours.ch.length ≤ 10 := by simp [Rf.ours, ourCh]; omega
  have hf : c.ours.fu.length = c.ours.ch.length := by simp [Rf.ours, ourCh, ourFu]
  have hep : 0 ≤ c.ours.ep ∧ c.ours.ep < 18446744073709551616 := he
  have c1 := pc_Ours c k hl
  generalize c.ours = o at ho hf hep c1
  have hlo : Len o.ch.length := by unfold Len; omega
  have hlw : Len o.plain.l.length := by rw [o.plain_len]; exact hlo
  have c2 := pc_Plain o none none (by omega)
  have hR := o.plain_right hf
  have cRR := pc_RRight o.plain none hlw
  simp only [Rf.cells, Cf.cells] at c1 c2 cRR
  unfold s_sautoirlaw16_ConfBytes
  rcases hlen : decide ((60 : Int) < (b.length : Int)) with _ | _
  case' false =>
    have hd : b.length ≤ 60 := by have := of_decide_eq_false hlen; omega
    simp -implicitDefEqProofs -dsimp only [go_sem, Nat.reduceEqDiff, Nat.reduceAdd, Nat.reduceMul, Nat.reduceSub, Nat.reduceLT, Nat.reduceLeDiff, Nat.reduceBEq, reduceIte, reduceCtorEq, Int.reduceLT, Int.reduceLE, Int.reduceEq, Int.reduceNeg, Int.reduceToNat, Int.reduceAdd, Int.reduceSub, bts, hlen, Rf.cells, ↓g_call _ _ c_sautoirlaw16_Ours]
    rw [show AV.fz b.length (byteCells b) cb = bts b cb from rfl]
    clear hb hlen
    generalize cb = q
    generalize b = d at hd
  case' true =>
    have hd0 : 60 ≤ b.length := by have := of_decide_eq_true hlen; omega
    have hd1 : (b.take 60).length = 60 := by rw [List.length_take]; omega
    have hd : (b.take 60).length ≤ 60 := by omega
    simp -implicitDefEqProofs -dsimp only [go_sem, Nat.reduceEqDiff, Nat.reduceAdd, Nat.reduceMul, Nat.reduceSub, Nat.reduceLT, Nat.reduceLeDiff, Nat.reduceBEq, reduceIte, reduceCtorEq, Int.reduceLT, Int.reduceLE, Int.reduceEq, Int.reduceNeg, Int.reduceToNat, Int.reduceAdd, Int.reduceSub, bts, hlen, Rf.cells, show (60 : Int).toNat = 60 from rfl, hd0, Nat.zero_le, ↓g_call _ _ c_sautoirlaw16_Ours]
    rw [byteCells_take, fz_bts hd1]
    clear hb hlen hd0 hd1
    generalize b.take 60 = d at hd
  all_goals
    refine CallK.pure c1 (aft_nil ?_)
    simp -implicitDefEqProofs -dsimp only [go_sem, Nat.reduceEqDiff, Nat.reduceAdd, Nat.reduceMul, Nat.reduceSub, Nat.reduceLT, Nat.reduceLeDiff, Nat.reduceBEq, reduceIte, reduceCtorEq, Int.reduceLT, Int.reduceLE, Int.reduceEq, Int.reduceNeg, Int.reduceToNat, Int.reduceAdd, Int.reduceSub, ↓g_call _ _ c_sautoirlaw16_Plain]
    refine CallK.pure c2 (aft_nil ?_)
    simp -implicitDefEqProofs -dsimp only [go_sem, Nat.reduceEqDiff, Nat.reduceAdd, Nat.reduceMul, Nat.reduceSub, Nat.reduceLT, Nat.reduceLeDiff, Nat.reduceBEq, reduceIte, reduceCtorEq, Int.reduceLT, Int.reduceLE, Int.reduceEq, Int.reduceNeg, Int.reduceToNat, Int.reduceAdd, Int.reduceSub, ↓g_call _ _ c_conf_Put]
    refine CallK.pure (pc_cPut d _ o none none (by omega) hlo hep) (aft_nil ?_)
    simp -implicitDefEqProofs -dsimp only [go_sem, Nat.reduceEqDiff, Nat.reduceAdd, Nat.reduceMul, Nat.reduceSub, Nat.reduceLT, Nat.reduceLeDiff, Nat.reduceBEq, reduceIte, reduceCtorEq, Int.reduceLT, Int.reduceLE, Int.reduceEq, Int.reduceNeg, Int.reduceToNat, Int.reduceAdd, Int.reduceSub, ↓g_call _ _ c_octet_New]
    refine CallK.of (ac_New d _ (by omega)) (fun v T1 h => aft_nil ?_)
    obtain ⟨id, rfl, hid, rfl⟩ := h
    have hT : TabLe T (rT T id (d, false)) := rT_le (.refl T) hid
    simp -implicitDefEqProofs -dsimp only [go_sem, Nat.reduceEqDiff, Nat.reduceAdd, Nat.reduceMul, Nat.reduceSub, Nat.reduceLT, Nat.reduceLeDiff, Nat.reduceBEq, reduceIte, reduceCtorEq, Int.reduceLT, Int.reduceLE, Int.reduceEq, Int.reduceNeg, Int.reduceToNat, Int.reduceAdd, Int.reduceSub, ↓g_call _ _ c_conf_Read]
    refine CallK.as (ac_cRead rT_row (by unfold Len; simp; omega)) (aft_nil ?_)
    rw [rT_rT]
    clear hT
    have hT : TabLe T (rT T id (rCf (d, false)).2) := rT_le (.refl T) hid
    have fin2 : True := trivial
    rcases hk : rCfOk (d, false) with _ | _
    case' false =>
      have hz : rCfAns (d, false) = cf00 := by simp [rCfAns, hk]
      have cS := pc_cSame_refl cf00 none none (some 0) (some 0) (by decide) (by decide)
      simp only [cf00, Cf.cells, ints_nil, bools_nil, List.length_nil] at cS
      simp -implicitDefEqProofs -dsimp only [go_sem, Nat.reduceEqDiff, Nat.reduceAdd, Nat.reduceMul, Nat.reduceSub, Nat.reduceLT, Nat.reduceLeDiff, Nat.reduceBEq, reduceIte, reduceCtorEq, Int.reduceLT, Int.reduceLE, Int.reduceEq, Int.reduceNeg, Int.reduceToNat, Int.reduceAdd, Int.reduceSub, hz, cf00, Cf.cells, ints_nil, bools_nil, List.length_nil, hk, ↓g_gdc, rcOk, gvev, gdd, true_and, ↓g_call _ _ c_conf_Same]
      refine CallK.pure cS (aft_nil ?_)
      simp -implicitDefEqProofs -dsimp only [go_sem, Nat.reduceEqDiff, Nat.reduceAdd, Nat.reduceMul, Nat.reduceSub, Nat.reduceLT, Nat.reduceLeDiff, Nat.reduceBEq, reduceIte, reduceCtorEq, Int.reduceLT, Int.reduceLE, Int.reduceEq, Int.reduceNeg, Int.reduceToNat, Int.reduceAdd, Int.reduceSub, ↓g_gdc, rcOk, gvev, gdd, true_and, ↓g_call _ _ c_sautoirref16_Right]
    case' true =>
      have hz : rCfAns (d, false) = (rCf (d, false)).1 := by simp [rCfAns, hk]
      have hk2 : (rCf (d, false)).2.2 = false ∧ (rCf (d, false)).1.right = true := by
        simp only [rCfOk, Bool.and_eq_true, Bool.not_eq_true'] at hk; exact hk
      have hinv := (rCf_inv hk2.1).2
      simp only at hinv
      have hok := Cf.ok_of hk2.2 (rCf_ep _)
      have x8 := hok.ch
      generalize hrr : rCf (d, false) = r at *
      obtain ⟨x, rest, bad⟩ := r
      simp only at hk2 hinv hok x8 hz
      obtain ⟨rfl, hxr⟩ := hk2
      have d1 := pc_conf_Right x none none (by unfold Len; omega)
      have d2 := pc_Plain x none none (by omega)
      have d3 := ac_rPut16 x.plain none hok.plain (rT T id (rest, false))
      rw [hxr] at d1
      simp only [Rf.cells, Cf.cells] at d1 d2 d3
      have hlr : (encRf x.plain).length + rest.length = d.length := by rw [hinv]; simp
      simp -implicitDefEqProofs -dsimp only [go_sem, Nat.reduceEqDiff, Nat.reduceAdd, Nat.reduceMul, Nat.reduceSub, Nat.reduceLT, Nat.reduceLeDiff, Nat.reduceBEq, reduceIte, reduceCtorEq, Int.reduceLT, Int.reduceLE, Int.reduceEq, Int.reduceNeg, Int.reduceToNat, Int.reduceAdd, Int.reduceSub, hz, Cf.cells, hk, ↓g_gdc, rcOk, gvev, gdd, true_and, ↓g_call _ _ c_conf_Right]
      refine CallK.pure d1 (aft_nil ?_)
      simp -implicitDefEqProofs -dsimp only [go_sem, Nat.reduceEqDiff, Nat.reduceAdd, Nat.reduceMul, Nat.reduceSub, Nat.reduceLT, Nat.reduceLeDiff, Nat.reduceBEq, reduceIte, reduceCtorEq, Int.reduceLT, Int.reduceLE, Int.reduceEq, Int.reduceNeg, Int.reduceToNat, Int.reduceAdd, Int.reduceSub, bts, bytesAv_cells, byteCells_length, ↓g_gdc, rcOk, gvev, gdd, true_and, ↓g_call _ _ c_sautoirlaw16_Plain]
      refine CallK.pure d2 (aft_rc (fun _ => ?_) ?_)
      · simp -implicitDefEqProofs -dsimp only [go_sem, Nat.reduceEqDiff, Nat.reduceAdd, Nat.reduceMul, Nat.reduceSub, Nat.reduceLT, Nat.reduceLeDiff, Nat.reduceBEq, reduceIte, reduceCtorEq, Int.reduceLT, Int.reduceLE, Int.reduceEq, Int.reduceNeg, Int.reduceToNat, Int.reduceAdd, Int.reduceSub, rcOk, gvev, gdd, bytesAv_cells, byteCells_length]
      simp -implicitDefEqProofs -dsimp only [go_sem, Nat.reduceEqDiff, Nat.reduceAdd, Nat.reduceMul, Nat.reduceSub, Nat.reduceLT, Nat.reduceLeDiff, Nat.reduceBEq, reduceIte, reduceCtorEq, Int.reduceLT, Int.reduceLE, Int.reduceEq, Int.reduceNeg, Int.reduceToNat, Int.reduceAdd, Int.reduceSub, ↓g_gdc, rcOk, true_and, ↓g_call _ _ c_sautoirref16_Put]
      refine CallK.of d3 (fun v T1 ho => aft_rc (fun _ => ?_) ?_)
      all_goals obtain ⟨p1, p2, p3, p4, p5, p6⟩ := ho.form
      · simp -implicitDefEqProofs -dsimp only [go_sem, Nat.reduceEqDiff, Nat.reduceAdd, Nat.reduceMul, Nat.reduceSub, Nat.reduceLT, Nat.reduceLeDiff, Nat.reduceBEq, reduceIte, reduceCtorEq, Int.reduceLT, Int.reduceLE, Int.reduceEq, Int.reduceNeg, Int.reduceToNat, Int.reduceAdd, Int.reduceSub, rcOk, gvev, gdd, bytesAv_cells, byteCells_length]
      have hne : 0 < (encRf x.plain).length := by have := List.length_pos_iff.2 (enc_ne x.plain.ep.toNat); simp only [encRf, List.length_append]; omega
      obtain ⟨j, rfl, hj, rfl⟩ := ho.ne hne
      have hjd : j ≠ id := fun e => by subst e; rw [rT_row] at hj; cases hj
      have hat : (rT T id (rest, false)).put j (.row 1 (byteCells (encRf x.plain))) id = rdRow (rest, false) := by rw [Tab.put_ne _ _ (Ne.symm hjd)]; exact rT_row
      simp -implicitDefEqProofs -dsimp only [go_sem, Nat.reduceEqDiff, Nat.reduceAdd, Nat.reduceMul, Nat.reduceSub, Nat.reduceLT, Nat.reduceLeDiff, Nat.reduceBEq, reduceIte, reduceCtorEq, Int.reduceLT, Int.reduceLE, Int.reduceEq, Int.reduceNeg, Int.reduceToNat, Int.reduceAdd, Int.reduceSub, Tab.put_same, byteCells_length, byteCells_full, Nat.le_refl, bytesAv_cells, ↓g_gdc, rcOk, true_and, ↓g_call _ _ c_octet_Reader_Left]
      refine CallK.as (at_Left hat) (aft_rc (fun _ => ?_) ?_)
      · simp -implicitDefEqProofs -dsimp only [go_sem, Nat.reduceEqDiff, Nat.reduceAdd, Nat.reduceMul, Nat.reduceSub, Nat.reduceLT, Nat.reduceLeDiff, Nat.reduceBEq, reduceIte, reduceCtorEq, Int.reduceLT, Int.reduceLE, Int.reduceEq, Int.reduceNeg, Int.reduceToNat, Int.reduceAdd, Int.reduceSub, rcOk, gvev, gdd, Tab.put_same, bytesAv_cells, byteCells_length, byteCells_full, Nat.le_refl]
      have w48 : IntKind.i64.wrap ((d.length : Int) - (rest.length : Int)) = ((encRf x.plain).length : Int) := by rw [wrap_i64 (by unfold I64; omega)]; omega
      have hle : (encRf x.plain).length ≤ d.length := by omega
      have e49 : ((byteCells d).drop (encRf x.plain).length).take rest.length = byteCells rest := by
        rw [byteCells_drop, byteCells_take, hinv, drop_left (by simp)]
        rw [List.take_of_length_le (by simp)]
      have e50 : d.length - (encRf x.plain).length = rest.length := by omega
      have hmx : (encRf x.plain).length + rest.length ≤ 9223372036854775807 := by omega
      simp -implicitDefEqProofs -dsimp only [go_sem, Nat.reduceEqDiff, Nat.reduceAdd, Nat.reduceMul, Nat.reduceSub, Nat.reduceLT, Nat.reduceLeDiff, Nat.reduceBEq, reduceIte, reduceCtorEq, Int.reduceLT, Int.reduceLE, Int.reduceEq, Int.reduceNeg, Int.reduceToNat, Int.reduceAdd, Int.reduceSub, Bool.false_eq_true, w48, hle, Nat.le_refl, Int.natCast_nonneg, Int.toNat_natCast, e49, e50, byteCells_length, bytesAv_cells, hmx, ← hinv, decide_true, ↓g_gdc, rcOk, true_and, ↓g_call _ _ c_sautoirref16_Right]
      have hT' := hT.put (id := j) (s := .row 1 (byteCells (encRf x.plain))) (hT.unused hj)
      clear hT
      have hT := hT'
      clear hT' hat hj
      generalize (rT T id (rest, false)).put j (.row 1 (byteCells (encRf x.plain))) = Tc at hT ⊢
    case' false => generalize (rT T id (rCf (d, false)).2) = Tc at hT ⊢
    all_goals
      refine CallK.pure cRR (aft_nil ?_)
      rw [hR]
      rcases hor : o.right with _ | _
      · simp -implicitDefEqProofs -dsimp only [go_sem, Nat.reduceEqDiff, Nat.reduceAdd, Nat.reduceMul, Nat.reduceSub, Nat.reduceLT, Nat.reduceLeDiff, Nat.reduceBEq, reduceIte, reduceCtorEq, Int.reduceLT, Int.reduceLE, Int.reduceEq, Int.reduceNeg, Int.reduceToNat, Int.reduceAdd, Int.reduceSub, hor, bts, Bool.false_eq_true, bytesAv_cells, byteCells_length, decide_true, ↓g_gdc, rcOk, true_and, ↓g_call _ _ c_sautoirlaw16_awake]
        refine CallK.pure pc_awake (aft_nil ?_)
        simp -implicitDefEqProofs -dsimp only [go_sem, Nat.reduceEqDiff, Nat.reduceAdd, Nat.reduceMul, Nat.reduceSub, Nat.reduceLT, Nat.reduceLeDiff, Nat.reduceBEq, reduceIte, reduceCtorEq, Int.reduceLT, Int.reduceLE, Int.reduceEq, Int.reduceNeg, Int.reduceToNat, Int.reduceAdd, Int.reduceSub]
        exact hT.fin
      have hook := Cf.ok_of hor hep
      have y8 := hook.ch
      have hle : d.length ≤ (d ++ encRf o.plain).length := by simp
      simp -implicitDefEqProofs -dsimp only [go_sem, Nat.reduceEqDiff, Nat.reduceAdd, Nat.reduceMul, Nat.reduceSub, Nat.reduceLT, Nat.reduceLeDiff, Nat.reduceBEq, reduceIte, reduceCtorEq, Int.reduceLT, Int.reduceLE, Int.reduceEq, Int.reduceNeg, Int.reduceToNat, Int.reduceAdd, Int.reduceSub, hor, bts, Nat.le_refl, Int.natCast_nonneg, Int.toNat_natCast, hle, ↓g_call _ _ c_octet_New]
      have hmemb : ∀ m ∈ o.plain.l, 0 ≤ m.1 ∧ m.1 < 8 := hook.plain.ms
      have l9 := flatB_len (g := encM) o.plain.l fun m hm => encM_len (hmemb m hm)
      have l9b : o.plain.l.length ≤ 8 := hook.plain.l
      have l9c := enc_len10 (m := o.plain.ep.toNat) (by have := hook.plain.ep; omega)
      have l9d := enc_len10 (m := o.plain.sh.toNat) (by have := hook.plain.sh; omega)
      have l9e := enc_len10 (m := o.plain.l.length) (by omega)
      have l9f := enc_len10 (m := lnN o.plain.ln) (by have := hook.plain.ln; unfold lnN; split <;> omega)
      have hsz : (encRf o.plain).length ≤ 1000 := by simp only [encRf, List.length_append]; omega
      have e81 : AV.fz ((d ++ encRf o.plain).length - d.length) (List.take ((d ++ encRf o.plain).length - d.length) (List.drop d.length (byteCells (d ++ encRf o.plain)))) none = bts (encRf o.plain) none := by
        rw [byteCells_drop, byteCells_take, List.length_append, Nat.add_sub_cancel_left]; simp [bts]
      rw [e81]
      refine CallK.of (ac_New (encRf o.plain) none (by omega)) (fun v T1 h => aft_nil ?_)
      obtain ⟨id2, rfl, hid2, rfl⟩ := h
      have hrd : rCf (encRf o.plain, false) = (o, ([], false)) := by have := rCf_put hook []; rwa [List.append_nil] at this
      have hrk : rCfOk (encRf o.plain, false) = true := by simp [rCfOk, hrd, hor]
      have hra : rCfAns (encRf o.plain, false) = o := by simp [rCfAns, hrk, hrd]
      have cR := ac_cRead (rT_row (T := Tc) (id := id2) (s := (encRf o.plain, false))) (by unfold Len; simp; omega)
      rw [hra, hrk, hrd, rT_rT] at cR
      simp only [Cf.cells] at cR
      simp -implicitDefEqProofs -dsimp only [go_sem, Nat.reduceEqDiff, Nat.reduceAdd, Nat.reduceMul, Nat.reduceSub, Nat.reduceLT, Nat.reduceLeDiff, Nat.reduceBEq, reduceIte, reduceCtorEq, Int.reduceLT, Int.reduceLE, Int.reduceEq, Int.reduceNeg, Int.reduceToNat, Int.reduceAdd, Int.reduceSub, ↓g_call _ _ c_conf_Read]
      refine CallK.as cR (aft_nil ?_)
      have d3 := ac_rPut16 o.plain none hook.plain (rT Tc id2 ([], false))
      simp only [Rf.cells] at d3
      have hT2 : TabLe T (rT Tc id2 ([], false)) := rT_le hT hid2
      simp -implicitDefEqProofs -dsimp only [go_sem, Nat.reduceEqDiff, Nat.reduceAdd, Nat.reduceMul, Nat.reduceSub, Nat.reduceLT, Nat.reduceLeDiff, Nat.reduceBEq, reduceIte, reduceCtorEq, Int.reduceLT, Int.reduceLE, Int.reduceEq, Int.reduceNeg, Int.reduceToNat, Int.reduceAdd, Int.reduceSub, bytesAv_cells, byteCells_length, ↓g_gdc, rcOk, true_and, ↓g_call _ _ c_sautoirref16_Put]
      refine CallK.of d3 (fun v T1 ho => aft_rc (fun _ => ?_) ?_)
      all_goals obtain ⟨p1, p2, p3, p4, p5, p6⟩ := ho.form
      · simp -implicitDefEqProofs -dsimp only [go_sem, Nat.reduceEqDiff, Nat.reduceAdd, Nat.reduceMul, Nat.reduceSub, Nat.reduceLT, Nat.reduceLeDiff, Nat.reduceBEq, reduceIte, reduceCtorEq, Int.reduceLT, Int.reduceLE, Int.reduceEq, Int.reduceNeg, Int.reduceToNat, Int.reduceAdd, Int.reduceSub, rcOk, gvev, gdd, bytesAv_cells, byteCells_length]
      have hne : 0 < (encRf o.plain).length := by have := List.length_pos_iff.2 (enc_ne o.plain.ep.toNat); simp only [encRf, List.length_append]; omega
      obtain ⟨j2, rfl, hj2, rfl⟩ := ho.ne hne
      have hjd2 : j2 ≠ id2 := fun e => by subst e; rw [rT_row] at hj2; cases hj2
      have hat2 : (rT Tc id2 ([], false)).put j2 (.row 1 (byteCells (encRf o.plain))) id2 = rdRow ([], false) := by rw [Tab.put_ne _ _ (Ne.symm hjd2)]; exact rT_row
      have hT3 := hT2.put (id := j2) (s := .row 1 (byteCells (encRf o.plain))) (hT2.unused hj2)
      have hmx2 : d.length + (encRf o.plain).length ≤ 9223372036854775807 := by omega
      have cS := pc_cSame_refl o none none none none (by omega) (by omega)
      simp only [Cf.cells] at cS
      simp -implicitDefEqProofs -dsimp only [go_sem, Nat.reduceEqDiff, Nat.reduceAdd, Nat.reduceMul, Nat.reduceSub, Nat.reduceLT, Nat.reduceLeDiff, Nat.reduceBEq, reduceIte, reduceCtorEq, Int.reduceLT, Int.reduceLE, Int.reduceEq, Int.reduceNeg, Int.reduceToNat, Int.reduceAdd, Int.reduceSub, Tab.put_same, byteCells_length, byteCells_full, Nat.le_refl, bytesAv_cells, hmx2, decide_true, ↓g_gdc, rcOk, true_and, ↓g_call _ _ c_conf_Same]
      refine CallK.pure cS (aft_nil ?_)
      simp -implicitDefEqProofs -dsimp only [go_sem, Nat.reduceEqDiff, Nat.reduceAdd, Nat.reduceMul, Nat.reduceSub, Nat.reduceLT, Nat.reduceLeDiff, Nat.reduceBEq, reduceIte, reduceCtorEq, Int.reduceLT, Int.reduceLE, Int.reduceEq, Int.reduceNeg, Int.reduceToNat, Int.reduceAdd, Int.reduceSub, ↓g_gdc, rcOk, true_and, ↓g_call _ _ c_octet_Reader_Done]
      refine CallK.as (ac_Done hat2) (aft_nil ?_)
      simp -implicitDefEqProofs -dsimp only [go_sem, Nat.reduceEqDiff, Nat.reduceAdd, Nat.reduceMul, Nat.reduceSub, Nat.reduceLT, Nat.reduceLeDiff, Nat.reduceBEq, reduceIte, reduceCtorEq, Int.reduceLT, Int.reduceLE, Int.reduceEq, Int.reduceNeg, Int.reduceToNat, Int.reduceAdd, Int.reduceSub, decide_true, Bool.not_false, Bool.true_and, ↓g_gdc, rcOk, true_and, ↓g_call _ _ c_sautoirlaw16_awake]
      refine CallK.pure pc_awake (aft_nil ?_)
      simp -implicitDefEqProofs -dsimp only [go_sem, Nat.reduceEqDiff, Nat.reduceAdd, Nat.reduceMul, Nat.reduceSub, Nat.reduceLT, Nat.reduceLeDiff, Nat.reduceBEq, reduceIte, reduceCtorEq, Int.reduceLT, Int.reduceLE, Int.reduceEq, Int.reduceNeg, Int.reduceToNat, Int.reduceAdd, Int.reduceSub]
      exact hT3.fin
end Go.Aw
