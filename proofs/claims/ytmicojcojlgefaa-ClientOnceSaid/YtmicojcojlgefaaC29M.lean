import Derived.Test.YtmicojcojlgefaaC29J
namespace Go.Aw
open Go
open Go.Proofs.Try (prog)
set_option linter.all false
set_option maxHeartbeats 8000000
set_option maxRecDepth 8000

/-- Rows of one's own, ahead of which all stands as it was. -/
structure Bs0 (T Tn : Tab) (ids : List Nat) : Prop where
  f : ∀ j, T j ≠ .unused → Tn j = T j
  u : ∀ j ∈ ids, T j = .unused
theorem Bs0.start {T T1 : Tab} {new : List Nat} (h : Fr [] new T T1) : Bs0 T T1 new := ⟨fun j hj => h.1 j hj (by simp), fun j hj => (h.2 j hj).resolve_left (by simp)⟩
theorem Bs0.step {T T1 T2 : Tab} {ids fp new : List Nat} (h : Bs0 T T1 ids) (hf : Fr fp new T1 T2) (hs : ∀ j ∈ fp, j ∈ ids) : Bs0 T T2 (new ++ ids) := by
  refine ⟨fun j hj => ?_, fun j hj => ?_⟩
  · have h1 := h.f j hj
    rw [hf.1 j (by rw [h1]; exact hj) (fun e => hj (h.u j (hs j e))), h1]
  · rcases List.mem_append.1 hj with hj | hj
    · rcases hf.2 j hj with h1 | h1
      · exact h.u j (hs j h1)
      · by_cases hu : T j = .unused
        · exact hu
        · rw [h.f j hu] at h1; exact absurd h1 hu
    · exact h.u j hj
theorem Bs0.le {T Tn : Tab} {ids : List Nat} (h : Bs0 T Tn ids) (j : Nat) : SlotLe (T j) (Tn j) := by
  by_cases hu : T j = .unused
  · exact .inl hu
  · exact .inr (.inl (h.f j hu).symm)
/-! The chapter's example. -/
def opA : Cp := ⟨1, [97], [], [], []⟩
def cA0 : Cl := cl0 2 1 1 1
def cA1 : Cl := { cA0 with sq := 1, w := some (opA, 0) }
def gA : Lt Cf := { zL with fk := 3, fn := 2, tk := 2, tn := 0, k := 19, cl := 2, sq := 1, v := [97] }
def xA : Lt Cf := { zL with fk := 2, fn := 0, tk := 3, tn := 2, k := 21, cl := 2, sq := 1, v := [118], q := 4 }
def cA2 : Cl := { cA1 with w := none, la := some ⟨2, 1, 0, 0, [118], 4⟩ }
theorem sokA : sok 1 1 1 = true := by decide
theorem opA_fine : opA.Fine := ⟨(show (1 : Nat) < 9223372036854775808 by decide), (show (0 : Nat) < 9223372036854775808 by decide), ⟨(show (0 : Nat) < 1000000000 by decide), (show (0 : Nat) < 1000000000 by decide), fun _ h => (by cases h), fun _ h => (by cases h), fun _ h => (by cases h)⟩⟩
theorem cA0_ok : cA0.Ok := ⟨by decide, by decide, by decide, cfs0_ok (S := 1) (L := 1) (v := 1) sokA, fun _ h => by cases h⟩
theorem mayA : mayF opA = true := by decide +kernel
theorem cA1_ok : cA1.Ok := ⟨by decide, by decide, by decide, cfs0_ok (S := 1) (L := 1) (v := 1) sokA, fun o h => by
  injection h with h
  subst h
  exact ⟨⟨opA_fine, mayA, by decide⟩, by decide, by decide⟩⟩
theorem rdA : rdTo (cfs0 1 1) [97] 0 = 0 := by decide +kernel
theorem callA : callF cA0 opA = ((cA1, [gA]), 0) := by
  unfold callF
  rw [if_neg (by decide), if_neg (by rw [mayA]; decide), if_neg (by decide)]
  have e : tryL { cA0 with sq := cA0.sq + 1 } opA 0 = [gA] := by
    unfold tryL fsL
    rw [if_pos (show opA.k = 1 from rfl), if_neg (by decide)]
    unfold gtL
    show [{ zL with fk := 3, fn := 2, tk := 2, tn := rdTo (cfs0 1 1) [97] 0, k := 19, cl := 2, sq := 1, v := [97] }] = _
    rw [rdA]
    rfl
  rw [e]
  rfl
theorem xA_right : lrF xA = true := by decide +kernel
theorem hearA : hearF cA1 xA = (cA2, true) := by
  unfold hearF
  rw [if_neg (by unfold mine; rw [xA_right]; decide), if_neg (by decide), if_pos (by decide)]
  rfl
theorem hearA2 : hearF cA2 xA = (cA2, false) := by
  unfold hearF
  rw [if_neg (by unfold mine; rw [xA_right]; decide), if_neg (by decide), if_neg (by decide)]
theorem cA2_ok : cA2.Ok := ⟨by decide, by decide, by decide, cfs0_ok (S := 1) (L := 1) (v := 1) sokA, fun _ h => by cases h⟩
theorem xA_small : xA.Small := ⟨(show (0 : Nat) < 9223372036854775808 by decide), (show (0 : Nat) < 9223372036854775808 by decide), (show (0 : Nat) < 9223372036854775808 by decide), (show (0 : Nat) < 9223372036854775808 by decide), (show (0 : Nat) < 9223372036854775808 by decide), fun _ h => (by cases h), fun _ h => (by cases h)⟩
theorem zTf : zT.Fine := ⟨(show (0 : Nat) < 1000000000 by decide), (show (0 : Nat) < 1000000000 by decide), fun _ h => (by cases h), fun _ h => (by cases h), fun _ h => (by cases h)⟩
theorem pc_awake29 : PCalls prog f_sautoirlaw29_awake [] (.b true) := by
  refine pcalls_of mixed t_sautoirlaw29_awake (by simp) fun T => ?_
  have cN := ac_cNew (T := T) (me := 2) (ma := 1) (S := 1) (L := 1) (v := 1) (by decide)
  simp only [stC] at cN
  unfold s_sautoirlaw29_awake
  simp -implicitDefEqProofs -dsimp only [go_sem, seval, ↓g_call _ _ c_client_New]
  refine CallK.of cN fun v T1 hv => ?_
  obtain ⟨id, r, l, rfl, h0, hF0⟩ := hv
  refine aft_nil ?_
  have hC := ac_Call h0 cA0_ok opA opA_fine (by rw [show callF (cl0 2 1 1 1) opA = _ from callA]; exact cA1_ok)
  rw [show callF (cl0 2 1 1 1) opA = ((cA1, [gA]), 0) from callA] at hC
  have hC2 := hC.wk (xs := [.ptr id 0, .agg [.i .i64 1, .s [97], .s [], .fz 0 [] (some 0), .fz 0 [] (some 0)]]) (Wks.cons (.refl _) (Wks.one (Wk.agg (m := opA.cells) ⟨.refl _, .refl _, .refl _, .fz, .fz, trivial⟩)))
  simp -implicitDefEqProofs -dsimp only [go_sem, seval, ↓g_call _ _ c_client_Client_Call]
  refine CallK.of hC2 fun v T2 hv => ?_
  obtain ⟨rfl, w, h1, hF1⟩ := hv
  refine aft_nil ?_
  simp only [List.flatMap_cons, List.flatMap_nil, List.append_nil, gA, zL, zT, Lt.kc, Lt.cells]
  simp -implicitDefEqProofs -dsimp only [go_sem, seval]
  have b1 := (Bs0.start hF0).step hF1 (by simp)
  simp only at h1
  have hH := ac_Hear h1 cA1_ok xA xA_small zTf (show (0 : Nat) < 1000000 by decide) (fun _ h => by cases h)
  rw [hearA] at hH
  have hH2 := hH.wk (xs := [.ptr id 0, .agg [.i .i64 2, .i .i64 0, .i .i64 3, .i .i64 2, .i .i64 21, .i .i64 0, .i .u64 0, .i .i64 0, .i .i64 0, .i .i64 0, .b false, .i .u64 0, .i .i64 0, .fz 0 [] (some 0), .fz 0 [] (some 0), .fz 0 [] (some 0), .i .i64 0, .i .u64 0, .b false, .fz 0 [] (some 0), .fz 0 [] (some 0), .i .i64 2, .i .u64 1, .s [118], .i .u64 4, .i .i64 0]]) (Wks.cons (.refl _) (Wks.one (Wk.agg (m := xA.cc) ⟨.refl _, .refl _, .refl _, .refl _, .refl _, .refl _, .refl _, .refl _, .refl _, .refl _, .refl _, .refl _, .refl _, .fz, .fz, .fz, .refl _, .refl _, .refl _, .fz, .fz, .refl _, .refl _, .refl _, .refl _, .refl _, trivial⟩)))
  simp -implicitDefEqProofs -dsimp only [go_sem, seval, ↓g_call _ _ c_client_Client_Hear]
  refine CallK.of hH2 fun v T3 hv => ?_
  obtain ⟨rfl, w2, x2, h2, hF2⟩ := hv
  refine aft_nil ?_
  have b2 := b1.step hF2 (by simp)
  simp only at h2
  have hG := ac_Hear h2 cA2_ok xA xA_small zTf (show (0 : Nat) < 1000000 by decide) (fun _ h => by cases h)
  rw [hearA2] at hG
  have hG2 := hG.wk (xs := [.ptr id 0, .agg [.i .i64 2, .i .i64 0, .i .i64 3, .i .i64 2, .i .i64 21, .i .i64 0, .i .u64 0, .i .i64 0, .i .i64 0, .i .i64 0, .b false, .i .u64 0, .i .i64 0, .fz 0 [] (some 0), .fz 0 [] (some 0), .fz 0 [] (some 0), .i .i64 0, .i .u64 0, .b false, .fz 0 [] (some 0), .fz 0 [] (some 0), .i .i64 2, .i .u64 1, .s [118], .i .u64 4, .i .i64 0]]) (Wks.cons (.refl _) (Wks.one (Wk.agg (m := xA.cc) ⟨.refl _, .refl _, .refl _, .refl _, .refl _, .refl _, .refl _, .refl _, .refl _, .refl _, .refl _, .refl _, .refl _, .fz, .fz, .fz, .refl _, .refl _, .refl _, .fz, .fz, .refl _, .refl _, .refl _, .refl _, .refl _, trivial⟩)))
  simp -implicitDefEqProofs -dsimp only [go_sem, seval, ↓g_call _ _ c_client_Client_Hear]
  refine CallK.of hG2 fun v T4 hv => ?_
  obtain ⟨rfl, w3, x3, h3, hF3⟩ := hv
  refine aft_nil ?_
  have b3 := b2.step hF3 (by simp)
  simp only at h3
  have hL := ac_Last h3
  rw [show lastR cA2 = .tup [.agg [.i .i64 2, .i .u64 1, .i .i64 0, .i .i64 0, .s [118], .i .u64 4], .b true] from rfl] at hL
  simp -implicitDefEqProofs -dsimp only [go_sem, seval, ↓g_call _ _ c_client_Client_Last]
  refine CallK.as hL (aft_nil ?_)
  simp -implicitDefEqProofs -dsimp only [go_sem, seval, aggEq, scalarEq, decide_true, ↓g_gdc, rcOk, true_and]
  exact finL_of T b3.le ⟨rfl, rfl⟩
end Go.Aw

namespace Go.Aw
open Go
open Go.Proofs.Try (prog)
set_option linter.all false
set_option maxHeartbeats 8000000
set_option maxRecDepth 8000

/-! What a client sends is right. -/
theorem eqL_refl' {α : Type} {e : α → α → Bool} (h : ∀ x, e x x = true) : ∀ xs : List α, eqL e xs xs = true
  | [] => rfl
  | x :: xs => by simp only [eqL, h, eqL_refl' h xs, Bool.and_self]
theorem txE_refl (t : Tx) : txE t t = true := by
  simp only [txE, decide_true, Bool.and_self, Bool.true_and]
  rw [eqL_refl' (fun x => by simp [rdE]), eqL_refl' (fun x => by simp [wtE])]; rfl
theorem ltE_refl (l : Lt Cf) : ltE l l = true := by
  simp only [ltE, decide_true, Bool.and_self, Bool.true_and]
  rw [txE_refl, eqL_refl' (fun x => by simp [vtE]), eqL_refl' (fun x => by
    simp only [cfE, decide_true, Bool.and_self, Bool.true_and]; rw [eqL_refl' (fun x => by simp [intE]), eqL_refl' (fun x => by simp [boolE])]; rfl), eqL_refl' (fun x => by
    simp only [enE, decide_true, Bool.and_self, Bool.true_and]; exact txE_refl _)]; rfl
theorem lr_of {l : Lt Cf} {ss : Bs} (hs : sgnR l.k = ss) (hk : kdOk l.k = true) (h1 : adOk l.fk l.fn = true) (h2 : adOk l.tk l.tn = true) (e : baF l l.bare0 ss = l) (hm : (ss.all fun s => maF l s.toNat) = true) : lrF l = true := by
  unfold lrF
  rw [hs, e, hk, h1, h2, ltE_refl, hm]
  rfl
theorem gt_right {me sq to : Int} {v : Bs} (h1 : adOk 3 me = true) (h2 : adOk 2 to = true) (h3 : idOk me sq = true) (h4 : v.length ≤ 64) : lrF { zL with fk := 3, fn := me, tk := 2, tn := to, k := 19, cl := me, sq := sq, v := v } = true := by
  refine lr_of (ss := [105, 116]) rfl rfl h1 h2 rfl ?_
  show (idOk me sq && (decide ((v.length : Int) ≤ 64) && true)) = true
  rw [h3, decide_eq_true (by omega)]
  rfl
theorem do_right {me to : Int} {t : Tx} (h1 : adOk 3 me = true) (h2 : adOk 2 to = true) (h3 : txOk t = true) : lrF { zL with fk := 3, fn := me, tk := 2, tn := to, k := 20, t := t } = true := by
  refine lr_of (ss := [120]) rfl rfl h1 h2 rfl ?_
  show (txOk t && true) = true
  rw [h3]
  rfl
theorem kn_right {me to : Int} (h1 : adOk 3 me = true) (h2 : adOk 1 to = true) : lrF { zL with fk := 3, fn := me, tk := 1, tn := to, k := 3 } = true :=
  lr_of (ss := []) rfl rfl h1 h2 rfl rfl
end Go.Aw

