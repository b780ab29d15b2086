import Derived.Test.YtmicojcojlgefaaGreatZ29C29J
namespace Go.Aw
open Go
open Go.Proofs.Tryz (prog)
set_option linter.all false
set_option maxHeartbeats 8000000
set_option maxRecDepth 8000
structure Bs0 (T Tn : Tab) (ids : List Nat) : Prop where
 f : ∀ j, T j ≠ .unused -> Tn j = T j
 u : ∀ j ∈ ids, T j = .unused
theorem Bs0.start {T T1 : Tab} {new : List Nat} (h : Fr [] new T T1) : Bs0 T T1 new := ⟨fun j hj => h.1 j hj (by simp), fun j hj => (h.2 j hj).resolve_left (by simp)⟩
theorem Bs0.step {T T1 T2 : Tab} {ids fp new : List Nat} (h : Bs0 T T1 ids) (hf : Fr fp new T1 T2) (hs : ∀ j ∈ fp, j ∈ ids) : Bs0 T T2 (new ++ ids) := by
 refine ⟨fun j hj => ?_, fun j hj => ?_⟩
 ·have h1 := h.f j hj
  rw [hf.1 j (by rw [h1]; exact hj) (fun e => hj (h.u j (hs j e))), h1]
 ·rcases List.mem_append.1 hj with hj | hj
  ·rcases hf.2 j hj with h1 | h1
   ·exact h.u j (hs j h1)
   ·by_cases hu : T j = .unused
    ·exact hu
    ·rw [h.f j hu] at h1; exact absurd h1 hu
  ·exact h.u j hj
theorem Bs0.le {T Tn : Tab} {ids : List Nat} (h : Bs0 T Tn ids) (j : Nat) : SlotLe (T j) (Tn j) := by
 by_cases hu : T j = .unused
 ·exact .inl hu
 ·exact .inr (.inl (h.f j hu).symm)
def opA : Cp := ⟨1, [97], [], [], []⟩
def cA0 : Cl := cl0 2 1 1 1
def cA1 : Cl := { cA0 with sq := 1, w := some (opA, 0) }
def gA : Lt Cf := { zL with fk := 3, fn := 2, tk := 2, tn := 0, k := 19, cl := 2, sq := 1, v := [97] }
def xA : Lt Cf := { zL with fk := 2, fn := 0, tk := 3, tn := 2, k := 21, cl := 2, sq := 1, v := [118], q := 4 }
def cA2 : Cl := { cA1 with w := none, la := some ⟨2, 1, 0, 0, [118], 4⟩ }
theorem zdz : sok 1 1 1 = true := by decide
theorem qxb : opA.Fine := ⟨(show (1 : Nat) < 9223372036854775808 by decide), (show (0 : Nat) < 9223372036854775808 by decide), ⟨(show (0 : Nat) < 1000000000 by decide), (show (0 : Nat) < 1000000000 by decide), fun _ h => (by cases h), fun _ h => (by cases h), fun _ h => (by cases h)⟩⟩
theorem zaj : cA0.Ok := ⟨by decide, by decide, by decide, qt2 (S := 1) (L := 1) (v := 1) zdz, fun _ h => by cases h⟩
theorem ze8 : qut opA = true := by decide +kernel
theorem z4x : cA1.Ok := ⟨by decide, by decide, by decide, qt2 (S := 1) (L := 1) (v := 1) zdz, fun o h => by
 injection h with h
 subst h
 exact ⟨⟨qxb, ze8, by decide⟩, by decide, by decide⟩⟩
theorem rdA : z78 (qt0 1 1) [97] 0 = 0 := by decide +kernel
theorem zak : qaj cA0 opA = ((cA1, [gA]), 0) := by
 unfold qaj
 rw [if_neg (by decide), if_neg (by rw [ze8]; decide), if_neg (by decide)]
 have e : qp8 { cA0 with sq := cA0.sq + 1 } opA 0 = [gA] := by
  unfold qp8 fsL
  rw [if_pos (show opA.k = 1 from rfl), if_neg (by decide)]
  unfold gtL
  show [{ zL with fk := 3, fn := 2, tk := 2, tn := z78 (qt0 1 1) [97] 0, k := 19, cl := 2, sq := 1, v := [97] }] = _
  rw [rdA]
  rfl
 rw [e]
 rfl
theorem qxc : lrF xA = true := by decide +kernel
theorem ze0 : qf4 cA1 xA = (cA2, true) := by
 unfold qf4
 rw [if_neg (by unfold z79; rw [qxc]; decide), if_neg (by decide), if_pos (by decide)]
 rfl
theorem zal : qf4 cA2 xA = (cA2, false) := by
 unfold qf4
 rw [if_neg (by unfold z79; rw [qxc]; decide), if_neg (by decide), if_neg (by decide)]
theorem zam : cA2.Ok := ⟨by decide, by decide, by decide, qt2 (S := 1) (L := 1) (v := 1) zdz, fun _ h => by cases h⟩
theorem qxd : xA.Small := ⟨(show (0 : Nat) < 9223372036854775808 by decide), (show (0 : Nat) < 9223372036854775808 by decide), (show (0 : Nat) < 9223372036854775808 by decide), (show (0 : Nat) < 9223372036854775808 by decide), (show (0 : Nat) < 9223372036854775808 by decide), fun _ h => (by cases h), fun _ h => (by cases h)⟩
theorem zTf : zT.Fine := ⟨(show (0 : Nat) < 1000000000 by decide), (show (0 : Nat) < 1000000000 by decide), fun _ h => (by cases h), fun _ h => (by cases h), fun _ h => (by cases h)⟩
theorem qyl : PCalls prog q2k [] (.b true) := by
 refine K5 Q7 qii (by simp) fun T => ?_
 have cN := z1l (T := T) (me := 2) (ma := 1) (S := 1) (L := 1) (v := 1) (by decide)
 simp only [stC] at cN
 unfold qba
 simp -implicitDefEqProofs -dsimp only [go_sem, seval, ↓J0 _ _ q6v]
 refine CallK.of cN fun v T1 hv => ?_
 obtain ⟨id, r, l, rfl, h0, hF0⟩ := hv
 refine J1 ?_
 have hC := z1o h0 zaj opA qxb (by rw [show qaj (cl0 2 1 1 1) opA = _ from zak]; exact z4x)
 rw [show qaj (cl0 2 1 1 1) opA = ((cA1, [gA]), 0) from zak] at hC
 have hC2 := hC.wk (xs := [.ptr id 0, .agg [.i .i64 1, .s [97], .s [], .fz 0 [] (some 0), .fz 0 [] (some 0)]]) (Wks.cons (.refl _) (Wks.one (Wk.agg (m := opA.cells) ⟨.refl _, .refl _, .refl _, .fz, .fz, trivial⟩)))
 simp -implicitDefEqProofs -dsimp only [go_sem, seval, ↓J0 _ _ qbe]
 refine CallK.of hC2 fun v T2 hv => ?_
 obtain ⟨rfl, w, h1, hF1⟩ := hv
 refine J1 ?_
 simp only [List.flatMap_cons, List.flatMap_nil, List.append_nil, gA, zL, zT, Lt.kc, Lt.cells]
 simp -implicitDefEqProofs -dsimp only [go_sem, seval]
 have b1 := (Bs0.start hF0).step hF1 (by simp)
 simp only at h1
 have hH := z1s h1 z4x xA qxd zTf (show (0 : Nat) < 1000000 by decide) (fun _ h => by cases h)
 rw [ze0] at hH
 have hH2 := hH.wk (xs := [.ptr id 0, .agg [.i .i64 2, .i .i64 0, .i .i64 3, .i .i64 2, .i .i64 21, .i .i64 0, .i .u64 0, .i .i64 0, .i .i64 0, .i .i64 0, .b false, .i .u64 0, .i .i64 0, .fz 0 [] (some 0), .fz 0 [] (some 0), .fz 0 [] (some 0), .i .i64 0, .i .u64 0, .b false, .fz 0 [] (some 0), .fz 0 [] (some 0), .i .i64 2, .i .u64 1, .s [118], .i .u64 4, .i .i64 0]]) (Wks.cons (.refl _) (Wks.one (Wk.agg (m := xA.cc) ⟨.refl _, .refl _, .refl _, .refl _, .refl _, .refl _, .refl _, .refl _, .refl _, .refl _, .refl _, .refl _, .refl _, .fz, .fz, .fz, .refl _, .refl _, .refl _, .fz, .fz, .refl _, .refl _, .refl _, .refl _, .refl _, trivial⟩)))
 simp -implicitDefEqProofs -dsimp only [go_sem, seval, ↓J0 _ _ q4d]
 refine CallK.of hH2 fun v T3 hv => ?_
 obtain ⟨rfl, w2, x2, h2, hF2⟩ := hv
 refine J1 ?_
 have b2 := b1.step hF2 (by simp)
 simp only at h2
 have hG := z1s h2 zam xA qxd zTf (show (0 : Nat) < 1000000 by decide) (fun _ h => by cases h)
 rw [zal] at hG
 have hG2 := hG.wk (xs := [.ptr id 0, .agg [.i .i64 2, .i .i64 0, .i .i64 3, .i .i64 2, .i .i64 21, .i .i64 0, .i .u64 0, .i .i64 0, .i .i64 0, .i .i64 0, .b false, .i .u64 0, .i .i64 0, .fz 0 [] (some 0), .fz 0 [] (some 0), .fz 0 [] (some 0), .i .i64 0, .i .u64 0, .b false, .fz 0 [] (some 0), .fz 0 [] (some 0), .i .i64 2, .i .u64 1, .s [118], .i .u64 4, .i .i64 0]]) (Wks.cons (.refl _) (Wks.one (Wk.agg (m := xA.cc) ⟨.refl _, .refl _, .refl _, .refl _, .refl _, .refl _, .refl _, .refl _, .refl _, .refl _, .refl _, .refl _, .refl _, .fz, .fz, .fz, .refl _, .refl _, .refl _, .fz, .fz, .refl _, .refl _, .refl _, .refl _, .refl _, trivial⟩)))
 simp -implicitDefEqProofs -dsimp only [go_sem, seval, ↓J0 _ _ q4d]
 refine CallK.of hG2 fun v T4 hv => ?_
 obtain ⟨rfl, w3, x3, h3, hF3⟩ := hv
 refine J1 ?_
 have b3 := b2.step hF3 (by simp)
 simp only at h3
 have hL := z1q h3
 rw [show z1p cA2 = .tup [.agg [.i .i64 2, .i .u64 1, .i .i64 0, .i .i64 0, .s [118], .i .u64 4], .b true] from rfl] at hL
 simp -implicitDefEqProofs -dsimp only [go_sem, seval, ↓J0 _ _ qbc]
 refine can hL ?_
 simp -implicitDefEqProofs -dsimp only [go_sem, seval, U2, K6, decide_true, ↓N1, U6, true_and]
 exact V1 T b3.le ⟨rfl, rfl⟩
end Go.Aw
namespace Go.Aw
open Go
open Go.Proofs.Tryz (prog)
set_option linter.all false
set_option maxHeartbeats 8000000
set_option maxRecDepth 8000
theorem z6t {l : Lt Cf} {ss : Bs} (hs : qa8 l.k = ss) (hk : qf1 l.k = true) (h1 : qqi l.fk l.fn = true) (h2 : qqi l.tk l.tn = true) (e : baF l l.bare0 ss = l) (hm : (ss.all fun s => maF l s.toNat) = true) : lrF l = true := by
 unfold lrF
 rw [hs, e, hk, h1, h2, z3u, hm]
 rfl
theorem z40 {me sq to : Int} {v : Bs} (h1 : qqi 3 me = true) (h2 : qqi 2 to = true) (h3 : qp6 me sq = true) (h4 : v.length <= 64) : lrF { zL with fk := 3, fn := me, tk := 2, tn := to, k := 19, cl := me, sq := sq, v := v } = true := by
 refine z6t (ss := [105, 116]) rfl rfl h1 h2 rfl ?_
 show (qp6 me sq && (decide ((v.length : Int) <= 64) && true)) = true
 rw [h3, decide_eq_true (by omega)]
 rfl
theorem z41 {me to : Int} {t : Tx} (h1 : qqi 3 me = true) (h2 : qqi 2 to = true) (h3 : qgd t = true) : lrF { zL with fk := 3, fn := me, tk := 2, tn := to, k := 20, t := t } = true := by
 refine z6t (ss := [120]) rfl rfl h1 h2 rfl ?_
 show (qgd t && true) = true
 rw [h3]
 rfl
theorem z42 {me to : Int} (h1 : qqi 3 me = true) (h2 : qqi 1 to = true) : lrF { zL with fk := 3, fn := me, tk := 1, tn := to, k := 3 } = true :=
 z6t (ss := []) rfl rfl h1 h2 rfl rfl
end Go.Aw
namespace Go.Aw
open Go
open Go.Proofs.Tryz (prog)
set_option linter.all false
set_option maxHeartbeats 8000000
set_option maxRecDepth 8000
end Go.Aw
