import Derived.Test.YtoeaikcebjideaaDoorE03F04H
import Derived.Test.YtoeaikcebjideaaDoorE03I
import Derived.Test.YtoeaikcebjideaaDoorE03S
import Derived.Test.YtoeaikcebjideaaDoorAwD
namespace Go.Aw
open Go
open Go.Proofs.Tryd (prog)
open Go.Proofs
set_option linter.all false
set_option maxHeartbeats 4000000

/-! strings.Join, of strings that one owns. -/
def strs (l : List (List UInt8)) : List AV := l.map .s
theorem strs_len (l : List (List UInt8)) : (strs l).length = l.length := by simp [strs]
theorem strs_append (l m : List (List UInt8)) : strs l ++ strs m = strs (l ++ m) := by simp [strs]
theorem vrs_strs {X : Cx} {w : World} : ∀ {l : List (List UInt8)} {us : List Value}, vrs X w (strs l) us → us = l.map fun b => Value.string ⟨b.toArray⟩
  | [], us, h => by simpa [strs, vrs] using h
  | b :: l, us, h => by
    simp only [strs, List.map_cons, vrs] at h
    obtain ⟨u, us', rfl, h1, h2⟩ := h
    simp only [vr] at h1
    subst h1
    rw [vrs_strs (l := l) h2]; rfl
theorem grown_of_below {w w' : World} (h : RowKit.Below w.heap.size w w') : w.grownBy w' none :=
  ⟨h.os, h.tape, h.output, h.size, fun k hk _ => h.block k hk⟩
theorem ac_Join {T : Tab} {id : Nat} {l : List (List UInt8)} {sep : List UInt8} (hT : T id = .row 1 (strs l)) (hN : l.length ≤ 1000000) (hlen : (Lib.join l sep).length ≤ 1000000) :
    ACalls prog f_strings_Join [.sl id 0 l.length none, .s sep] T (fun v T' => v = .s (Lib.join l sep) ∧ T' = T) := by
  intro X lam w cargs hr hv
  simp only [vrs] at hv
  obtain ⟨v1, us1, rfl, h1, v2, us2, rfl, h2, rfl⟩ := hv
  simp only [vr] at h1 h2
  obtain ⟨hid, c, rfl, hc, _, _, _⟩ := h1
  subst h2
  obtain ⟨cur, ee, us, g1, g2, g3, g4, g5, g6, g7⟩ := hr.row id 1 _ hT
  have hus := vrs_strs g2
  have hb : (X.β id).blk < w.heap.size := hr.live_lt ⟨id, by rw [hT]; simp, rfl⟩
  have hmap : (l.map fun b => (⟨b.toArray⟩ : ByteArray)).map (·.data.toList) = l := by
    rw [List.map_map]
    conv => rhs; rw [← List.map_id l]
    apply List.map_congr_left
    intro b _
    simp
  have key := Tryd.strings_Join (X.β id).blk ((X.β id).base + 0) c (l.map fun b => ⟨b.toArray⟩) ⟨sep.toArray⟩ w (fun j x hx => by
      rw [List.getElem?_map] at hx
      cases hlj : l[j]? with
      | none => rw [hlj] at hx; cases hx
      | some b =>
        rw [hlj] at hx
        injection hx with hx
        subst hx
        have hu : us[j]? = some (.string ⟨b.toArray⟩) := by rw [hus, List.getElem?_map, hlj]; rfl
        have := g4 j _ hu
        simp [World.cell?, g1, this]) hb (by rw [List.length_map]; omega) (by rw [List.length_map]; exact hc) (by
      rw [hmap]
      simpa using Nat.le_trans hlen (by decide))
  rw [List.length_map, hmap] at key
  refine key.mono ?_
  rintro ev w' ⟨rfl, hbel⟩
  have h0 : SR X T w X lam [] [] T { tmps := #[], defers := [] } w := ⟨hr, .refl X T w, fun l c hc => by simp [aget] at hc, fun s x hs => by simp [aget] at hs, rfl⟩
  have h1 := h0.grow (grown_of_below hbel)
  exact ⟨_, .s (Lib.join l sep), T, X, lam, rfl, ⟨rfl, rfl⟩, by simp [vr], h1.rel, h1.step⟩
theorem ac_Join0 {T : Tab} {sep : List UInt8} : ACalls prog f_strings_Join [.fz 0 [] (some 0), .s sep] T (fun v T' => v = .s [] ∧ T' = T) := by
  intro X lam w cargs hr hv
  simp only [vrs] at hv
  obtain ⟨v1, us1, rfl, h1, v2, us2, rfl, h2, rfl⟩ := hv
  simp only [vr] at h1 h2
  subst h2
  obtain ⟨us, _, hf⟩ := h1
  obtain ⟨a, c, rfl⟩ : ∃ a c, v1 = .slice a 0 c := by
    rcases hf with ⟨rfl, _⟩ | ⟨a, c, rfl, _⟩
    · exact ⟨_, _, rfl⟩
    · exact ⟨_, _, rfl⟩
  refine (Tryd.strings_Join_none a c ⟨sep.toArray⟩ w).mono ?_
  rintro ev w' ⟨rfl, rfl⟩
  exact ⟨_, .s [], T, X, lam, rfl, ⟨rfl, rfl⟩, by simp [vr], hr, .refl X T w'⟩

/-! An error's path. -/
def Er.ps : Er → List (List UInt8)
  | .num _ => []
  | .flt w e => w :: e.ps
def pathL (l : List (List UInt8)) : List UInt8 := Lib.join l [62]
def erPath : Option Er → List UInt8
  | none => []
  | some e => pathL e.ps
theorem lp_Path {R : RPost} (hR : ExtR R) {T : Tab} {id : Nat} (hid : T id = .unused) : ∀ (e : Er) (old : AV) (l : List (List UInt8)) (v : AV) (T1 : Tab), l.length + e.ps.length ≤ 1000 → Own (T.put id (.row 1 [old])) 1 v l.length (strs l) T1 → old.isOne = true → old.plain = true →
    (∀ old v T1, Own (T.put id (.row 1 [old])) 1 v (l ++ e.ps).length (strs (l ++ e.ps)) T1 → R (.exit 0) [(3, .ptr id 0), (4, v), (11, .b false)] [] T1) →
    AW prog fault_Path_l0 R [(0, e.av), (3, .ptr id 0), (4, v)] [] T1 := by
  intro e
  induction e with
  | num n =>
    intro old l v T1 hn ho h1 hpl h2
    have hT1 : T1 id = .row 1 [old] := by rw [ho.at (by rw [Tab.put_same]; simp), Tab.put_same]
    have cA := ac_AsFN (T := T1) (n := n) hT1
    simp only [errno, tErrno, tPFault] at cA
    obtain ⟨p1, p2, p3, p4, p5, p6⟩ := ho.form
    simp only [Er.ps, List.append_nil] at h2
    refine AW_loopD (l := fault_Path_l0) rfl hR ?_
    unfold fault_Path_l0b
    simp -implicitDefEqProofs -dsimp only [go_sem, Nat.reduceEqDiff, Nat.reduceAdd, Nat.reduceMul, Nat.reduceSub, Nat.reduceLT, Nat.reduceLeDiff, Nat.reduceBEq, reduceIte, reduceCtorEq, Int.reduceLT, Int.reduceLE, Int.reduceEq, Int.reduceNeg, Int.reduceToNat, Int.reduceAdd, Int.reduceSub, Er.av, errno, tErrno, p1, p2, p3, p4, p5, p6, ↓g_call _ _ c_errors_As]
    refine CallK.as cA (aft_nil ?_)
    simp -implicitDefEqProofs -dsimp only [go_sem, Nat.reduceEqDiff, Nat.reduceAdd, Nat.reduceMul, Nat.reduceSub, Nat.reduceLT, Nat.reduceLeDiff, Nat.reduceBEq, reduceIte, reduceCtorEq, Int.reduceLT, Int.reduceLE, Int.reduceEq, Int.reduceNeg, Int.reduceToNat, Int.reduceAdd, Int.reduceSub, p1, p2, p3, p4, p5, p6]
    exact h2 old v T1 ho
  | flt wh e ih =>
    intro old l v T1 hn ho h1 hpl h2
    have hT1 : T1 id = .row 1 [old] := by rw [ho.at (by rw [Tab.put_same]; simp), Tab.put_same]
    have cA := ac_AsF (T := T1) (wh := wh) (x := e.av) hT1
    simp only [fault, tFault, tPFault] at cA
    obtain ⟨p1, p2, p3, p4, p5, p6⟩ := ho.form
    simp only [Er.ps, List.length_cons] at hn h2
    obtain ⟨te, ve, hev⟩ := e.ifc
    have ho2 : Own (T.put id (.row 1 [.fptr [.s wh, e.av]])) 1 v l.length (strs l) (T1.put id (.row 1 [.fptr [.s wh, e.av]])) := by
      have hB : (T.put id (.row 1 [old])) id ≠ .unused := by rw [Tab.put_same]; simp
      obtain ⟨T0, q1, q2⟩ := Owns.base_put (s := .row 1 [.fptr [.s wh, e.av]]) hB (Owns.one ho)
      have e1 : T0 = T.put id (.row 1 [.fptr [.s wh, e.av]]) := by
        rw [show T0 = (T.put id (.row 1 [old])).put id (.row 1 [.fptr [.s wh, e.av]]) from q1]; exact Tab.put_put ..
      rw [e1] at q2
      exact q2
    have w1 : (T1.put id (.row 1 [.fptr [.s wh, e.av]])) id = .row 1 [.fptr [.s wh, e.av]] := Tab.put_same ..
    rw [hev] at w1 cA ho2
    refine AW_loopD (l := fault_Path_l0) rfl hR ?_
    unfold fault_Path_l0b
    simp -implicitDefEqProofs -dsimp only [go_sem, Nat.reduceEqDiff, Nat.reduceAdd, Nat.reduceMul, Nat.reduceSub, Nat.reduceLT, Nat.reduceLeDiff, Nat.reduceBEq, reduceIte, reduceCtorEq, Int.reduceLT, Int.reduceLE, Int.reduceEq, Int.reduceNeg, Int.reduceToNat, Int.reduceAdd, Int.reduceSub, Er.av, fault, tFault, hev, p1, p2, p3, p4, p5, p6, ↓g_call _ _ c_errors_As]
    refine CallK.as cA (aft_nil ?_)
    simp -implicitDefEqProofs -dsimp only [go_sem, Nat.reduceEqDiff, Nat.reduceAdd, Nat.reduceMul, Nat.reduceSub, Nat.reduceLT, Nat.reduceLeDiff, Nat.reduceBEq, reduceIte, reduceCtorEq, Int.reduceLT, Int.reduceLE, Int.reduceEq, Int.reduceNeg, Int.reduceToNat, Int.reduceAdd, Int.reduceSub, w1, p1, p2, p3, p4, p5, p6, Bool.not_false]
    refine ho2.app (m := 1) (news := strs [wh]) (by simp [slCells, strs]) rfl (by omega) (by omega) fun v' T2 ho3 => aft_nil ?_
    obtain ⟨p1, p2, p3, p4, p5, p6⟩ := ho3.form
    have w2 : T2 id = .row 1 [.fptr [.s wh, .ifc te ve]] := by rw [ho3.at (by rw [Tab.put_same]; simp), Tab.put_same]
    simp -implicitDefEqProofs -dsimp only [go_sem, Nat.reduceEqDiff, Nat.reduceAdd, Nat.reduceMul, Nat.reduceSub, Nat.reduceLT, Nat.reduceLeDiff, Nat.reduceBEq, reduceIte, reduceCtorEq, Int.reduceLT, Int.reduceLE, Int.reduceEq, Int.reduceNeg, Int.reduceToNat, Int.reduceAdd, Int.reduceSub, w2, p1, p2, p3, p4, p5, p6]
    refine stS_row w2 rfl rfl (by simp) (aft_nil ?_)
    rw [strs_append] at ho3
    have ho4 : Own (T.put id (.row 1 [.nilptr])) 1 v' (l ++ [wh]).length (strs (l ++ [wh])) (T2.put id (.row 1 [.nilptr])) := by
      have hB : (T.put id (.row 1 [.fptr [.s wh, .ifc te ve]])) id ≠ .unused := by rw [Tab.put_same]; simp
      obtain ⟨T0, q1, q2⟩ := Owns.base_put (s := .row 1 [.nilptr]) hB (Owns.one ho3)
      have e1 : T0 = T.put id (.row 1 [.nilptr]) := by
        rw [show T0 = (T.put id (.row 1 [.fptr [.s wh, .ifc te ve]])).put id (.row 1 [.nilptr]) from q1]; exact Tab.put_put ..
      rw [e1] at q2
      rw [List.length_append]
      exact q2
    simp -implicitDefEqProofs -dsimp only [go_sem, Nat.reduceEqDiff, Nat.reduceAdd, Nat.reduceMul, Nat.reduceSub, Nat.reduceLT, Nat.reduceLeDiff, Nat.reduceBEq, reduceIte, reduceCtorEq, Int.reduceLT, Int.reduceLE, Int.reduceEq, Int.reduceNeg, Int.reduceToNat, Int.reduceAdd, Int.reduceSub, p1, p2, p3, p4, p5, p6]
    rw [← hev]
    refine ih .nilptr (l ++ [wh]) v' _ (by simp; omega) ho4 rfl rfl (fun old v T1 h => ?_)
    rw [List.append_assoc] at h
    exact h2 old v T1 h
theorem pc_Path (e : Option Er) (h1 : ∀ x, e = some x → x.ps.length ≤ 1000 ∧ (pathL x.ps).length ≤ 1000000) : PCalls prog f_fault_Path [erAv e] (.s (erPath e)) := by
  refine pcalls_of mixed t_fault_Path (by simp) fun T => ?_
  unfold s_fault_Path
  cases e with
  | none =>
    simp -implicitDefEqProofs -dsimp only [go_sem, Nat.reduceEqDiff, Nat.reduceAdd, Nat.reduceMul, Nat.reduceSub, Nat.reduceLT, Nat.reduceLeDiff, Nat.reduceBEq, reduceIte, reduceCtorEq, Int.reduceLT, Int.reduceLE, Int.reduceEq, Int.reduceNeg, Int.reduceToNat, Int.reduceAdd, Int.reduceSub, erAv, erPath]
    intro id hid
    refine aft_nil ?_
    simp -implicitDefEqProofs -dsimp only [go_sem, Nat.reduceEqDiff, Nat.reduceAdd, Nat.reduceMul, Nat.reduceSub, Nat.reduceLT, Nat.reduceLeDiff, Nat.reduceBEq, reduceIte, reduceCtorEq, Int.reduceLT, Int.reduceLE, Int.reduceEq, Int.reduceNeg, Int.reduceToNat, Int.reduceAdd, Int.reduceSub]
    refine AW_loopD (l := fault_Path_l0) rfl (by repeat' (first | exact finX_ext _ _ | assumption | apply blkR_ext | apply thenR_ext | apply AW_ext)) ?_
    unfold fault_Path_l0b
    simp -implicitDefEqProofs -dsimp only [go_sem, Nat.reduceEqDiff, Nat.reduceAdd, Nat.reduceMul, Nat.reduceSub, Nat.reduceLT, Nat.reduceLeDiff, Nat.reduceBEq, reduceIte, reduceCtorEq, Int.reduceLT, Int.reduceLE, Int.reduceEq, Int.reduceNeg, Int.reduceToNat, Int.reduceAdd, Int.reduceSub, ↓g_call _ _ c_errors_As]
    refine CallK.as ac_AsNil (aft_nil ?_)
    simp -implicitDefEqProofs -dsimp only [go_sem, Nat.reduceEqDiff, Nat.reduceAdd, Nat.reduceMul, Nat.reduceSub, Nat.reduceLT, Nat.reduceLeDiff, Nat.reduceBEq, reduceIte, reduceCtorEq, Int.reduceLT, Int.reduceLE, Int.reduceEq, Int.reduceNeg, Int.reduceToNat, Int.reduceAdd, Int.reduceSub, ↓g_call _ _ c_strings_Join]
    refine CallK.as ac_Join0 (aft_nil ?_)
    simp -implicitDefEqProofs -dsimp only [go_sem, Nat.reduceEqDiff, Nat.reduceAdd, Nat.reduceMul, Nat.reduceSub, Nat.reduceLT, Nat.reduceLeDiff, Nat.reduceBEq, reduceIte, reduceCtorEq, Int.reduceLT, Int.reduceLE, Int.reduceEq, Int.reduceNeg, Int.reduceToNat, Int.reduceAdd, Int.reduceSub]
    exact ((TabLe.refl T).put hid).fin
  | some e =>
    obtain ⟨k1, k2⟩ := h1 e rfl
    obtain ⟨te, ve, hev⟩ := e.ifc
    have lp := fun (R : RPost) (hR : ExtR R) (T : Tab) (id : Nat) (hid : T id = .unused) h => lp_Path (R := R) hR (T := T) (id := id) hid e .nilptr [] (.fz 0 [] (some 0)) _ (by simpa using k1) (Own.nil _ 1) rfl rfl h
    simp only [erAv, erPath, hev, List.nil_append] at lp ⊢
    simp -implicitDefEqProofs -dsimp only [go_sem, Nat.reduceEqDiff, Nat.reduceAdd, Nat.reduceMul, Nat.reduceSub, Nat.reduceLT, Nat.reduceLeDiff, Nat.reduceBEq, reduceIte, reduceCtorEq, Int.reduceLT, Int.reduceLE, Int.reduceEq, Int.reduceNeg, Int.reduceToNat, Int.reduceAdd, Int.reduceSub]
    intro id hid
    refine aft_nil ?_
    simp -implicitDefEqProofs -dsimp only [go_sem, Nat.reduceEqDiff, Nat.reduceAdd, Nat.reduceMul, Nat.reduceSub, Nat.reduceLT, Nat.reduceLeDiff, Nat.reduceBEq, reduceIte, reduceCtorEq, Int.reduceLT, Int.reduceLE, Int.reduceEq, Int.reduceNeg, Int.reduceToNat, Int.reduceAdd, Int.reduceSub]
    refine lp _ (by repeat' (first | exact finX_ext _ _ | assumption | apply blkR_ext | apply thenR_ext | apply AW_ext)) T id hid (fun old v T1 ho => ?_)
    obtain ⟨p1, p2, p3, p4, p5, p6⟩ := ho.form
    have hle := (((TabLe.refl T).put hid).trans ho.tabLe)
    simp -implicitDefEqProofs -dsimp only [go_sem, Nat.reduceEqDiff, Nat.reduceAdd, Nat.reduceMul, Nat.reduceSub, Nat.reduceLT, Nat.reduceLeDiff, Nat.reduceBEq, reduceIte, reduceCtorEq, Int.reduceLT, Int.reduceLE, Int.reduceEq, Int.reduceNeg, Int.reduceToNat, Int.reduceAdd, Int.reduceSub, p1, p2, p3, p4, p5, p6, ↓g_call _ _ c_strings_Join]
    rcases ho.2 with ⟨q1, q2, q3⟩ | ⟨j, q1, q2, q3⟩
    · have e0 : e.ps = [] := List.length_eq_zero_iff.1 q2
      rw [q1]
      refine CallK.as ac_Join0 (aft_nil ?_)
      simp -implicitDefEqProofs -dsimp only [go_sem, Nat.reduceEqDiff, Nat.reduceAdd, Nat.reduceMul, Nat.reduceSub, Nat.reduceLT, Nat.reduceLeDiff, Nat.reduceBEq, reduceIte, reduceCtorEq, Int.reduceLT, Int.reduceLE, Int.reduceEq, Int.reduceNeg, Int.reduceToNat, Int.reduceAdd, Int.reduceSub]
      rw [e0]
      exact hle.fin
    · rw [q1]
      refine CallK.as (ac_Join (l := e.ps) (sep := [62]) (by rw [q3, Tab.put_same]) (by omega) k2) (aft_nil ?_)
      simp -implicitDefEqProofs -dsimp only [go_sem, Nat.reduceEqDiff, Nat.reduceAdd, Nat.reduceMul, Nat.reduceSub, Nat.reduceLT, Nat.reduceLeDiff, Nat.reduceBEq, reduceIte, reduceCtorEq, Int.reduceLT, Int.reduceLE, Int.reduceEq, Int.reduceNeg, Int.reduceToNat, Int.reduceAdd, Int.reduceSub]
      exact hle.fin
end Go.Aw
