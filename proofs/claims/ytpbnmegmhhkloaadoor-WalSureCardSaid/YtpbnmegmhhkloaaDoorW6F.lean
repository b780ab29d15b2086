import Derived.Test.YtpbnmegmhhkloaaDoorW6E
namespace Go.Aw
open Go
open Go.Proofs.Tryd (prog)
set_option linter.all false
set_option maxHeartbeats 8000000
set_option maxRecDepth 8000
def qsx (did : Nat) (w : Wl) : Slot := .row 4 [.ptr did 0, .i .i64 w.k, .i .u64 w.g, .b w.dead]
def tL (T : Tab) (did lid : Nat) (d : Dk) (w : Wl) : Tab := (T.put did (.row 8 d.cells)).put lid (qsx did w)
section
variable {T : Tab} {did lid : Nat} (hne : did ≠ lid) (d d' : Dk) (w w' : Wl)
include hne
theorem qf0 : At (tL T did lid d w) did d := by unfold At tL; rw [Tab.put_ne _ _ hne]; exact Tab.put_same ..
omit hne in
theorem qaj : (tL T did lid d w) lid = .row 4 [.ptr did 0, .i .i64 w.k, .i .u64 w.g, .b w.dead] := Tab.put_same ..
theorem qak : (tL T did lid d w).put did (.row 8 d'.cells) = tL T did lid d' w := by
 unfold tL; rw [Tab.put_comm _ (Ne.symm hne), Tab.put_put]
omit hne in
theorem qmp : (tL T did lid d w).put lid (.row 4 [.ptr did 0, .i .i64 w'.k, .i .u64 w'.g, .b w'.dead]) = tL T did lid d w' := by
 unfold tL qsx; rw [Tab.put_put]
theorem qp0 (h1 : At T did d) (h2 : T lid = qsx did w) : tL T did lid d w = T := by
 unfold tL; rw [Tab.put_self h1, Tab.put_self h2]
end
theorem q3f {T : Tab} {did lid : Nat} {d : Dk} {w : Wl} (e : Int) : ACalls prog N7 [.ptr lid 0, .i .i64 e] (tL T did lid d w) (fun v T' => v = .i .i64 e /\ T' = tL T did lid d (q09 e w)) := by
 refine K1 O5 qae (by simp) ?_
 have hT := qaj (T := T) (did := did) (lid := lid) d w
 unfold q5b q09
 by_cases h : e = 12
 ·have dd : decide (e = 12) = true := decide_eq_true h
  rw [if_pos h]
  simp -implicitDefEqProofs -dsimp only [go_sem, seval, dd, hT]
  refine O6 hT rfl rfl (by simp) (J7 ?_)
  simp -implicitDefEqProofs -dsimp only [go_sem, seval]
  exact K6 (.refl _) (qmp d w { w with dead := true })
 ·have dd : decide (e = 12) = false := decide_eq_false h
  rw [if_neg h]
  simp -implicitDefEqProofs -dsimp only [go_sem, seval, dd, hT]
  exact K6 (.refl _) rfl
structure Dw (d : Dk) : Prop where
 ok : d.Ok
 left : d.left <= 9223372036854775807
theorem qkk {d : Dk} {k : Int} (hk : Kk k) : (d.read k = (.fz 0 [] (some 0), 12) /\ q0a d k = (12, d)) \/ (d.read k = (bts (d.get k).b none, 0) /\ (d.get k).b = [] /\ q0a d k = (0, d)) \/ (d.read k = (bts (d.get k).b none, 0) /\ ¬ (d.get k).b = [] /\ q0a d k = d.cut k 0) := by
 unfold Dk.read q0a
 rw [if_neg hk.v]
 by_cases hl : d.lost = true
 ·rw [if_pos hl, if_pos hl]; exact .inl ⟨rfl, rfl⟩
 ·rw [if_neg hl, if_neg hl]
  by_cases hb : (d.get k).b = []
  ·rw [if_pos hb]; exact .inr (.inl ⟨rfl, hb, rfl⟩)
  ·rw [if_neg hb]; exact .inr (.inr ⟨rfl, hb, rfl⟩)
theorem q74 {T : Tab} {did lid : Nat} (hne : did ≠ lid) {d : Dk} {w : Wl} (hd : Dw d) {k : Int} (hk : Kk k) : ACalls prog V0 [.ptr lid 0, .i .i64 k] (tL T did lid d w) (fun v T' => v = .i .i64 (q0a d k).1 /\ T' = tL T did lid (q0a d k).2 (q09 (q0a d k).1 w)) := by
 refine K1 O5 q9j (by simp) ?_
 have hT := qaj (T := T) (did := did) (lid := lid) d w
 have hA := qf0 (T := T) hne d w
 have hR := qke hd.ok hA k
 unfold q47
 rcases qkk (d := d) hk with ⟨h1, h2⟩ | ⟨h1, hb, h2⟩ | ⟨h1, hb, h2⟩ <;> rw [h2] <;> rw [h1] at hR
 ·have hn := q3f (T := T) (did := did) (lid := lid) (d := d) (w := w) 12
  simp -implicitDefEqProofs -dsimp only [go_sem, seval, hT, ↓J2 _ _ Q9]
  refine can hR ?_
  simp -implicitDefEqProofs -dsimp only [go_sem, seval, decide_false, Bool.not_false, ↓J2 _ _ Q2]
  refine can hn ?_
  simp -implicitDefEqProofs -dsimp only [go_sem, seval]
  exact K6 (.refl _) rfl
 ·have hn := q3f (T := T) (did := did) (lid := lid) (d := d) (w := w) 0
  rw [hb] at hR
  simp -implicitDefEqProofs -dsimp only [go_sem, seval, hT, ↓J2 _ _ Q9]
  refine can hR ?_
  simp -implicitDefEqProofs -dsimp only [go_sem, seval, bts, List.length_nil, decide_true, ↓J2 _ _ Q2]
  refine can hn ?_
  simp -implicitDefEqProofs -dsimp only [go_sem, seval]
  exact K6 (.refl _) rfl
 ·have hC := qn7 hd.ok hd.left hA k 0
  rw [qak hne] at hC
  have hn := q3f (T := T) (did := did) (lid := lid) (d := (d.cut k 0).2) (w := w) (d.cut k 0).1
  have dn : decide (((d.get k).b.length : Int) = 0) = false := decide_eq_false fun h => hb (List.length_eq_zero_iff.1 (by omega))
  generalize (d.get k).b = B at *
  simp -implicitDefEqProofs -dsimp only [go_sem, seval, hT, ↓J2 _ _ Q9]
  refine can hR ?_
  simp -implicitDefEqProofs -dsimp only [go_sem, seval, bts, dn, decide_true, Bool.not_true, hT, ↓J2 _ _ q4a]
  refine can hC ?_
  simp -implicitDefEqProofs -dsimp only [go_sem, seval, ↓J2 _ _ Q2]
  refine can hn ?_
  simp -implicitDefEqProofs -dsimp only [go_sem, seval]
  exact K6 (.refl _) rfl
theorem qn8 {T : Tab} {did lid : Nat} (hne : did ≠ lid) {d : Dk} {w : Wl} (hd : Dw d) (k : Int) (b : Bs) (c : Option Nat) (hb : b.length < 9223372036854775808) (hd2 : Dw (d.append k b).2) :
  ACalls prog q0p [.ptr lid 0, .i .i64 k, bts b c] (tL T did lid d w) (fun v T' => v = .i .i64 (q9v d k b).1 /\ T' = tL T did lid (q9v d k b).2 (q09 (q9v d k b).1 w)) := by
 refine K1 O5 qca (by simp) ?_
 have hT := qaj (T := T) (did := did) (lid := lid) d w
 have hA := qf0 (T := T) hne d w
 have hP := qdm hd.ok hd.left hA k b c hb
 rw [qak hne] at hP
 simp only [bts] at hP
 unfold q6t q9v
 by_cases h : (d.append k b).1 = 0
 ·have dz : decide ((d.append k b).1 = 0) = true := decide_eq_true h
  rw [if_pos h]
  have hT2 := qaj (T := T) (did := did) (lid := lid) (d.append k b).2 w
  have hA2 := qf0 (T := T) hne (d.append k b).2 w
  have hS := qey hd2.ok hd2.left hA2 k
  rw [qak hne] at hS
  have hn := q3f (T := T) (did := did) (lid := lid) (d := ((d.append k b).2.sync k).2) (w := w) ((d.append k b).2.sync k).1
  simp -implicitDefEqProofs -dsimp only [go_sem, seval, hT, bts, ↓J2 _ _ q0q]
  refine can hP ?_
  simp -implicitDefEqProofs -dsimp only [go_sem, seval, dz, Bool.not_true, hT2, ↓J2 _ _ q1b]
  refine can hS ?_
  simp -implicitDefEqProofs -dsimp only [go_sem, seval, ↓J2 _ _ Q2]
  refine can hn ?_
  simp -implicitDefEqProofs -dsimp only [go_sem, seval]
  exact K6 (.refl _) rfl
 ·have dz : decide ((d.append k b).1 = 0) = false := decide_eq_false h
  rw [if_neg h]
  have hn := q3f (T := T) (did := did) (lid := lid) (d := (d.append k b).2) (w := w) (d.append k b).1
  simp -implicitDefEqProofs -dsimp only [go_sem, seval, hT, bts, ↓J2 _ _ q0q]
  refine can hP ?_
  simp -implicitDefEqProofs -dsimp only [go_sem, seval, dz, Bool.not_false, ↓J2 _ _ Q2]
  refine can hn ?_
  simp -implicitDefEqProofs -dsimp only [go_sem, seval]
  exact K6 (.refl _) rfl
theorem qkl (g n : Nat) (hg : g < 18446744073709551616) (hn : n < 1000000000) : PCalls prog q2k [.i .u64 g, .i .i64 n] (bts (N4 g n) none) := by
 refine K7 O5 qgt (by simp) fun T => ?_
 have c1 := qk2 [71] (some 1) g (by decide) hg
 have hl := q6h hg
 have c2 := qk2 ([71] ++ enc g) none n (by simp only [List.length_append, List.length_singleton]; omega) (by omega)
 have e : ([71] ++ enc g) ++ enc n = N4 g n := by unfold N4; simp
 rw [e] at c2
 have w1 : IntKind.u64.wrap (n : Int) = (n : Int) := IntWalk.u64_in _ (by omega)
 generalize N4 g n = H at *
 generalize [71] ++ enc g = G at *
 unfold qb6
 simp -implicitDefEqProofs -dsimp only [go_sem, seval, w1, ↓J2 _ _ q9o]
 refine cpn c1 ?_
 simp -implicitDefEqProofs -dsimp only [go_sem, seval, bts, w1, ↓J2 _ _ q9o]
 refine cpn c2 ?_
 simp -implicitDefEqProofs -dsimp only [go_sem, seval, bts]
 exact J8 rfl
end Go.Aw
