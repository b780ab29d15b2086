import Derived.Test.YtpbnmegmhhkloaaDoorW6G
namespace Go.Aw
open Go
open Go.Proofs.Tryd (prog)
set_option linter.all false
set_option maxHeartbeats 8000000
set_option maxRecDepth 8000
theorem qid (d : Dk) (k : Int) (w : Wh) : (qfi d k w).left = d.left := by
 unfold qfi; split
 ·exact (q2o ..).2.2.2
 split
 ·exact (q2o ..).2.2.2
 ·rfl
theorem qfe (d : Dk) : (fresh d).left = d.left := by unfold fresh; rw [(q2o ..).2.2.2, qdz]
def opQ (T : Tab) (did : Nat) (d : Dk) (v : AV) (T' : Tab) : Prop := ∃ lid, v = .tup [.ptr lid 0, .fz (q54 d).2.1.length (btL (q54 d).2.1) none, .i .i64 0] /\ T lid = .unused /\ did ≠ lid /\ T' = tL T did lid (q54 d).2.2 (q54 d).1
theorem qie {T : Tab} {did : Nat} {d : Dk} (hd : Un d) (hl : d.left <= 9223372036854775807) (hT : At T did d) (hf : (10 : Int) + d.a1.b.length <= d.room) : ACalls prog q0e [.ptr did 0] T (opQ T did d) := by
 refine K3 N5 q9w (by simp) ?_
 have hC := qic hd.ok hT hd.lost
 have n0 : ∀ w : Wl, q63 0 w = w := fun w => by simp [q63]
 have hdu : T did ≠ .unused := by rw [hT]; simp
 unfold q6e opQ q54
 rcases hc : V1 d with _ | ⟨k, w⟩
 ·rw [hc] at hC
  simp only [chE, chL, Option.isSome_none] at hC
  simp -implicitDefEqProofs -dsimp only [go_sem, seval, ↓J2 _ _ q3d]
  refine can hC ?_
  simp -implicitDefEqProofs -dsimp only [go_sem, seval, whZ, decide_true, Bool.not_true]
  refine fun lid hlid => J8 ?_
  have hne : did ≠ lid := fun e => hdu (e ▸ hlid)
  have e1 : T.put lid (.row 4 [.ptr did 0, .i .i64 0, .i .u64 0, .b false]) = tL T did lid d ⟨0, 0, false⟩ := by
   unfold tL; rw [Tab.put_self hT]; rfl
  have hFr := qkd (T := T) hne (w := ⟨0, 0, false⟩) hd hl hf rfl
  obtain ⟨u1, u2, u3, u4⟩ := qk7 hd hf
  obtain ⟨q1, q2, q3, q4, q5, q6⟩ := u1.clear (k := 1) (.inr rfl)
  have hCl := qax (T := T) hne (w := ⟨0, 1, false⟩) (u1.dw (by rw [qfe]; exact hl)) (k := 1) (.inr rfl)
  rw [q1, n0] at hCl
  have hT2 := qdd (T := T) (did := did) (lid := lid) (fresh d) ⟨0, 1, false⟩
  simp -implicitDefEqProofs -dsimp only [go_sem, seval, e1, ↓J2 _ _ q8b]
  refine can hFr ?_
  simp -implicitDefEqProofs -dsimp only [go_sem, seval, decide_true, hT2, show IntKind.i64.wrap (1 - 0) = 1 from rfl, ↓J2 _ _ q19]
  refine can hCl ?_
  simp -implicitDefEqProofs -dsimp only [go_sem, seval, decide_true, Bool.not_true]
  exact ⟨[], _, _, List.nodup_nil, by simp, fun _ => .inr (.inl rfl), by rw [q3w]; exact Wk.tup ⟨.refl _, .fz, .refl _, trivial⟩, lid, rfl, hlid, hne, rfl⟩
 ·rw [hc] at hC
  simp only [chE, chL, Option.isSome_some] at hC
  obtain ⟨hk, hr⟩ := qdb hc
  simp -implicitDefEqProofs -dsimp only [go_sem, seval, ↓J2 _ _ q3d]
  refine can hC ?_
  simp -implicitDefEqProofs -dsimp only [go_sem, seval, whC, decide_true, Bool.not_true]
  refine fun lid hlid => J8 ?_
  have hne : did ≠ lid := fun e => hdu (e ▸ hlid)
  have e1 : T.put lid (.row 4 [.ptr did 0, .i .i64 k, .i .u64 0, .b false]) = tL T did lid d ⟨k, 0, false⟩ := by
   unfold tL; rw [Tab.put_self hT]; rfl
  have hM := qmp (T := T) hne (w := ⟨k, 0, false⟩) hd hl hk hr
  obtain ⟨m1, m2, m3, m4, m5⟩ := qmi hd hk hr
  obtain ⟨q1, q2, q3, q4, q5, q6⟩ := m1.clear hk.oth
  have hCl := qax (T := T) hne (w := ⟨k, w.g, false⟩) (m1.dw (by rw [qid]; exact hl)) hk.oth
  rw [q1, n0] at hCl
  simp only [whC] at hM
  have hT2 := qdd (T := T) (did := did) (lid := lid) (qfi d k w) ⟨k, w.g, false⟩
  have wk : IntKind.i64.wrap (1 - k) = 1 - k := K9 (by unfold I64; rcases hk with rfl | rfl <;> decide)
  simp -implicitDefEqProofs -dsimp only [go_sem, seval, e1, ↓J2 _ _ q96]
  refine can hM ?_
  simp -implicitDefEqProofs -dsimp only [go_sem, seval, decide_true, hT2, wk, ↓J2 _ _ q19]
  refine can hCl ?_
  simp -implicitDefEqProofs -dsimp only [go_sem, seval, decide_true, Bool.not_true]
  exact ⟨[], _, _, List.nodup_nil, by simp, fun _ => .inr (.inl rfl), by rw [q3w]; exact .refl _, lid, rfl, hlid, hne, rfl⟩
theorem qkw {T : Tab} {did lid : Nat} {d : Dk} {w : Wl} : ACalls prog Y0 [.ptr lid 0] (tL T did lid d w) (fun v T' => v = .i .i64 (if w.dead = true then 12 else 0) /\ T' = tL T did lid d w) := by
 refine K3 N5 q5t (by simp) ?_
 have hT := qdd (T := T) (did := did) (lid := lid) d w
 unfold q2k
 rcases hw : w.dead with _ | _
 ·rw [hw] at hT
  simp -implicitDefEqProofs -dsimp only [go_sem, seval, q56, hT]
  exact K7 (.refl _) rfl
 ·rw [hw] at hT
  simp -implicitDefEqProofs -dsimp only [go_sem, seval, q56, hT]
  exact K7 (.refl _) rfl
theorem qmq {T : Tab} {did lid : Nat} {d : Dk} {w : Wl} : ACalls prog U7 [.ptr lid 0] (tL T did lid d w) (fun v T' => v = .b w.dead /\ T' = tL T did lid d w) := by
 refine K3 N5 q4c (by simp) ?_
 have hT := qdd (T := T) (did := did) (lid := lid) d w
 unfold q1o
 simp -implicitDefEqProofs -dsimp only [go_sem, seval, q56, hT, ↓q2z, q3r, true_and]
 exact K7 (.refl _) rfl
theorem qqe {T : Tab} {did lid : Nat} {d : Dk} {w : Wl} (hw : w.dead = false) : ACalls prog G6 [.ptr lid 0] (tL T did lid d w) (fun v T' => v = .i .u64 w.g /\ T' = tL T did lid d w) := by
 refine K3 N5 q5q (by simp) ?_
 have hT := qdd (T := T) (did := did) (lid := lid) d w
 have hD := qmq (T := T) (did := did) (lid := lid) (d := d) (w := w)
 rw [hw] at hD
 unfold q2h
 simp -implicitDefEqProofs -dsimp only [go_sem, seval, ↓J2 _ _ q0i]
 refine can hD ?_
 simp -implicitDefEqProofs -dsimp only [go_sem, seval, hT]
 exact K7 (.refl _) rfl
theorem qkx {T : Tab} {did lid : Nat} (hne : did ≠ lid) {d : Dk} {w : Wl} (hd : Dw d) (p : Bs) (cap : Option Nat) (hp : p.length <= 400000000) : ACalls prog V9 [.ptr lid 0, bts p cap] (tL T did lid d w) (fun v T' => v = .i .i64 (qku d w p).1 /\ T' = tL T did lid (qku d w p).2.1 (qku d w p).2.2) := by
 refine K3 N5 q5s (by simp) ?_
 have hT := qdd (T := T) (did := did) (lid := lid) d w
 have hA := qkv (T := T) hne d w
 have hM := qkw (T := T) (did := did) (lid := lid) (d := d) (w := w)
 have hP := qkr p cap hp
 unfold q2i qku
 rcases hw : w.dead with _ | _
 ·rw [hw] at hM
  simp only [Bool.false_eq_true, if_false] at hM
  rw [if_neg (by decide)]
  rcases hok : qbw p with _ | _
  ·have hP' : PCalls prog G1 [bts p cap] (.tup [.fz 0 [] (some 0), .i .i64 1]) := by
    unfold qkq at hP; rwa [hok, if_neg (by decide)] at hP
   simp only [bts] at hP'
   rw [if_pos rfl]
   simp -implicitDefEqProofs -dsimp only [go_sem, seval, ↓J2 _ _ U6]
   refine can hM ?_
   simp -implicitDefEqProofs -dsimp only [go_sem, seval, bts, decide_true, Bool.not_true, ↓J2 _ _ q4p]
   refine cpn hP' ?_
   simp -implicitDefEqProofs -dsimp only [go_sem, seval, Bool.not_false]
   exact K7 (.refl _) rfl
  ·have hP' : PCalls prog G1 [bts p cap] (.tup [bts (frm p) none, .i .i64 0]) := by
    unfold qkq at hP; rwa [hok, if_pos rfl] at hP
   rw [if_neg (by decide)]
   have hfl := I1 p
   have hAp := qbz hd.ok hd.left hA w.k (frm p) none (by omega)
   rw [qc0 hne] at hAp
   have hn := q2q (T := T) (did := did) (lid := lid) (d := (d.append w.k (frm p)).2) (w := w) (d.append w.k (frm p)).1
   generalize frm p = F at *
   simp only [bts] at hP' hAp
   simp -implicitDefEqProofs -dsimp only [go_sem, seval, ↓J2 _ _ U6]
   refine can hM ?_
   simp -implicitDefEqProofs -dsimp only [go_sem, seval, bts, decide_true, Bool.not_true, ↓J2 _ _ q4p]
   refine cpn hP' ?_
   simp -implicitDefEqProofs -dsimp only [go_sem, seval, decide_true, Bool.not_true, hT, ↓J2 _ _ q08]
   refine can hAp ?_
   simp -implicitDefEqProofs -dsimp only [go_sem, seval, ↓J2 _ _ O6]
   refine can hn ?_
   simp -implicitDefEqProofs -dsimp only [go_sem, seval]
   exact K7 (.refl _) rfl
 ·rw [hw] at hM
  simp only [if_true] at hM
  rw [if_pos rfl]
  simp -implicitDefEqProofs -dsimp only [go_sem, seval, ↓J2 _ _ U6]
  refine can hM ?_
  simp -implicitDefEqProofs -dsimp only [go_sem, seval, Bool.not_false]
  exact K7 (.refl _) rfl
theorem qke {T : Tab} {did lid : Nat} (hne : did ≠ lid) {d : Dk} {w : Wl} (hd : Dw d) : ACalls prog Z1 [.ptr lid 0] (tL T did lid d w) (fun v T' => v = .i .i64 (qda d w).1 /\ T' = tL T did lid (qda d w).2.1 (qda d w).2.2) := by
 refine K3 N5 q4a (by simp) ?_
 have hT := qdd (T := T) (did := did) (lid := lid) d w
 have hA := qkv (T := T) hne d w
 have hM := qkw (T := T) (did := did) (lid := lid) (d := d) (w := w)
 unfold q1n qda
 rcases hw : w.dead with _ | _
 ·rw [hw] at hM
  simp only [Bool.false_eq_true, if_false] at hM
  rw [if_neg (by decide)]
  have hS := qd9 hd.ok hd.left hA w.k
  rw [qc0 hne] at hS
  have hn := q2q (T := T) (did := did) (lid := lid) (d := (d.sync w.k).2) (w := w) (d.sync w.k).1
  simp -implicitDefEqProofs -dsimp only [go_sem, seval, ↓J2 _ _ U6]
  refine can hM ?_
  simp -implicitDefEqProofs -dsimp only [go_sem, seval, decide_true, Bool.not_true, hT, ↓J2 _ _ q0u]
  refine can hS ?_
  simp -implicitDefEqProofs -dsimp only [go_sem, seval, ↓J2 _ _ O6]
  refine can hn ?_
  simp -implicitDefEqProofs -dsimp only [go_sem, seval]
  exact K7 (.refl _) rfl
 ·rw [hw] at hM
  simp only [if_true] at hM
  rw [if_pos rfl]
  simp -implicitDefEqProofs -dsimp only [go_sem, seval, ↓J2 _ _ U6]
  refine can hM ?_
  simp -implicitDefEqProofs -dsimp only [go_sem, seval, Bool.not_false]
  exact K7 (.refl _) rfl
end Go.Aw
