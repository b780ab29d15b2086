import Derived.Test.YtpbnmegmhhkloaaDoorW6G
namespace Go.Aw
open Go
open Go.Proofs.Tryd (prog)
set_option linter.all false
set_option maxHeartbeats 8000000
set_option maxRecDepth 8000
theorem qj0 (d : Dk) (k : Int) (w : Wh) : (qg1 d k w).left = d.left := by
 unfold qg1; split
 ·exact (q2p ..).2.2.2
 split
 ·exact (q2p ..).2.2.2
 ·rfl
theorem qfw (d : Dk) : (fresh d).left = d.left := by unfold fresh; rw [(q2p ..).2.2.2, qed]
def opQ (T : Tab) (did : Nat) (d : Dk) (v : AV) (T' : Tab) : Prop := ∃ lid, v = .tup [.ptr lid 0, .fz (V0 d).2.1.length (btL (V0 d).2.1) none, .i .i64 0] /\ T lid = .unused /\ did ≠ lid /\ T' = tL T did lid (V0 d).2.2 (V0 d).1
theorem qbb {T : Tab} {did : Nat} {d : Dk} (hd : Un d) (hl : d.left <= 9223372036854775807) (hT : At T did d) (hf : (10 : Int) + d.a1.b.length <= d.room) : ACalls prog q0l [.ptr did 0] T (opQ T did d) := by
 refine K1 O5 qf7 (by simp) ?_
 have hC := qiz hd.ok hT hd.lost
 have n0 : ∀ w : Wl, q3l 0 w = w := fun w => by simp [q3l]
 have hdu : T did ≠ .unused := by rw [hT]; simp
 unfold qa4 opQ V0
 rcases hc : U2 d with _ | ⟨k, w⟩
 ·rw [hc] at hC
  simp only [chE, chL, Option.isSome_none] at hC
  simp -implicitDefEqProofs -dsimp only [go_sem, seval, ↓J2 _ _ q73]
  refine can hC ?_
  simp -implicitDefEqProofs -dsimp only [go_sem, seval, whZ, decide_true, Bool.not_true]
  refine fun lid hlid => J7 ?_
  have hne : did ≠ lid := fun e => hdu (e ▸ hlid)
  have e1 : T.put lid (.row 4 [.ptr did 0, .i .i64 0, .i .u64 0, .b false]) = tL T did lid d ⟨0, 0, false⟩ := by
   unfold tL; rw [Tab.put_self hT]; rfl
  have hFr := qkx (T := T) hne (w := ⟨0, 0, false⟩) hd hl hf rfl
  obtain ⟨u1, u2, u3, u4⟩ := qea hd hf
  obtain ⟨q1, q2, q3, q4, q5, q6⟩ := u1.clear (k := 1) (.inr rfl)
  have hCl := qba (T := T) hne (w := ⟨0, 1, false⟩) (u1.dw (by rw [qfw]; exact hl)) (k := 1) (.inr rfl)
  rw [q1, n0] at hCl
  have hT2 := qbd (T := T) (did := did) (lid := lid) (fresh d) ⟨0, 1, false⟩
  simp -implicitDefEqProofs -dsimp only [go_sem, seval, e1, ↓J2 _ _ q8g]
  refine can hFr ?_
  simp -implicitDefEqProofs -dsimp only [go_sem, seval, decide_true, hT2, show IntKind.i64.wrap (1 - 0) = 1 from rfl, ↓J2 _ _ q1d]
  refine can hCl ?_
  simp -implicitDefEqProofs -dsimp only [go_sem, seval, decide_true, Bool.not_true]
  exact ⟨[], _, _, List.nodup_nil, by simp, fun _ => .inr (.inl rfl), by rw [q3u]; exact Wk.tup ⟨.refl _, .fz, .refl _, trivial⟩, lid, rfl, hlid, hne, rfl⟩
 ·rw [hc] at hC
  simp only [chE, chL, Option.isSome_some] at hC
  obtain ⟨hk, hr⟩ := q8w hc
  simp -implicitDefEqProofs -dsimp only [go_sem, seval, ↓J2 _ _ q73]
  refine can hC ?_
  simp -implicitDefEqProofs -dsimp only [go_sem, seval, whC, decide_true, Bool.not_true]
  refine fun lid hlid => J7 ?_
  have hne : did ≠ lid := fun e => hdu (e ▸ hlid)
  have e1 : T.put lid (.row 4 [.ptr did 0, .i .i64 k, .i .u64 0, .b false]) = tL T did lid d ⟨k, 0, false⟩ := by
   unfold tL; rw [Tab.put_self hT]; rfl
  have hM := qn7 (T := T) hne (w := ⟨k, 0, false⟩) hd hl hk hr
  obtain ⟨m1, m2, m3, m4, m5⟩ := qiu hd hk hr
  obtain ⟨q1, q2, q3, q4, q5, q6⟩ := m1.clear hk.oth
  have hCl := qba (T := T) hne (w := ⟨k, w.g, false⟩) (m1.dw (by rw [qj0]; exact hl)) hk.oth
  rw [q1, n0] at hCl
  simp only [whC] at hM
  have hT2 := qbd (T := T) (did := did) (lid := lid) (qg1 d k w) ⟨k, w.g, false⟩
  have wk : IntKind.i64.wrap (1 - k) = 1 - k := K7 (by unfold I64; rcases hk with rfl | rfl <;> decide)
  simp -implicitDefEqProofs -dsimp only [go_sem, seval, e1, ↓J2 _ _ q9c]
  refine can hM ?_
  simp -implicitDefEqProofs -dsimp only [go_sem, seval, decide_true, hT2, wk, ↓J2 _ _ q1d]
  refine can hCl ?_
  simp -implicitDefEqProofs -dsimp only [go_sem, seval, decide_true, Bool.not_true]
  exact ⟨[], _, _, List.nodup_nil, by simp, fun _ => .inr (.inl rfl), by rw [q3u]; exact .refl _, lid, rfl, hlid, hne, rfl⟩
theorem qlh {T : Tab} {did lid : Nat} {d : Dk} {w : Wl} : ACalls prog q0a [.ptr lid 0] (tL T did lid d w) (fun v T' => v = .i .i64 (if w.dead = true then 12 else 0) /\ T' = tL T did lid d w) := by
 refine K1 O5 qb2 (by simp) ?_
 have hT := qbd (T := T) (did := did) (lid := lid) d w
 unfold q5z
 rcases hw : w.dead with _ | _
 ·rw [hw] at hT
  simp -implicitDefEqProofs -dsimp only [go_sem, seval, q6q, hT]
  exact K8 (.refl _) rfl
 ·rw [hw] at hT
  simp -implicitDefEqProofs -dsimp only [go_sem, seval, q6q, hT]
  exact K8 (.refl _) rfl
theorem qn8 {T : Tab} {did lid : Nat} {d : Dk} {w : Wl} : ACalls prog q0m [.ptr lid 0] (tL T did lid d w) (fun v T' => v = .b w.dead /\ T' = tL T did lid d w) := by
 refine K1 O5 q96 (by simp) ?_
 have hT := qbd (T := T) (did := did) (lid := lid) d w
 unfold q4d
 simp -implicitDefEqProofs -dsimp only [go_sem, seval, q6q, hT, ↓q6i, q5c, true_and]
 exact K8 (.refl _) rfl
theorem qr4 {T : Tab} {did lid : Nat} {d : Dk} {w : Wl} (hw : w.dead = false) : ACalls prog q0z [.ptr lid 0] (tL T did lid d w) (fun v T' => v = .i .u64 w.g /\ T' = tL T did lid d w) := by
 refine K1 O5 qax (by simp) ?_
 have hT := qbd (T := T) (did := did) (lid := lid) d w
 have hD := qn8 (T := T) (did := did) (lid := lid) (d := d) (w := w)
 rw [hw] at hD
 unfold q5u
 simp -implicitDefEqProofs -dsimp only [go_sem, seval, ↓J2 _ _ q97]
 refine can hD ?_
 simp -implicitDefEqProofs -dsimp only [go_sem, seval, hT]
 exact K8 (.refl _) rfl
theorem qj1 {T : Tab} {did lid : Nat} (hne : did ≠ lid) {d : Dk} {w : Wl} (hd : Dw d) (p : Bs) (cap : Option Nat) (hp : p.length <= 400000000) : ACalls prog G4 [.ptr lid 0, bts p cap] (tL T did lid d w) (fun v T' => v = .i .i64 (qe9 d w p).1 /\ T' = tL T did lid (qe9 d w p).2.1 (qe9 d w p).2.2) := by
 refine K1 O5 qb0 (by simp) ?_
 have hT := qbd (T := T) (did := did) (lid := lid) d w
 have hA := qfv (T := T) hne d w
 have hM := qlh (T := T) (did := did) (lid := lid) (d := d) (w := w)
 have hP := qlc p cap hp
 unfold q5y qe9
 rcases hw : w.dead with _ | _
 ·rw [hw] at hM
  simp only [Bool.false_eq_true, if_false] at hM
  rw [if_neg (by decide)]
  rcases hok : q9i p with _ | _
  ·have hP' : PCalls prog q02 [bts p cap] (.tup [.fz 0 [] (some 0), .i .i64 1]) := by
    unfold qlb at hP; rwa [hok, if_neg (by decide)] at hP
   simp only [bts] at hP'
   rw [if_pos rfl]
   simp -implicitDefEqProofs -dsimp only [go_sem, seval, ↓J2 _ _ q0c]
   refine can hM ?_
   simp -implicitDefEqProofs -dsimp only [go_sem, seval, bts, decide_true, Bool.not_true, ↓J2 _ _ q4s]
   refine cpn hP' ?_
   simp -implicitDefEqProofs -dsimp only [go_sem, seval, Bool.not_false]
   exact K8 (.refl _) rfl
  ·have hP' : PCalls prog q02 [bts p cap] (.tup [bts (frm p) none, .i .i64 0]) := by
    unfold qlb at hP; rwa [hok, if_pos rfl] at hP
   rw [if_neg (by decide)]
   have hfl := G9 p
   have hAp := qcc hd.ok hd.left hA w.k (frm p) none (by omega)
   rw [qcd hne] at hAp
   have hn := q2q (T := T) (did := did) (lid := lid) (d := (d.append w.k (frm p)).2) (w := w) (d.append w.k (frm p)).1
   generalize frm p = F at *
   simp only [bts] at hP' hAp
   simp -implicitDefEqProofs -dsimp only [go_sem, seval, ↓J2 _ _ q0c]
   refine can hM ?_
   simp -implicitDefEqProofs -dsimp only [go_sem, seval, bts, decide_true, Bool.not_true, ↓J2 _ _ q4s]
   refine cpn hP' ?_
   simp -implicitDefEqProofs -dsimp only [go_sem, seval, decide_true, Bool.not_true, hT, ↓J2 _ _ q0b]
   refine can hAp ?_
   simp -implicitDefEqProofs -dsimp only [go_sem, seval, ↓J2 _ _ O6]
   refine can hn ?_
   simp -implicitDefEqProofs -dsimp only [go_sem, seval]
   exact K8 (.refl _) rfl
 ·rw [hw] at hM
  simp only [if_true] at hM
  rw [if_pos rfl]
  simp -implicitDefEqProofs -dsimp only [go_sem, seval, ↓J2 _ _ q0c]
  refine can hM ?_
  simp -implicitDefEqProofs -dsimp only [go_sem, seval, Bool.not_false]
  exact K8 (.refl _) rfl
theorem qee {T : Tab} {did lid : Nat} (hne : did ≠ lid) {d : Dk} {w : Wl} (hd : Dw d) : ACalls prog I3 [.ptr lid 0] (tL T did lid d w) (fun v T' => v = .i .i64 (q7n d w).1 /\ T' = tL T did lid (q7n d w).2.1 (q7n d w).2.2) := by
 refine K1 O5 q94 (by simp) ?_
 have hT := qbd (T := T) (did := did) (lid := lid) d w
 have hA := qfv (T := T) hne d w
 have hM := qlh (T := T) (did := did) (lid := lid) (d := d) (w := w)
 unfold q4b q7n
 rcases hw : w.dead with _ | _
 ·rw [hw] at hM
  simp only [Bool.false_eq_true, if_false] at hM
  rw [if_neg (by decide)]
  have hS := qdl hd.ok hd.left hA w.k
  rw [qcd hne] at hS
  have hn := q2q (T := T) (did := did) (lid := lid) (d := (d.sync w.k).2) (w := w) (d.sync w.k).1
  simp -implicitDefEqProofs -dsimp only [go_sem, seval, ↓J2 _ _ q0c]
  refine can hM ?_
  simp -implicitDefEqProofs -dsimp only [go_sem, seval, decide_true, Bool.not_true, hT, ↓J2 _ _ q0v]
  refine can hS ?_
  simp -implicitDefEqProofs -dsimp only [go_sem, seval, ↓J2 _ _ O6]
  refine can hn ?_
  simp -implicitDefEqProofs -dsimp only [go_sem, seval]
  exact K8 (.refl _) rfl
 ·rw [hw] at hM
  simp only [if_true] at hM
  rw [if_pos rfl]
  simp -implicitDefEqProofs -dsimp only [go_sem, seval, ↓J2 _ _ q0c]
  refine can hM ?_
  simp -implicitDefEqProofs -dsimp only [go_sem, seval, Bool.not_false]
  exact K8 (.refl _) rfl
end Go.Aw
