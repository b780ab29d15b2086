import Derived.Test.YtpbnmegmhhkloaaDoorW6G
namespace Go.Aw
open Go
open Go.Proofs.Tryd (prog)
set_option linter.all false
set_option maxHeartbeats 8000000
set_option maxRecDepth 8000
theorem qkp (d : Dk) (k : Int) (w : Wh) : (qhj d k w).left = d.left := by
 unfold qhj; split
 ·exact (Y9 ..).2.2.2
 split
 ·exact (Y9 ..).2.2.2
 ·rfl
theorem qhd (d : Dk) : (fresh d).left = d.left := by unfold fresh; rw [(Y9 ..).2.2.2, qfx]
def opQ (T : Tab) (did : Nat) (d : Dk) (v : AV) (T' : Tab) : Prop := ∃ lid, v = .tup [.ptr lid 0, .fz (N9 d).2.1.length (btL (N9 d).2.1) none, .i .i64 0] /\ T lid = .unused /\ did ≠ lid /\ T' = tL T did lid (N9 d).2.2 (N9 d).1
theorem qcj {T : Tab} {did : Nat} {d : Dk} (hd : Un d) (hl : d.left <= 9223372036854775807) (hT : At T did d) (hf : (10 : Int) + d.a1.b.length <= d.room) : ACalls prog q0y [.ptr did 0] T (opQ T did d) := by
 refine K1 O5 qgr (by simp) ?_
 have hC := qko hd.ok hT hd.lost
 have n0 : ∀ w : Wl, q09 0 w = w := fun w => by simp [q09]
 have hdu : T did ≠ .unused := by rw [hT]; simp
 unfold qb5 opQ N9
 rcases hc : U2 d with _ | ⟨k, w⟩
 ·rw [hc] at hC
  simp only [chE, chL, Option.isSome_none] at hC
  simp -implicitDefEqProofs -dsimp only [go_sem, seval, ↓J2 _ _ q82]
  refine can hC ?_
  simp -implicitDefEqProofs -dsimp only [go_sem, seval, whZ, decide_true, Bool.not_true]
  refine fun lid hlid => J7 ?_
  have hne : did ≠ lid := fun e => hdu (e ▸ hlid)
  have e1 : T.put lid (.row 4 [.ptr did 0, .i .i64 0, .i .u64 0, .b false]) = tL T did lid d ⟨0, 0, false⟩ := by
   unfold tL; rw [Tab.put_self hT]; rfl
  have hFr := qmq (T := T) hne (w := ⟨0, 0, false⟩) hd hl hf rfl
  obtain ⟨u1, u2, u3, u4⟩ := qfu hd hf
  obtain ⟨q1, q2, q3, q4, q5, q6⟩ := u1.clear (k := 1) (.inr rfl)
  have hCl := q74 (T := T) hne (w := ⟨0, 1, false⟩) (u1.dw (by rw [qhd]; exact hl)) (k := 1) (.inr rfl)
  rw [q1, n0] at hCl
  have hT2 := qaj (T := T) (did := did) (lid := lid) (fresh d) ⟨0, 1, false⟩
  simp -implicitDefEqProofs -dsimp only [go_sem, seval, e1, ↓J2 _ _ q9h]
  refine can hFr ?_
  simp -implicitDefEqProofs -dsimp only [go_sem, seval, decide_true, hT2, show IntKind.i64.wrap (1 - 0) = 1 from rfl, ↓J2 _ _ V1]
  refine can hCl ?_
  simp -implicitDefEqProofs -dsimp only [go_sem, seval, decide_true, Bool.not_true]
  exact ⟨[], _, _, List.nodup_nil, by simp, fun _ => .inr (.inl rfl), by rw [q4r]; exact Wk.tup ⟨.refl _, .fz, .refl _, trivial⟩, lid, rfl, hlid, hne, rfl⟩
 ·rw [hc] at hC
  simp only [chE, chL, Option.isSome_some] at hC
  obtain ⟨hk, hr⟩ := q9x hc
  simp -implicitDefEqProofs -dsimp only [go_sem, seval, ↓J2 _ _ q82]
  refine can hC ?_
  simp -implicitDefEqProofs -dsimp only [go_sem, seval, whC, decide_true, Bool.not_true]
  refine fun lid hlid => J7 ?_
  have hne : did ≠ lid := fun e => hdu (e ▸ hlid)
  have e1 : T.put lid (.row 4 [.ptr did 0, .i .i64 k, .i .u64 0, .b false]) = tL T did lid d ⟨k, 0, false⟩ := by
   unfold tL; rw [Tab.put_self hT]; rfl
  have hM := qp1 (T := T) hne (w := ⟨k, 0, false⟩) hd hl hk hr
  obtain ⟨m1, m2, m3, m4, m5⟩ := qkf hd hk hr
  obtain ⟨q1, q2, q3, q4, q5, q6⟩ := m1.clear hk.oth
  have hCl := q74 (T := T) hne (w := ⟨k, w.g, false⟩) (m1.dw (by rw [qkp]; exact hl)) hk.oth
  rw [q1, n0] at hCl
  simp only [whC] at hM
  have hT2 := qaj (T := T) (did := did) (lid := lid) (qhj d k w) ⟨k, w.g, false⟩
  have wk : IntKind.i64.wrap (1 - k) = 1 - k := K8 (by unfold I64; rcases hk with rfl | rfl <;> decide)
  simp -implicitDefEqProofs -dsimp only [go_sem, seval, e1, ↓J2 _ _ qac]
  refine can hM ?_
  simp -implicitDefEqProofs -dsimp only [go_sem, seval, decide_true, hT2, wk, ↓J2 _ _ V1]
  refine can hCl ?_
  simp -implicitDefEqProofs -dsimp only [go_sem, seval, decide_true, Bool.not_true]
  exact ⟨[], _, _, List.nodup_nil, by simp, fun _ => .inr (.inl rfl), by rw [q4r]; exact .refl _, lid, rfl, hlid, hne, rfl⟩
theorem qkq {T : Tab} {did lid : Nat} {d : Dk} {w : Wl} : ACalls prog I5 [.ptr lid 0] (tL T did lid d w) (fun v T' => v = .i .i64 (if w.dead = true then 12 else 0) /\ T' = tL T did lid d w) := by
 refine K1 O5 qc8 (by simp) ?_
 have hT := qaj (T := T) (did := did) (lid := lid) d w
 unfold q6s
 rcases hw : w.dead with _ | _
 ·rw [hw] at hT
  simp -implicitDefEqProofs -dsimp only [go_sem, seval, q7p, hT]
  exact K6 (.refl _) rfl
 ·rw [hw] at hT
  simp -implicitDefEqProofs -dsimp only [go_sem, seval, q7p, hT]
  exact K6 (.refl _) rfl
theorem qck {T : Tab} {did lid : Nat} {d : Dk} {w : Wl} : ACalls prog V9 [.ptr lid 0] (tL T did lid d w) (fun v T' => v = .b w.dead /\ T' = tL T did lid d w) := by
 refine K1 O5 qa7 (by simp) ?_
 have hT := qaj (T := T) (did := did) (lid := lid) d w
 unfold q58
 simp -implicitDefEqProofs -dsimp only [go_sem, seval, q7p, hT, ↓q1m, q31, true_and]
 exact K6 (.refl _) rfl
theorem qsy {T : Tab} {did lid : Nat} {d : Dk} {w : Wl} (hw : w.dead = false) : ACalls prog q1f [.ptr lid 0] (tL T did lid d w) (fun v T' => v = .i .u64 w.g /\ T' = tL T did lid d w) := by
 refine K1 O5 qc3 (by simp) ?_
 have hT := qaj (T := T) (did := did) (lid := lid) d w
 have hD := qck (T := T) (did := did) (lid := lid) (d := d) (w := w)
 rw [hw] at hD
 unfold q6n
 simp -implicitDefEqProofs -dsimp only [go_sem, seval, ↓J2 _ _ q06]
 refine can hD ?_
 simp -implicitDefEqProofs -dsimp only [go_sem, seval, hT]
 exact K6 (.refl _) rfl
theorem qkr {T : Tab} {did lid : Nat} (hne : did ≠ lid) {d : Dk} {w : Wl} (hd : Dw d) (p : Bs) (cap : Option Nat) (hp : p.length <= 400000000) : ACalls prog I3 [.ptr lid 0, bts p cap] (tL T did lid d w) (fun v T' => v = .i .i64 (qft d w p).1 /\ T' = tL T did lid (qft d w p).2.1 (qft d w p).2.2) := by
 refine K1 O5 qc6 (by simp) ?_
 have hT := qaj (T := T) (did := did) (lid := lid) d w
 have hA := qf0 (T := T) hne d w
 have hM := qkq (T := T) (did := did) (lid := lid) (d := d) (w := w)
 have hP := qfo p cap hp
 unfold q6r qft
 rcases hw : w.dead with _ | _
 ·rw [hw] at hM
  simp only [Bool.false_eq_true, if_false] at hM
  rw [if_neg (by decide)]
  rcases hok : q7m p with _ | _
  ·have hP' : PCalls prog Z2 [bts p cap] (.tup [.fz 0 [] (some 0), .i .i64 1]) := by
    unfold qjw at hP; rwa [hok, if_neg (by decide)] at hP
   simp only [bts] at hP'
   rw [if_pos rfl]
   simp -implicitDefEqProofs -dsimp only [go_sem, seval, ↓J2 _ _ V8]
   refine can hM ?_
   simp -implicitDefEqProofs -dsimp only [go_sem, seval, bts, decide_true, Bool.not_true, ↓J2 _ _ q0z]
   refine cpn hP' ?_
   simp -implicitDefEqProofs -dsimp only [go_sem, seval, Bool.not_false]
   exact K6 (.refl _) rfl
  ·have hP' : PCalls prog Z2 [bts p cap] (.tup [bts (frm p) none, .i .i64 0]) := by
    unfold qjw at hP; rwa [hok, if_pos rfl] at hP
   rw [if_neg (by decide)]
   have hfl := U5 p
   have hAp := qdm hd.ok hd.left hA w.k (frm p) none (by omega)
   rw [qak hne] at hAp
   have hn := q3f (T := T) (did := did) (lid := lid) (d := (d.append w.k (frm p)).2) (w := w) (d.append w.k (frm p)).1
   generalize frm p = F at *
   simp only [bts] at hP' hAp
   simp -implicitDefEqProofs -dsimp only [go_sem, seval, ↓J2 _ _ V8]
   refine can hM ?_
   simp -implicitDefEqProofs -dsimp only [go_sem, seval, bts, decide_true, Bool.not_true, ↓J2 _ _ q0z]
   refine cpn hP' ?_
   simp -implicitDefEqProofs -dsimp only [go_sem, seval, decide_true, Bool.not_true, hT, ↓J2 _ _ q0q]
   refine can hAp ?_
   simp -implicitDefEqProofs -dsimp only [go_sem, seval, ↓J2 _ _ Q2]
   refine can hn ?_
   simp -implicitDefEqProofs -dsimp only [go_sem, seval]
   exact K6 (.refl _) rfl
 ·rw [hw] at hM
  simp only [if_true] at hM
  rw [if_pos rfl]
  simp -implicitDefEqProofs -dsimp only [go_sem, seval, ↓J2 _ _ V8]
  refine can hM ?_
  simp -implicitDefEqProofs -dsimp only [go_sem, seval, Bool.not_false]
  exact K6 (.refl _) rfl
theorem qfy {T : Tab} {did lid : Nat} (hne : did ≠ lid) {d : Dk} {w : Wl} (hd : Dw d) : ACalls prog q05 [.ptr lid 0] (tL T did lid d w) (fun v T' => v = .i .i64 (q71 d w).1 /\ T' = tL T did lid (q71 d w).2.1 (q71 d w).2.2) := by
 refine K1 O5 qa5 (by simp) ?_
 have hT := qaj (T := T) (did := did) (lid := lid) d w
 have hA := qf0 (T := T) hne d w
 have hM := qkq (T := T) (did := did) (lid := lid) (d := d) (w := w)
 unfold q57 q71
 rcases hw : w.dead with _ | _
 ·rw [hw] at hM
  simp only [Bool.false_eq_true, if_false] at hM
  rw [if_neg (by decide)]
  have hS := qey hd.ok hd.left hA w.k
  rw [qak hne] at hS
  have hn := q3f (T := T) (did := did) (lid := lid) (d := (d.sync w.k).2) (w := w) (d.sync w.k).1
  simp -implicitDefEqProofs -dsimp only [go_sem, seval, ↓J2 _ _ V8]
  refine can hM ?_
  simp -implicitDefEqProofs -dsimp only [go_sem, seval, decide_true, Bool.not_true, hT, ↓J2 _ _ q1b]
  refine can hS ?_
  simp -implicitDefEqProofs -dsimp only [go_sem, seval, ↓J2 _ _ Q2]
  refine can hn ?_
  simp -implicitDefEqProofs -dsimp only [go_sem, seval]
  exact K6 (.refl _) rfl
 ·rw [hw] at hM
  simp only [if_true] at hM
  rw [if_pos rfl]
  simp -implicitDefEqProofs -dsimp only [go_sem, seval, ↓J2 _ _ V8]
  refine can hM ?_
  simp -implicitDefEqProofs -dsimp only [go_sem, seval, Bool.not_false]
  exact K6 (.refl _) rfl
theorem qks {R : Z1} (hR : ExtR R) {T : Tab} {rs : List Bs} {cap : Option Nat} (hl : rs.length <= 1000) (hx : ∀ r ∈ rs, okF r) : ∀ (us : List Bs) (k : Nat), rs.drop k = us -> k <= rs.length -> ∀ (out : Bs) (co : Option Nat), out.length <= 100000 * k ->
  (∀ co, R (.exit 0) [(4, bts (out ++ G1 us) co), (9, .fz rs.length (btL rs) cap), (10, .i .i64 rs.length), (11, .i .i64 rs.length), (12, .b false)] [] T) ->
  AW prog q39 R [(4, bts out co), (9, .fz rs.length (btL rs) cap), (10, .i .i64 rs.length), (11, .i .i64 k)] [] T := by
 intro us
 induction us with
 | nil =>
  intro k hk hle out co ho h2
  have hk' := q35 hk hle
  refine q27 hR ?_
  unfold q2c
  simp -implicitDefEqProofs -dsimp only [go_sem, seval, hk', Int.lt_irrefl]
  rw [hk'] at h2
  have := h2 co
  simpa [G1] using this
 | cons u us ih =>
  intro k hk hle out co ho h2
  obtain ⟨hlt, hy, hk'⟩ := q7d hk
  have hg := qk0 hy
  have hu := hx u (List.mem_of_getElem? hy)
  have hs : IntKind.i64.wrap ((k : Int) + 1) = ((k + 1 : Nat) : Int) := q03 (by omega)
  have hP := qfo u none (by have := hu.2; omega)
  have hok : q7m u = true := by unfold q7m; rw [decide_eq_true hu.1, decide_eq_true hu.2]; rfl
  unfold qjw at hP
  rw [hok, if_pos rfl] at hP
  have hfl := U5 u
  have hu2 := hu.2
  have hC := q4f out (frm u) co none (by omega) (by omega)
  have hIH := ih (k + 1) hk' hlt (out ++ frm u) none (by rw [List.length_append, hfl]; omega) (by
   intro co
   have := h2 co
   rw [N8, <- List.append_assoc] at this
   exact this)
  generalize hF : frm u = F at *
  generalize hO : out ++ F = O at *
  simp only [bts] at hP hC hg hIH
  refine N6 (l := q39) rfl hR ?_
  unfold q2c
  simp -implicitDefEqProofs -dsimp only [go_sem, seval, Int.ofNat_lt, hlt, Int.natCast_nonneg, Int.toNat_natCast, Nat.mul_one, bts, hg, ↓J2 _ _ q0z]
  refine cpn hP ?_
  simp -implicitDefEqProofs -dsimp only [go_sem, seval, decide_true, Bool.not_true, ↓J2 _ _ K9]
  refine cpn hC ?_
  simp -implicitDefEqProofs -dsimp only [go_sem, seval, hs]
  exact hIH
theorem qkt (rs : List Bs) (cap : Option Nat) (hl : rs.length <= 1000) (hx : ∀ r ∈ rs, okF r) : PCalls prog q20 [.fz rs.length (btL rs) cap] (.tup [bts (G1 rs) none, .i .i64 0]) := by
 refine K7 O5 qde (by simp) fun T => ?_
 unfold q83
 simp -implicitDefEqProofs -dsimp only [go_sem, seval]
 refine qks (T := T) (rs := rs) (cap := cap) (by repeat' (first | exact N3 _ _ | assumption | apply N2 | apply K3 | apply V2)) hl hx rs 0 rfl (Nat.zero_le _) [] (some 0) (by simp) (fun co => ?_)
 rw [List.nil_append]
 generalize G1 rs = F at *
 simp -implicitDefEqProofs -dsimp only [go_sem, seval, bts]
 exact K6 (Wk.tup ⟨.fz, .refl _, trivial⟩) rfl
end Go.Aw
