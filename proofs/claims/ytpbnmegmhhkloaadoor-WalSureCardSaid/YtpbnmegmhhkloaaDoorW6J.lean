import Derived.Test.YtpbnmegmhhkloaaDoorW6I
namespace Go.Aw
open Go
open Go.Proofs.Tryd (prog)
set_option linter.all false
set_option maxHeartbeats 8000000
set_option maxRecDepth 8000
def dkA (b : Bs) (su : Int) : Dk := ⟨1000, ⟨b, none, su⟩, ⟨[], some 0, 0⟩, false, false, 0⟩
def w0 : Wl := ⟨0, 1, false⟩
theorem qbd {b : Bs} {su : Int} (h0 : 0 <= su) (h1 : su <= b.length) (h2 : b.length <= 1000) : Un (dkA b su) :=
 ⟨⟨(show (0 : Int) <= 1000 by decide), (show (1000 : Int) <= 1048576 by decide), (by show (b.length : Int) + (0 : Nat) <= 1000; omega), ⟨h0, h1⟩, ⟨Int.le_refl _, Int.le_refl _⟩, Int.le_refl _⟩, rfl, rfl⟩
theorem qt0 (w : Wl) : q09 0 w = w := by simp [q09]
theorem qvr {b : Bs} {su : Int} (h0 : 0 <= su) (h1 : su <= b.length) {p : Bs} (hp : q7m p = true) (hf : b.length + p.length + 7 <= 1000) : qft (dkA b su) w0 p = (0, dkA (b ++ frm p) su, w0) := by
 have hfl := U5 p
 have := ((qbd h0 h1 (by omega)).append (k := 0) (.inl rfl) (b := frm p) (by
  show (b.length : Int) + (frm p).length + (0 : Nat) <= 1000
  omega)).1
 have e : (dkA b su).append w0.k (frm p) = (0, dkA (b ++ frm p) su) := this
 unfold qft
 rw [if_neg (by decide), hp, if_neg (by decide), e, qt0]
theorem qve {b : Bs} {su : Int} (h0 : 0 <= su) (h1 : su <= b.length) (hf : b.length <= 1000) : q71 (dkA b su) w0 = (0, dkA b b.length, w0) := by
 have e : (dkA b su).sync w0.k = (0, dkA b b.length) := ((qbd h0 h1 hf).sync (k := 0) (.inl rfl)).1
 unfold q71
 rw [if_neg (by decide), e, qt0]
theorem qt1 (b : Bs) (su : Int) : (dkA b su).crash 0 0 = ⟨1000, ⟨b.take su.toNat, none, su⟩, ⟨[], none, 0⟩, false, false, 0⟩ := by
 unfold Dk.crash Ar.crash Ar.keepN dkA
 simp only [Int.zero_tmod, Int.add_zero, List.take_nil]
theorem qp5 : (N9 (Dk.new 1000)).2.2 = dkA (frm (N4 1 0)) 10 /\ (N9 (Dk.new 1000)).1 = w0 /\ (N9 (Dk.new 1000)).2.1 = [] := by
 rw [qfv (by decide) (by decide)]
 exact ⟨rfl, rfl, rfl⟩
def qhf : Bs := [97, 98, 99]
def wDe : Bs := [100, 101]
theorem qt2 : ∀ r ∈ [N4 1 0, qhf], okF r := fun r hr => by
 simp only [List.mem_cons, List.not_mem_nil, or_false] at hr
 rcases hr with rfl | rfl
 ·exact (q1u (by decide) (by decide)).1
 ·exact ⟨by decide, by decide⟩
theorem qms : Q0 (G1 [N4 1 0, qhf]) = some ⟨1, [qhf], 20, 20⟩ := by
 have := qcd (g := 1) (n := 0) (rs := [qhf]) (by decide) (by decide) (by decide) (fun r hr => qt2 r (List.mem_cons_of_mem _ hr)) qba
 rw [List.append_nil] at this
 have e : (G1 [N4 1 0, qhf]).length = 20 := by
  rw [N8, q4y, List.length_append, q14, U5]; rfl
 rw [e] at this
 exact this
theorem TabLe.tL {T0 T : Tab} {did lid : Nat} {d : Dk} {w : Wl} (h : TabLe T0 T) (h1 : T0 did = .unused) (h2 : T0 lid = .unused) : TabLe T0 (tL T did lid d w) := (h.put h1).put h2
theorem qkw : PCalls prog Y3 [] (.b true) := by
 refine K7 O5 q52 (by simp) fun T => ?_
 have hN := qkc 1000 T
 have u0 : Un (Dk.new 1000) := ⟨Dk.new_ok 1000, rfl, rfl⟩
 have hfl := q14
 obtain ⟨F, hF⟩ : ∃ F, F = frm (N4 1 0) := ⟨_, rfl⟩
 obtain ⟨G, hG⟩ : ∃ G, G = frm qhf := ⟨_, rfl⟩
 obtain ⟨K, hK⟩ : ∃ K, K = frm wDe := ⟨_, rfl⟩
 have lF : F.length = 10 := by rw [hF]; exact hfl
 have lG : G.length = 10 := by rw [hG, U5]; rfl
 have lK : K.length = 9 := by rw [hK, U5]; rfl
 obtain ⟨e1, e2, e3⟩ := qp5
 rw [<- hF] at e1
 have a1 : qft (dkA F 10) w0 qhf = (0, dkA (F ++ G) 10, w0) := by rw [hG]; exact qvr (by decide) (by rw [lF]; decide) rfl (by rw [lF]; decide)
 have a2 : q71 (dkA (F ++ G) 10) w0 = (0, dkA (F ++ G) 20, w0) := by
  have := qve (b := F ++ G) (su := 10) (by decide) (by rw [List.length_append, lF, lG]; decide) (by rw [List.length_append, lF, lG]; decide)
  rw [List.length_append, lF, lG] at this
  exact this
 have a3 : qft (dkA (F ++ G) 20) w0 wDe = (0, dkA (F ++ G ++ K) 20, w0) := by rw [hK]; exact qvr (by decide) (by rw [List.length_append, lF, lG]; decide) rfl (by rw [List.length_append, lF, lG]; decide)
 have hFG : F ++ G = G1 [N4 1 0, qhf] := by rw [N8, q4y, hF, hG]
 obtain ⟨dc, hdc⟩ : ∃ dc : Dk, dc = ⟨1000, ⟨F ++ G, none, 20⟩, ⟨[], none, 0⟩, false, false, 0⟩ := ⟨_, rfl⟩
 have a4 : (dkA (F ++ G ++ K) 20).crash 0 0 = dc := by
  rw [qt1, hdc]
  have : (F ++ G ++ K).take (20 : Int).toNat = F ++ G := by
   show (F ++ G ++ K).take 20 = _
   rw [List.take_append_of_le_length (by rw [List.length_append, lF, lG]; decide), List.take_of_length_le (by rw [List.length_append, lF, lG]; decide)]
  rw [this]
 have u1 : Un (dkA F 10) := qbd (by decide) (by rw [lF]; decide) (by rw [lF]; decide)
 have u2 : Un (dkA (F ++ G) 10) := qbd (by decide) (by rw [List.length_append, lF, lG]; decide) (by rw [List.length_append, lF, lG]; decide)
 have u3 : Un (dkA (F ++ G) 20) := qbd (by decide) (by rw [List.length_append, lF, lG]; decide) (by rw [List.length_append, lF, lG]; decide)
 have u4 : Un (dkA (F ++ G ++ K) 20) := qbd (by decide) (by rw [List.length_append, List.length_append, lF, lG, lK]; decide) (by rw [List.length_append, List.length_append, lF, lG, lK]; decide)
 have u5 : Un dc := by rw [<- a4]; exact qci u4.ok (by decide) (by decide)
 have hch : U2 dc = some (0, ⟨1, [qhf], 20, 20⟩) := by
  rw [hdc]
  exact q7n (k := 0) (.inl rfl) (by show Q0 (F ++ G) = _; rw [hFG]; exact qms) qce
 have hop : (N9 dc).2.1 = [qhf] /\ (N9 dc).1 = w0 := by unfold N9; rw [hch]; exact ⟨rfl, rfl⟩
 unfold q1c
 simp -implicitDefEqProofs -dsimp only [go_sem, seval, ↓J2 _ _ qb4]
 refine CallK.of hN fun v T1 hv => J7 ?_
 obtain ⟨did, rfl, hdid, rfl⟩ := hv
 have hO := qcj (T := T.put did (.row 8 (Dk.new 1000).cells)) (did := did) u0 (by decide) (Tab.put_same ..) (by decide)
 simp -implicitDefEqProofs -dsimp only [go_sem, seval, ↓J2 _ _ q4u]
 refine CallK.of hO fun v T2 hv => J7 ?_
 obtain ⟨lid, rfl, hlid, hne, rfl⟩ := hv
 rw [e1, e2, e3]
 obtain ⟨hne', hlid0⟩ := Tab.unused_put hlid
 have hA1 := qkr (T := T.put did (.row 8 (Dk.new 1000).cells)) hne (w := w0) (u1.dw (show (0 : Int) <= 9223372036854775807 by decide)) qhf (some 3) (by decide)
 have hS1 := qfy (T := T.put did (.row 8 (Dk.new 1000).cells)) hne (w := w0) (u2.dw (show (0 : Int) <= 9223372036854775807 by decide))
 have hA2 := qkr (T := T.put did (.row 8 (Dk.new 1000).cells)) hne (w := w0) (u3.dw (show (0 : Int) <= 9223372036854775807 by decide)) wDe (some 2) (by decide)
 have hCr := qfs u4.ok (qf0 (T := T.put did (.row 8 (Dk.new 1000).cells)) hne (dkA (F ++ G ++ K) 20) w0) 0 0 (by decide) (by decide)
 rw [a1] at hA1
 rw [a2] at hS1
 rw [a3] at hA2
 rw [a4, qak hne] at hCr
 have hO2 := qcj (d := dc) u5 (by rw [hdc]; show (0 : Int) <= 9223372036854775807; decide) (qf0 (T := T.put did (.row 8 (Dk.new 1000).cells)) hne dc w0) (by rw [hdc]; show (10 : Int) + (0 : Nat) <= 1000; decide)
 have hTl : ∀ (d : Dk) (w : Wl) (j : Nat) (ys zs : List AV), (tL (T.put did (.row 8 (Dk.new 1000).cells)) did lid d w) j = .unused -> (((tL (T.put did (.row 8 (Dk.new 1000).cells)) did lid d w).put j (.row 1 ys)).put j .unused) = tL (T.put did (.row 8 (Dk.new 1000).cells)) did lid d w := fun d w j ys zs hj => by
  rw [Tab.put_put, Tab.put_self hj]
 simp -implicitDefEqProofs -dsimp only [go_sem, seval, qjy, List.length_nil]
 intro i1 hi1
 refine J7 ?_
 simp -implicitDefEqProofs -dsimp only [go_sem, seval]
 refine qfg (Tab.put_same ..) (by simp) ?_
 rw [Tab.put_put, Tab.put_self hi1]
 refine J7 ?_
 simp -implicitDefEqProofs -dsimp only [go_sem, seval, ↓J2 _ _ q38]
 refine can hA1 ?_
 simp -implicitDefEqProofs -dsimp only [go_sem, seval, ↓J2 _ _ q28]
 refine can hS1 ?_
 simp -implicitDefEqProofs -dsimp only [go_sem, seval]
 intro i2 hi2
 refine J7 ?_
 simp -implicitDefEqProofs -dsimp only [go_sem, seval]
 refine qfg (Tab.put_same ..) (by simp) ?_
 rw [Tab.put_put, Tab.put_self hi2]
 refine J7 ?_
 simp -implicitDefEqProofs -dsimp only [go_sem, seval, ↓J2 _ _ q38]
 refine can hA2 ?_
 simp -implicitDefEqProofs -dsimp only [go_sem, seval, ↓J2 _ _ q2p]
 refine can hCr ?_
 simp -implicitDefEqProofs -dsimp only [go_sem, seval, ↓J2 _ _ q4u]
 refine CallK.of hO2 fun v T3 hv => J7 ?_
 obtain ⟨lid2, rfl, hlid2, hne2, rfl⟩ := hv
 obtain ⟨o1, o2⟩ := hop
 rw [o1, o2]
 have hG := qsy (T := tL (T.put did (.row 8 (Dk.new 1000).cells)) did lid dc w0) (did := did) (lid := lid2) (d := (N9 dc).2.2) (w := w0) rfl
 have hle : TabLe T (tL (tL (T.put did (.row 8 (Dk.new 1000).cells)) did lid dc w0) did lid2 (N9 dc).2.2 w0) := by
  refine TabLe.tL (TabLe.tL ((TabLe.refl T).put hdid) hdid hlid0) hdid ?_
  have h1 := hlid2
  unfold tL qsx at h1
  obtain ⟨_, h1⟩ := Tab.unused_put h1
  obtain ⟨_, h1⟩ := Tab.unused_put h1
  exact (Tab.unused_put h1).2
 have hb0 : (btL [qhf])[0]? = some (.fz 3 [.i .u8 97, .i .u8 98, .i .u8 99] none) := rfl
 simp -implicitDefEqProofs -dsimp only [go_sem, seval, decide_true, q7p, hb0, show [qhf].length = 1 from rfl, q0v, q90, ↓q1m, q31, true_and, ↓J2 _ _ qc4]
 refine can hG ?_
 simp -implicitDefEqProofs -dsimp only [go_sem, seval, w0]
 exact hle.fin
end Go.Aw
