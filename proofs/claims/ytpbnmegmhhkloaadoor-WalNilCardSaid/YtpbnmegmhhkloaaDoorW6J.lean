import Derived.Test.YtpbnmegmhhkloaaDoorW6I
namespace Go.Aw
open Go
open Go.Proofs.Tryd (prog)
set_option linter.all false
set_option maxHeartbeats 8000000
set_option maxRecDepth 8000
def dkA (b : Bs) (su : Int) : Dk := ⟨1000, ⟨b, none, su⟩, ⟨[], some 0, 0⟩, false, false, 0⟩
def w0 : Wl := ⟨0, 1, false⟩
theorem qa1 {b : Bs} {su : Int} (h0 : 0 <= su) (h1 : su <= b.length) (h2 : b.length <= 1000) : Un (dkA b su) :=
 ⟨⟨(show (0 : Int) <= 1000 by decide), (show (1000 : Int) <= 1048576 by decide), (by show (b.length : Int) + (0 : Nat) <= 1000; omega), ⟨h0, h1⟩, ⟨Int.le_refl _, Int.le_refl _⟩, Int.le_refl _⟩, rfl, rfl⟩
theorem qqf (w : Wl) : q63 0 w = w := by simp [q63]
theorem qt3 {b : Bs} {su : Int} (h0 : 0 <= su) (h1 : su <= b.length) {p : Bs} (hp : qbw p = true) (hf : b.length + p.length + 7 <= 1000) : qku (dkA b su) w0 p = (0, dkA (b ++ frm p) su, w0) := by
 have hfl := I1 p
 have := ((qa1 h0 h1 (by omega)).append (k := 0) (.inl rfl) (b := frm p) (by
  show (b.length : Int) + (frm p).length + (0 : Nat) <= 1000
  omega)).1
 have e : (dkA b su).append w0.k (frm p) = (0, dkA (b ++ frm p) su) := this
 unfold qku
 rw [if_neg (by decide), hp, if_neg (by decide), e, qqf]
theorem qss {b : Bs} {su : Int} (h0 : 0 <= su) (h1 : su <= b.length) (hf : b.length <= 1000) : qda (dkA b su) w0 = (0, dkA b b.length, w0) := by
 have e : (dkA b su).sync w0.k = (0, dkA b b.length) := ((qa1 h0 h1 hf).sync (k := 0) (.inl rfl)).1
 unfold qda
 rw [if_neg (by decide), e, qqf]
theorem qqg (b : Bs) (su : Int) : (dkA b su).crash 0 0 = ⟨1000, ⟨b.take su.toNat, none, su⟩, ⟨[], none, 0⟩, false, false, 0⟩ := by
 unfold Dk.crash Ar.crash Ar.keepN dkA
 simp only [Int.zero_tmod, Int.add_zero, List.take_nil]
theorem qmr : (q54 (Dk.new 1000)).2.2 = dkA (frm (Z4 1 0)) 10 /\ (q54 (Dk.new 1000)).1 = w0 /\ (q54 (Dk.new 1000)).2.1 = [] := by
 rw [qka (by decide) (by decide)]
 exact ⟨rfl, rfl, rfl⟩
def qff : Bs := [97, 98, 99]
def wDe : Bs := [100, 101]
theorem qqh : ∀ r ∈ [Z4 1 0, qff], okF r := fun r hr => by
 simp only [List.mem_cons, List.not_mem_nil, or_false] at hr
 rcases hr with rfl | rfl
 ·exact (q8p (by decide) (by decide)).1
 ·exact ⟨by decide, by decide⟩
theorem qkf : V4 (q1g [Z4 1 0, qff]) = some ⟨1, [qff], 20, 20⟩ := by
 have := qmd (g := 1) (n := 0) (rs := [qff]) (by decide) (by decide) (by decide) (fun r hr => qqh r (List.mem_cons_of_mem _ hr)) qi3
 rw [List.append_nil] at this
 have e : (q1g [Z4 1 0, qff]).length = 20 := by
  rw [Y9, qat, List.length_append, q2p, I1]; rfl
 rw [e] at this
 exact this
theorem TabLe.tL {T0 T : Tab} {did lid : Nat} {d : Dk} {w : Wl} (h : TabLe T0 T) (h1 : T0 did = .unused) (h2 : T0 lid = .unused) : TabLe T0 (tL T did lid d w) := (h.put h1).put h2
theorem qif : PCalls prog V5 [] (.b true) := by
 refine K0 N5 q44 (by simp) fun T => ?_
 have hN := qme 1000 T
 have u0 : Un (Dk.new 1000) := ⟨Dk.new_ok 1000, rfl, rfl⟩
 have hfl := q2p
 obtain ⟨F, hF⟩ : ∃ F, F = frm (Z4 1 0) := ⟨_, rfl⟩
 obtain ⟨G, hG⟩ : ∃ G, G = frm qff := ⟨_, rfl⟩
 obtain ⟨K, hK⟩ : ∃ K, K = frm wDe := ⟨_, rfl⟩
 have lF : F.length = 10 := by rw [hF]; exact hfl
 have lG : G.length = 10 := by rw [hG, I1]; rfl
 have lK : K.length = 9 := by rw [hK, I1]; rfl
 obtain ⟨e1, e2, e3⟩ := qmr
 rw [<- hF] at e1
 have a1 : qku (dkA F 10) w0 qff = (0, dkA (F ++ G) 10, w0) := by rw [hG]; exact qt3 (by decide) (by rw [lF]; decide) rfl (by rw [lF]; decide)
 have a2 : qda (dkA (F ++ G) 10) w0 = (0, dkA (F ++ G) 20, w0) := by
  have := qss (b := F ++ G) (su := 10) (by decide) (by rw [List.length_append, lF, lG]; decide) (by rw [List.length_append, lF, lG]; decide)
  rw [List.length_append, lF, lG] at this
  exact this
 have a3 : qku (dkA (F ++ G) 20) w0 wDe = (0, dkA (F ++ G ++ K) 20, w0) := by rw [hK]; exact qt3 (by decide) (by rw [List.length_append, lF, lG]; decide) rfl (by rw [List.length_append, lF, lG]; decide)
 have hFG : F ++ G = q1g [Z4 1 0, qff] := by rw [Y9, qat, hF, hG]
 obtain ⟨dc, hdc⟩ : ∃ dc : Dk, dc = ⟨1000, ⟨F ++ G, none, 20⟩, ⟨[], none, 0⟩, false, false, 0⟩ := ⟨_, rfl⟩
 have a4 : (dkA (F ++ G ++ K) 20).crash 0 0 = dc := by
  rw [qqg, hdc]
  have : (F ++ G ++ K).take (20 : Int).toNat = F ++ G := by
   show (F ++ G ++ K).take 20 = _
   rw [List.take_append_of_le_length (by rw [List.length_append, lF, lG]; decide), List.take_of_length_le (by rw [List.length_append, lF, lG]; decide)]
  rw [this]
 have u1 : Un (dkA F 10) := qa1 (by decide) (by rw [lF]; decide) (by rw [lF]; decide)
 have u2 : Un (dkA (F ++ G) 10) := qa1 (by decide) (by rw [List.length_append, lF, lG]; decide) (by rw [List.length_append, lF, lG]; decide)
 have u3 : Un (dkA (F ++ G) 20) := qa1 (by decide) (by rw [List.length_append, lF, lG]; decide) (by rw [List.length_append, lF, lG]; decide)
 have u4 : Un (dkA (F ++ G ++ K) 20) := qa1 (by decide) (by rw [List.length_append, List.length_append, lF, lG, lK]; decide) (by rw [List.length_append, List.length_append, lF, lG, lK]; decide)
 have u5 : Un dc := by rw [<- a4]; exact qk9 u4.ok (by decide) (by decide)
 have hch : V1 dc = some (0, ⟨1, [qff], 20, 20⟩) := by
  rw [hdc]
  exact qfd (k := 0) (.inl rfl) (by show V4 (F ++ G) = _; rw [hFG]; exact qkf) qdx
 have hop : (q54 dc).2.1 = [qff] /\ (q54 dc).1 = w0 := by unfold q54; rw [hch]; exact ⟨rfl, rfl⟩
 unfold q0v
 simp -implicitDefEqProofs -dsimp only [go_sem, seval, ↓J2 _ _ qeq]
 refine CallK.of hN fun v T1 hv => J8 ?_
 obtain ⟨did, rfl, hdid, rfl⟩ := hv
 have hO := qie (T := T.put did (.row 8 (Dk.new 1000).cells)) (did := did) u0 (by decide) (Tab.put_same ..) (by decide)
 simp -implicitDefEqProofs -dsimp only [go_sem, seval, ↓J2 _ _ q6f]
 refine CallK.of hO fun v T2 hv => J8 ?_
 obtain ⟨lid, rfl, hlid, hne, rfl⟩ := hv
 rw [e1, e2, e3]
 obtain ⟨hne', hlid0⟩ := Tab.unused_put hlid
 have hA1 := qkx (T := T.put did (.row 8 (Dk.new 1000).cells)) hne (w := w0) (u1.dw (show (0 : Int) <= 9223372036854775807 by decide)) qff (some 3) (by decide)
 have hS1 := qke (T := T.put did (.row 8 (Dk.new 1000).cells)) hne (w := w0) (u2.dw (show (0 : Int) <= 9223372036854775807 by decide))
 have hA2 := qkx (T := T.put did (.row 8 (Dk.new 1000).cells)) hne (w := w0) (u3.dw (show (0 : Int) <= 9223372036854775807 by decide)) wDe (some 2) (by decide)
 have hCr := qk5 u4.ok (qkv (T := T.put did (.row 8 (Dk.new 1000).cells)) hne (dkA (F ++ G ++ K) 20) w0) 0 0 (by decide) (by decide)
 rw [a1] at hA1
 rw [a2] at hS1
 rw [a3] at hA2
 rw [a4, qc0 hne] at hCr
 have hO2 := qie (d := dc) u5 (by rw [hdc]; show (0 : Int) <= 9223372036854775807; decide) (qkv (T := T.put did (.row 8 (Dk.new 1000).cells)) hne dc w0) (by rw [hdc]; show (10 : Int) + (0 : Nat) <= 1000; decide)
 have hTl : ∀ (d : Dk) (w : Wl) (j : Nat) (ys zs : List AV), (tL (T.put did (.row 8 (Dk.new 1000).cells)) did lid d w) j = .unused -> (((tL (T.put did (.row 8 (Dk.new 1000).cells)) did lid d w).put j (.row 1 ys)).put j .unused) = tL (T.put did (.row 8 (Dk.new 1000).cells)) did lid d w := fun d w j ys zs hj => by
  rw [Tab.put_put, Tab.put_self hj]
 simp -implicitDefEqProofs -dsimp only [go_sem, seval, qhu, List.length_nil]
 intro i1 hi1
 refine J8 ?_
 simp -implicitDefEqProofs -dsimp only [go_sem, seval]
 refine qdp (Tab.put_same ..) (by simp) ?_
 rw [Tab.put_put, Tab.put_self hi1]
 refine J8 ?_
 simp -implicitDefEqProofs -dsimp only [go_sem, seval, ↓J2 _ _ q2j]
 refine can hA1 ?_
 simp -implicitDefEqProofs -dsimp only [go_sem, seval, ↓J2 _ _ q4b]
 refine can hS1 ?_
 simp -implicitDefEqProofs -dsimp only [go_sem, seval]
 intro i2 hi2
 refine J8 ?_
 simp -implicitDefEqProofs -dsimp only [go_sem, seval]
 refine qdp (Tab.put_same ..) (by simp) ?_
 rw [Tab.put_put, Tab.put_self hi2]
 refine J8 ?_
 simp -implicitDefEqProofs -dsimp only [go_sem, seval, ↓J2 _ _ q2j]
 refine can hA2 ?_
 simp -implicitDefEqProofs -dsimp only [go_sem, seval, ↓J2 _ _ q6l]
 refine can hCr ?_
 simp -implicitDefEqProofs -dsimp only [go_sem, seval, ↓J2 _ _ q6f]
 refine CallK.of hO2 fun v T3 hv => J8 ?_
 obtain ⟨lid2, rfl, hlid2, hne2, rfl⟩ := hv
 obtain ⟨o1, o2⟩ := hop
 rw [o1, o2]
 have hG := qqe (T := tL (T.put did (.row 8 (Dk.new 1000).cells)) did lid dc w0) (did := did) (lid := lid2) (d := (q54 dc).2.2) (w := w0) rfl
 have hle : TabLe T (tL (tL (T.put did (.row 8 (Dk.new 1000).cells)) did lid dc w0) did lid2 (q54 dc).2.2 w0) := by
  refine TabLe.tL (TabLe.tL ((TabLe.refl T).put hdid) hdid hlid0) hdid ?_
  have h1 := hlid2
  unfold tL qsr at h1
  obtain ⟨_, h1⟩ := Tab.unused_put h1
  obtain ⟨_, h1⟩ := Tab.unused_put h1
  exact (Tab.unused_put h1).2
 have hb0 : (btL [qff])[0]? = some (.fz 3 [.i .u8 97, .i .u8 98, .i .u8 99] none) := rfl
 simp -implicitDefEqProofs -dsimp only [go_sem, seval, decide_true, q56, hb0, show [qff].length = 1 from rfl, q12, qb8, ↓q2z, q3r, true_and, ↓J2 _ _ q5r]
 refine can hG ?_
 simp -implicitDefEqProofs -dsimp only [go_sem, seval, w0]
 exact hle.fin
theorem qig (p : Bs) (c : Option Nat) (hp : Len p.length) : PCalls prog q0m [bts p c] (.b true) := by
 refine K0 N5 q3b (by simp) fun T => ?_
 have cA := qif
 have m : PCalls prog Y0 [.nilptr] (.i .i64 2) := by
  refine K0 N5 q5t (by simp) fun T => ?_
  unfold q2k
  simp -implicitDefEqProofs -dsimp only [go_sem, seval, q56]
  exact J7 rfl
 have dd : PCalls prog U7 [.nilptr] (.b true) := by
  refine K0 N5 q4c (by simp) fun T => ?_
  unfold q1o
  simp -implicitDefEqProofs -dsimp only [go_sem, seval, q56, ↓q2z, q3r, true_and]
  exact J7 rfl
 have gg : PCalls prog G6 [.nilptr] (.i .u64 0) := by
  refine K0 N5 q5q (by simp) fun T => ?_
  unfold q2h
  simp -implicitDefEqProofs -dsimp only [go_sem, seval, ↓J2 _ _ q0i]
  refine cpn dd ?_
  simp -implicitDefEqProofs -dsimp only [go_sem, seval]
  exact J7 rfl
 have rr : PCalls prog q0f [.nilptr] (.i .i64 0) := by
  refine K0 N5 q91 (by simp) fun T => ?_
  unfold q4d
  simp -implicitDefEqProofs -dsimp only [go_sem, seval, ↓J2 _ _ q0i]
  refine cpn dd ?_
  simp -implicitDefEqProofs -dsimp only [go_sem, seval]
  exact J7 rfl
 have aa : PCalls prog V9 [.nilptr, bts p c] (.i .i64 2) := by
  refine K0 N5 q5s (by simp) fun T => ?_
  unfold q2i
  simp -implicitDefEqProofs -dsimp only [go_sem, seval, ↓J2 _ _ U6]
  refine cpn m ?_
  simp -implicitDefEqProofs -dsimp only [go_sem, seval, Bool.not_false]
  exact J7 rfl
 have ss : PCalls prog Z1 [.nilptr] (.i .i64 2) := by
  refine K0 N5 q4a (by simp) fun T => ?_
  unfold q1n
  simp -implicitDefEqProofs -dsimp only [go_sem, seval, ↓J2 _ _ U6]
  refine cpn m ?_
  simp -implicitDefEqProofs -dsimp only [go_sem, seval, Bool.not_false]
  exact J7 rfl
 have cc : PCalls prog G7 [.nilptr, .fz 0 [] (some 0)] (.i .i64 2) := by
  refine K0 N5 q6h (by simp) fun T => ?_
  unfold q20
  simp -implicitDefEqProofs -dsimp only [go_sem, seval, ↓J2 _ _ U6]
  refine cpn m ?_
  simp -implicitDefEqProofs -dsimp only [go_sem, seval, Bool.not_false]
  exact J7 rfl
 have ch : PCalls prog q0n [.nilptr] (.tup [.i .i64 0, .agg whZ, .b false, .i .i64 2]) := by
  refine K0 N5 q71 (by simp) fun T => ?_
  have hr := qk6 0
  unfold q3c
  simp -implicitDefEqProofs -dsimp only [go_sem, seval]
  refine N6 (l := q09) rfl (by repeat' (first | exact N4 _ _ | assumption | apply N3 | apply K5 | apply V3)) ?_
  unfold q0j
  simp -implicitDefEqProofs -dsimp only [go_sem, seval, ↓J2 _ _ O1]
  refine cpn hr ?_
  simp -implicitDefEqProofs -dsimp only [go_sem, seval, Bool.not_false]
  exact J7 rfl
 have oo : PCalls prog q0e [.nilptr] (.tup [.nilptr, .fz 0 [] (some 0), .i .i64 2]) := by
  refine K0 N5 q9w (by simp) fun T => ?_
  unfold q6e
  simp -implicitDefEqProofs -dsimp only [go_sem, seval, ↓J2 _ _ q3d]
  refine cpn ch ?_
  simp -implicitDefEqProofs -dsimp only [go_sem, seval, whZ, Bool.not_false]
  exact J7 rfl
 simp only [bts] at aa
 unfold q0o
 simp -implicitDefEqProofs -dsimp only [go_sem, seval, bts, ↓J2 _ _ q6f]
 refine cpn oo ?_
 simp -implicitDefEqProofs -dsimp only [go_sem, seval, ↓J2 _ _ q2j]
 refine cpn aa ?_
 simp -implicitDefEqProofs -dsimp only [go_sem, seval, decide_true, ↓q2z, q3r, true_and, ↓J2 _ _ q4b]
 refine cpn ss ?_
 simp -implicitDefEqProofs -dsimp only [go_sem, seval, decide_true, ↓q2z, q3r, true_and, ↓J2 _ _ q6i]
 refine cpn cc ?_
 simp -implicitDefEqProofs -dsimp only [go_sem, seval, decide_true, ↓q2z, q3r, true_and, ↓J2 _ _ q5r]
 refine cpn gg ?_
 simp -implicitDefEqProofs -dsimp only [go_sem, seval, decide_true, ↓q2z, q3r, true_and, ↓J2 _ _ q92]
 refine cpn rr ?_
 simp -implicitDefEqProofs -dsimp only [go_sem, seval, decide_true, ↓q2z, q3r, true_and, ↓J2 _ _ q0i]
 refine cpn dd ?_
 simp -implicitDefEqProofs -dsimp only [go_sem, seval, decide_true, q56, ↓q2z, q3r, true_and, ↓J2 _ _ q45]
 refine cpn cA ?_
 simp -implicitDefEqProofs -dsimp only [go_sem, seval]
 exact J7 rfl
end Go.Aw
