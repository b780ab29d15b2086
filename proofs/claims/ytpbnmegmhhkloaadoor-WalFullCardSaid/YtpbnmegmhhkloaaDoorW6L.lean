import Derived.Test.YtpbnmegmhhkloaaDoorW6K
namespace Go.Aw
open Go
open Go.Proofs.Tryd (prog)
set_option linter.all false
set_option maxHeartbeats 8000000
set_option maxRecDepth 8000
theorem qef {T0 Ta : Tab} {z n did lid : Nat} {v : AV} {xs : List AV} {d : Dk} {w : Wl} (h : Own T0 z v n xs Ta) (h1 : ∀ j, T0 j = .unused -> Ta j ≠ .unused -> j ≠ did /\ j ≠ lid) : Own (tL T0 did lid d w) z v n xs (tL Ta did lid d w) := by
 refine ⟨h.1, ?_⟩
 rcases h.2 with ⟨e1, e2, rfl⟩ | ⟨j, e1, e2, rfl⟩
 ·exact .inl ⟨e1, e2, rfl⟩
 ·obtain ⟨n1, n2⟩ := h1 j e2 (by rw [Tab.put_same]; simp)
  refine .inr ⟨j, e1, ?_, ?_⟩
  ·unfold tL; rw [Tab.put_ne _ _ n2, Tab.put_ne _ _ n1]; exact e2
  ·unfold tL
   rw [Tab.put_comm _ n1, Tab.put_comm _ n2]
theorem qfy {T0 T2 : Tab} {z n did lid : Nat} {v : AV} {xs : List AV} {d : Dk} {w : Wl} (h : Own (tL T0 did lid d w) z v n xs T2) (hd : T0 did ≠ .unused) (hl : T0 lid ≠ .unused) : ∃ Ta, T2 = tL Ta did lid d w /\ Own T0 z v n xs Ta := by
 obtain ⟨h0, h2⟩ := h
 rcases h2 with ⟨e1, e2, rfl⟩ | ⟨j, e1, e2, rfl⟩
 ·exact ⟨T0, rfl, h0, .inl ⟨e1, e2, rfl⟩⟩
 ·unfold tL qr2 at e2
  obtain ⟨n2, e2⟩ := Tab.unused_put e2
  obtain ⟨n1, e2⟩ := Tab.unused_put e2
  refine ⟨T0.put j (.row z xs), ?_, h0, .inr ⟨j, e1, e2, rfl⟩⟩
  unfold tL
  rw [Tab.put_comm _ n1, Tab.put_comm _ n2]
theorem qj3 {T0 Ta : Tab} {z n did lid : Nat} {v : AV} {xs : List AV} (h : Own T0 z v n xs Ta) (hd : T0 did ≠ .unused) (hl : T0 lid ≠ .unused) : ∀ j, T0 j = .unused -> Ta j ≠ .unused -> j ≠ did /\ j ≠ lid := fun j h1 _ => ⟨fun e => by subst e; exact hd h1, fun e => by subst e; exact hl h1⟩
theorem qtk {e : Env} {L : Loc} {T T1 : Tab} {z n : Nat} {v : AV} {xs : List AV} {K : Env -> Loc -> Tab -> Prop} {h : Hold K} (hg : Gr T z v n xs T1) (hk : ∀ S cap, (∀ id ∈ S, T id = .unused) -> frX T1 S v = .fz n xs cap -> K (frE T1 S e) L T) : gzS e L T1 h := by
 rcases hg with ho | ⟨rfl, h2, rfl⟩
 ·obtain ⟨S, k1, k2, k3, k4⟩ := (Owns.one ho).fin
  refine ql6 S k1 (fun id hid => (k2 id hid).1) ?_
  rw [k3]
  obtain ⟨cap, hc⟩ := k4 _ (List.mem_cons_self ..)
  exact hk S cap (fun id hid => (k2 id hid).2) (by rw [ho.frX]; exact hc)
 ·refine ql6 [] List.nodup_nil (by simp) ?_
  exact hk [] (some n) (by simp) rfl
theorem qna {T0 Ta T2 : Tab} {z n : Nat} {v : AV} {xs : List AV} {S : List Nat} (h : Own T0 z v n xs Ta) (hS : ∀ id ∈ S, Ta id = .unused) : frX T2 S v = v := by
 rcases h.2 with ⟨rfl, _⟩ | ⟨j, rfl, e2, rfl⟩
 ·rfl
 ·have hj : j ∉ S := fun hm => by have := hS j hm; rw [Tab.put_same] at this; cases this
  simp [frX, qdq, q5b, q78, hj]
theorem qnb {T : Tab} {S : List Nat} {n : Nat} {c : List AV} {k : Option Nat} : frX T S (.fz n c k) = .fz n c k := rfl
structure Fu (d : Dk) (all : List Bs) (r : Int) : Prop where
 un : Un d
 room : d.room = r
 a0 : d.a0.b = q1i (V5 1 0 :: all)
 a1 : d.a1.b = []
 left : d.left = 0
 recs : ∀ q ∈ all, okF q
theorem qr8 {d : Dk} {all : List Bs} {r : Int} (h : Fu d all r) {q : Bs} (hq : okF q) : ((qe9 d w0 q).1 = 0 /\ (qe9 d w0 q).2.2 = w0 /\ Fu (qe9 d w0 q).2.1 (all ++ [q]) r) \/ qe9 d w0 q = (9, d, w0) := by
 obtain ⟨h1, h2, h3, h4, h5, h6⟩ := h
 have hok : q9i q = true := by unfold q9i; rw [decide_eq_true hq.1, decide_eq_true hq.2]; rfl
 unfold qe9
 rw [if_neg (by decide), hok, if_neg (by decide)]
 show ((d.append 0 (frm q)).1 = 0 /\ q3l (d.append 0 (frm q)).1 w0 = w0 /\ Fu (d.append 0 (frm q)).2 _ _) \/ ((d.append 0 (frm q)).1, (d.append 0 (frm q)).2, q3l (d.append 0 (frm q)).1 w0) = _
 by_cases hf : ((d.get 0).b.length : Int) + (frm q).length + (d.get (1 - 0)).b.length <= d.room
 ·obtain ⟨e1, e2⟩ := h1.append (.inl rfl) hf
  left
  rw [e1]
  refine ⟨rfl, qky _, e2, h2, ?_, h4, h5, fun x hx => ?_⟩
  ·show d.a0.b ++ frm q = _
   rw [h3, U9, U9, q8t, q43, List.append_assoc]
  ·rcases List.mem_append.1 hx with hx | hx
   ·exact h6 x hx
   ·rw [List.mem_singleton.1 hx]; exact hq
 ·right
  rw [h1.full (.inl rfl) hf]
  rfl
theorem qnc {d : Dk} {all : List Bs} {r : Int} (h : Fu d all r) (hn : all.length < 1000) : (V0 d).2.1 = all := by
 have hok : ∀ x ∈ V5 1 0 :: all, okF x := fun x hx => by
  rcases List.mem_cons.1 hx with rfl | hx
  ·exact (q6p (by decide) (by decide)).1
  ·exact h.recs x hx
 have hr := qdk (g := 1) (n := 0) (rs := all) (by decide) (Nat.zero_le _) (by omega) h.recs qcb
 rw [List.append_nil] at hr
 have hc := qa9 (d := d) (k := 0) (.inl rfl) (by show U0 d.a0.b = _; rw [h.a0]; exact hr) (by show U0 d.a1.b = _; rw [h.a1]; exact qb7)
 unfold V0
 rw [hc]
theorem qnd {d : Dk} {all : List Bs} {r : Int} (h : Fu d all r) : (q7n d w0).1 = 0 /\ (q7n d w0).2.2 = w0 /\ Fu (q7n d w0).2.1 all r := by
 obtain ⟨h1, h2, h3, h4, h5, h6⟩ := h
 obtain ⟨e1, e2⟩ := h1.sync (k := 0) (.inl rfl)
 unfold q7n
 rw [if_neg (by decide)]
 show (d.sync 0).1 = 0 /\ q3l (d.sync 0).1 w0 = w0 /\ Fu (d.sync 0).2 _ _
 rw [e1]
 exact ⟨rfl, qky _, e2, h2, h3, h4, h5, h6⟩
theorem qne {R : Z2} (hR : ExtR R) {T0 : Tab} {did lid : Nat} (hne : did ≠ lid) (hd : T0 did ≠ .unused) (hl0 : T0 lid ≠ .unused) {r : Int} {l : List (Bs × Option Nat)} {cap : Option Nat} (hl : Len l.length) (hlr : ∀ x ∈ l, Len x.1.length) : ∀ (ys : List (Bs × Option Nat)) (k : Nat), l.drop k = ys -> k <= l.length -> k <= 15 -> ∀ (d : Dk) (all : List (Bs × Option Nat)) (va : AV) (Ta : Tab),
  Fu d (all.map (·.1)) r -> all.length <= k -> Own T0 1 va all.length (btK all) Ta ->
  (∀ d all va Ta tail, Fu d (all.map (·.1)) r -> all.length <= 15 -> Own T0 1 va all.length (btK all) Ta -> R (.exit 0) ((5, .ptr did 0) :: (6, .ptr lid 0) :: (8, .i .i64 0) :: (9, va) :: tail) [] (tL Ta did lid d w0)) ->
  AW prog Y6 R [(5, .ptr did 0), (6, .ptr lid 0), (8, .i .i64 0), (9, va), (27, .fz l.length (btK l) cap), (28, .i .i64 l.length), (29, .i .i64 k)] [] (tL Ta did lid d w0) := by
 unfold Len at hl
 intro ys
 induction ys with
 | nil =>
  intro k hk hle h15 d all va Ta hfu hn ho h2
  have hk' := q3v hk hle
  obtain ⟨p1, p2, p3, p4, p5, p6⟩ := ho.form
  refine q2i hR ?_
  unfold V9
  simp -implicitDefEqProofs -dsimp only [go_sem, seval, hk', Int.lt_irrefl, p1, p2, p3, p4, p5, p6]
  exact h2 d all va Ta _ hfu (by omega) ho
 | cons y ys ih =>
  intro k hk hle h15 d all va Ta hfu hn ho h2
  obtain ⟨hlt, hy, hk'⟩ := q8c hk
  have hws : IntKind.i64.wrap ((k : Int) + 1) = ((k + 1 : Nat) : Int) := q08 (by omega)
  have hc := qqu hy
  obtain ⟨p1, p2, p3, p4, p5, p6⟩ := ho.form
  have hy1 := hlr y (List.mem_of_getElem? hy)
  simp only [bts] at hc
  refine N5 (l := Y6) rfl hR ?_
  unfold V9
  by_cases h88 : 15 <= k
  ·have d8 : decide ((15 : Int) <= k) = true := decide_eq_true (by omega)
   simp -implicitDefEqProofs -dsimp only [go_sem, seval, Int.ofNat_lt, hlt, Int.natCast_nonneg, Int.toNat_natCast, Nat.mul_one, hc, d8, p1, p2, p3, p4, p5, p6]
   exact h2 d all va Ta _ hfu (by omega) ho
  have d8 : decide ((15 : Int) <= k) = false := decide_eq_false (by omega)
  have cC := qr5 y.1 y.2 hy1
  obtain ⟨m, hm⟩ : ∃ m, m = y.1.take 40 := ⟨_, rfl⟩
  have lm : m.length <= 40 := by rw [hm, List.length_take]; omega
  rw [<- hm] at cC
  obtain ⟨q, hq⟩ : ∃ q : Bs, q = 7 :: m := ⟨_, rfl⟩
  have lq : q.length = 1 + m.length := by rw [hq, List.length_cons]; omega
  have okq : okF q := ⟨by omega, by omega⟩
  have hd2 : (tL Ta did lid d w0) did ≠ .unused := by rw [qfv hne]; simp
  have hl2 : (tL Ta did lid d w0) lid ≠ .unused := by rw [qbd]; simp
  have hoT : Own (tL T0 did lid d w0) 1 va all.length (btK all) (tL Ta did lid d w0) := qef ho (qj3 ho hd hl0)
  simp only [bts] at cC
  simp -implicitDefEqProofs -dsimp only [go_sem, seval, Int.ofNat_lt, hlt, Int.natCast_nonneg, Int.toNat_natCast, Nat.mul_one, hc, d8, p1, p2, p3, p4, p5, p6, ↓J2 _ _ q5x]
  refine cpn cC ?_
  have hg : Gr (tL Ta did lid d w0) 1 (.fz 1 (J1 [7]) (some 1)) 1 (J1 [7]) (tL Ta did lid d w0) := .inr ⟨rfl, rfl, rfl⟩
  simp -implicitDefEqProofs -dsimp only [go_sem, seval, p1, p2, p3, p4, p5, p6]
  refine hg.app0 (m := m.length) (q0f m none) rfl (by omega) (by omega) fun v' T2 hg2 => J7 ?_
  obtain ⟨g1, g2, g3, g4, g5, g6⟩ := hg2.form
  have hbq : J1 [7] ++ J1 m = J1 q := by rw [U5, hq]; rfl
  rw [hbq, <- lq] at hg2
  simp -implicitDefEqProofs -dsimp only [go_sem, seval, p1, p2, p3, p4, p5, p6, g1, g2, g3, g4, g5, g6]
  refine qtk hg2 fun S cq hS hv => ?_
  have f1 : frX T2 S (.ptr did 0) = .ptr did 0 := qhf fun hm => hd2 (hS _ hm)
  have f2 : frX T2 S (.ptr lid 0) = .ptr lid 0 := qhf fun hm => hl2 (hS _ hm)
  have f3 : frX T2 S va = va := qna hoT hS
  simp only [frE, f1, f2, f3, hv, qt6, qnb]
  have hA := qj1 (T := Ta) hne (w := w0) (hfu.un.dw (by rw [hfu.left]; decide)) q cq (by omega)
  simp only [bts] at hA
  rcases qr8 hfu okq with ⟨e1, e2, e3⟩ | e
  ·rw [e1, e2] at hA
   generalize (qe9 d w0 q).2.1 = d' at *
   simp -implicitDefEqProofs -dsimp only [go_sem, seval, p1, p2, p3, p4, p5, p6, ↓J2 _ _ q11]
   refine can hA ?_
   have hoD : Own (tL T0 did lid d' w0) 1 va all.length (btK all) (tL Ta did lid d' w0) := qef ho (qj3 ho hd hl0)
   simp -implicitDefEqProofs -dsimp only [go_sem, seval, decide_true, p1, p2, p3, p4, p5, p6]
   refine hoD.app (m := 1) (news := [.fz q.length (J1 q) cq]) rfl rfl (by omega) (by omega) fun v2 T3 ho3 => J7 ?_
   obtain ⟨Ta', rfl, ho4⟩ := qfy ho3 hd hl0
   obtain ⟨r1, r2, r3, r4, r5, r6⟩ := ho4.form
   simp -implicitDefEqProofs -dsimp only [go_sem, seval, r1, r2, r3, r4, r5, r6, hws]
   have e3' : Fu d' ((all ++ [(q, cq)]).map (·.1)) r := by rw [List.map_append]; exact e3
   have ho5 : Own T0 1 v2 (all ++ [(q, cq)]).length (btK (all ++ [(q, cq)])) Ta' := by
    rw [List.length_append, <- qfr]; exact ho4
   exact ih (k + 1) hk' hlt (by omega) d' (all ++ [(q, cq)]) v2 Ta' e3' (by rw [List.length_append, List.length_singleton]; omega) ho5 h2
  ·rw [e] at hA
   simp -implicitDefEqProofs -dsimp only [go_sem, seval, p1, p2, p3, p4, p5, p6, ↓J2 _ _ q11]
   refine can hA ?_
   simp -implicitDefEqProofs -dsimp only [go_sem, seval, decide_true, Bool.not_true, p1, p2, p3, p4, p5, p6, hws]
   exact ih (k + 1) hk' hlt (by omega) d all va Ta hfu (by omega) ho h2
theorem qfz (rm : Int) (hr : 0 <= rm /\ rm < 256) (l : List (Bs × Option Nat)) (cap : Option Nat) (hl : Len l.length) (hlr : ∀ x ∈ l, Len x.1.length) : PCalls prog q0g [.i .u8 rm, .fz l.length (btK l) cap] (.b true) := by
 refine K6 O5 q30 (by simp) fun T => ?_
 have cA := qj2
 have w1 : IntKind.i64.wrap rm = rm := K7 (by unfold I64; omega)
 have w2 : IntKind.i64.wrap (20 + rm) = 20 + rm := K7 (by unfold I64; omega)
 have hN := qiq (20 + rm) T
 have hnew : Dk.new (20 + rm) = ⟨20 + rm, ⟨[], some 0, 0⟩, ⟨[], some 0, 0⟩, false, false, 0⟩ := by
  unfold Dk.new
  rw [show min (max (20 + rm) 0) 1048576 = 20 + rm by omega]
 have u0 : Un (Dk.new (20 + rm)) := ⟨Dk.new_ok _, rfl, rfl⟩
 have hop := qec (r := 20 + rm) (by omega) (by omega)
 obtain ⟨d1, hd1⟩ : ∃ d1 : Dk, d1 = ⟨20 + rm, ⟨frm (V5 1 0), none, 10⟩, ⟨[], some 0, 0⟩, false, false, 0⟩ := ⟨_, rfl⟩
 rw [<- hd1, show (⟨0, 1, false⟩ : Wl) = w0 from rfl] at hop
 have hf0 : (10 : Int) + (Dk.new (20 + rm)).a1.b.length <= (Dk.new (20 + rm)).room := by
  rw [hnew]; show (10 : Int) + ((0 : Nat) : Int) <= 20 + rm; omega
 have hfu : Fu d1 (([] : List (Bs × Option Nat)).map (·.1)) (20 + rm) := by
  have hA := qfu u0 hf0
  rw [hop] at hA
  obtain ⟨w, h1, _⟩ := hA
  rw [hd1] at h1 ⊢
  exact ⟨h1, rfl, by rw [List.map_nil, q43], rfl, rfl, fun _ h => by cases h⟩
 unfold q0h
 simp -implicitDefEqProofs -dsimp only [go_sem, seval, w1, w2, ↓J2 _ _ qa3]
 refine CallK.of hN fun v T1 hv => J7 ?_
 obtain ⟨did, rfl, hdid, rfl⟩ := hv
 have hO := qbb (T := T.put did (.row 8 (Dk.new (20 + rm)).cells)) (did := did) u0 (show (0 : Int) <= 9223372036854775807 by decide) (Tab.put_same ..) hf0
 unfold opQ at hO
 rw [hop] at hO
 simp only [btL, List.map_nil, List.length_nil] at hO
 simp -implicitDefEqProofs -dsimp only [go_sem, seval, ↓J2 _ _ q3z]
 refine CallK.of hO fun v T2 hv => J7 ?_
 obtain ⟨lid, rfl, hlid, hne, rfl⟩ := hv
 have hle1 : TabLe T (tL (T.put did (.row 8 (Dk.new (20 + rm)).cells)) did lid d1 w0) := qtj ((TabLe.refl T).put hdid) hdid hlid
 have hlu : T lid = .unused := (Tab.unused_put hlid).2
 have hself : tL (tL (T.put did (.row 8 (Dk.new (20 + rm)).cells)) did lid d1 w0) did lid d1 w0 = tL (T.put did (.row 8 (Dk.new (20 + rm)).cells)) did lid d1 w0 := qn5 hne d1 w0 (qfv hne _ _) (qbd _ _)
 have hd2 : (tL (T.put did (.row 8 (Dk.new (20 + rm)).cells)) did lid d1 w0) did ≠ .unused := by rw [qfv hne]; simp
 have hl2 : (tL (T.put did (.row 8 (Dk.new (20 + rm)).cells)) did lid d1 w0) lid ≠ .unused := by rw [qbd]; simp
 generalize tL (T.put did (.row 8 (Dk.new (20 + rm)).cells)) did lid d1 w0 = T0 at *
 have key := fun (R : Z2) (hR : ExtR R) => qne (R := R) hR (T0 := T0) hne hd2 hl2 (r := 20 + rm) (l := l) (cap := cap) hl hlr l 0 rfl (Nat.zero_le _) (Nat.zero_le _) d1 [] (.fz 0 [] (some 0)) T0 hfu (Nat.le_refl _) (Own.nil T0 1)
 rw [hself] at key
 simp -implicitDefEqProofs -dsimp only [go_sem, seval]
 refine key _ (by repeat' (first | exact N3 _ _ | assumption | apply N2 | apply K2 | apply U6)) (fun d all va Ta tail hfu hn ho => ?_)
 obtain ⟨s1, s2, s3⟩ := qnd hfu
 have hS := qee (T := Ta) hne (w := w0) (hfu.un.dw (by rw [hfu.left]; decide))
 rw [s1, s2] at hS
 generalize (q7n d w0).2.1 = d' at *
 have hO2 := qbb (T := tL Ta did lid d' w0) (did := did) s3.un (by rw [s3.left]; decide) (qfv hne _ _) (by rw [s3.a1, s3.room]; show (10 : Int) + ((0 : Nat) : Int) <= 20 + rm; omega)
 unfold opQ at hO2
 rw [qnc s3 (by rw [List.length_map]; omega)] at hO2
 obtain ⟨p1, p2, p3, p4, p5, p6⟩ := ho.form
 simp -implicitDefEqProofs -dsimp only [go_sem, seval, p1, p2, p3, p4, p5, p6, ↓J2 _ _ q4c]
 refine can hS ?_
 simp -implicitDefEqProofs -dsimp only [go_sem, seval, p1, p2, p3, p4, p5, p6, ↓J2 _ _ q3z]
 refine CallK.of hO2 fun v T3 hv => J7 ?_
 obtain ⟨lid2, rfl, hlid2, hne2, rfl⟩ := hv
 have hoF : Own (tL (tL T0 did lid d' w0) did lid2 (V0 d').2.2 (V0 d').1) 1 va all.length (btK all) (tL (tL Ta did lid d' w0) did lid2 (V0 d').2.2 (V0 d').1) := by
  refine qef (qef ho (qj3 ho hd2 hl2)) fun j q1 q2 => ⟨fun e => ?_, fun e => ?_⟩
  ·subst e; rw [qfv hne] at q1; cases q1
  ·subst e; exact q2 hlid2
 have hle : TabLe T (tL (tL Ta did lid d' w0) did lid2 (V0 d').2.2 (V0 d').1) := by
  have h1 : TabLe T (tL Ta did lid d' w0) := TabLe.tL (hle1.trans ho.tabLe) hdid hlu
  exact TabLe.tL h1 hdid (h1.unused hlid2)
 generalize tL (tL Ta did lid d' w0) did lid2 (V0 d').2.2 (V0 d').1 = T4 at *
 generalize hB : tL (tL T0 did lid d' w0) did lid2 (V0 d').2.2 (V0 d').1 = B at *
 have cS := qmp (all.map (·.1)) (all.map (·.1)) none none (by unfold Len; rw [List.length_map]; omega) (by unfold Len; rw [List.length_map]; omega)
 rw [decide_eq_true rfl, List.length_map] at cS
 rw [List.length_map]
 simp -implicitDefEqProofs -dsimp only [go_sem, seval, decide_true, p1, p2, p3, p4, p5, p6, ↓q6i, q5c, true_and, ↓J2 _ _ q4r]
 refine CallK.borrow (r := .b true) (Owns.one hoF) (fun S hS => ?_) .b (J7 ?_)
 ·obtain ⟨cc, hcc⟩ := hS _ (List.mem_cons_self ..)
  have hv : q5b T4 S va = .fz all.length (btK all) cc := by rw [hoF.frzv]; exact hcc
  have hz : q5b T4 S (.fz all.length (btL (all.map (·.1))) none) = .fz all.length (btL (all.map (·.1))) none := rfl
  simp only [List.map_cons, List.map_nil, hv, hz]
  exact cS.wk (Wks.cons (.refl _) (Wks.one (Wk.fzs (qle all))))
 simp -implicitDefEqProofs -dsimp only [go_sem, seval, decide_true, ↓q6i, q5c, true_and, ↓J2 _ _ q46]
 refine cpn cA ?_
 simp -implicitDefEqProofs -dsimp only [go_sem, seval]
 exact hle.fin
end Go.Aw
