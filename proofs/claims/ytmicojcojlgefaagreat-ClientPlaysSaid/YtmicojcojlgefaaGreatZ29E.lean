import Derived.Test.YtmicojcojlgefaaGreatZ29C
import Derived.Test.YtmicojcojlgefaaGreatZ29C29X
namespace Go.Aw
open Go
open Go.Proofs.Tryz (prog)
set_option linter.all false
set_option maxHeartbeats 8000000
set_option maxRecDepth 8000
structure LtOk (g : Lt Cf) : Prop where
 f : g.Fine
 r : g.plain.Ref
theorem LtOk.same {g : Lt Cf} (h : LtOk g) : PCalls prog q37 [.agg g.pc, .agg g.pc] (.b true) :=
 z1h g.plain h.r (by have := h.f.vs; show g.vs.length <= 1000; omega) (by have := h.f.cs; show (g.cs.map Cf.plain).length <= 1000; rw [List.length_map]; omega) (by have := h.f.es; show g.es.length <= 1000; omega)
theorem qyo {R : Y5} (hR : ExtR R) {T : Tab} {gs : List (Lt Cf)} (hl : gs.length < 1000000) (hx : ∀ g ∈ gs, LtOk g) : ∀ (us : List (Lt Cf)) (k : Nat), gs.drop k = us -> k <= gs.length ->
  R (.exit 0) [(0, .fz gs.length (gs.flatMap Lt.kc) none), (1, .fz gs.length (gs.flatMap Lt.pc) none), (12, .i .i64 gs.length), (13, .i .i64 gs.length), (14, .b false)] [] T ->
  AW prog q5b R [(0, .fz gs.length (gs.flatMap Lt.kc) none), (1, .fz gs.length (gs.flatMap Lt.pc) none), (12, .i .i64 gs.length), (13, .i .i64 k)] [] T := by
 intro us
 induction us with
 | nil =>
  intro k hk hle h2
  have hk' := O9 hk hle
  refine Q2 hR ?_
  unfold q4l
  simp -implicitDefEqProofs -dsimp only [go_sem, seval, hk', Int.lt_irrefl]
  rw [hk'] at h2
  exact h2
 | cons u us ih =>
  intro k hk hle h2
  obtain ⟨hlt, hy, hk'⟩ := Q5 hk
  have ea := V0 (f := Lt.kc) (z := 26) (fun _ => rfl) hy
  have eb := V0 (f := Lt.pc) (z := 26) (fun _ => rfl) hy
  have e5 : k * 26 + 26 <= (gs.flatMap Lt.kc).length := by rw [K8 (f := Lt.kc) (z := 26) (fun _ => rfl)]; omega
  have e6 : k * 26 + 26 <= (gs.flatMap Lt.pc).length := by rw [K8 (f := Lt.pc) (z := 26) (fun _ => rfl)]; omega
  have hs : IntKind.i64.wrap ((k : Int) + 1) = ((k + 1 : Nat) : Int) := K9 (by omega)
  have ok := hx u (List.mem_of_getElem? hy)
  have c1 : PCalls prog q1c [.agg u.kc] (.agg u.pc) := qus u ok.f
  have c2 := ok.same
  have ta : (u.kc ++ (gs.drop (k + 1)).flatMap Lt.kc).take 26 = u.kc := List.take_left' rfl
  have tb : (u.pc ++ (gs.drop (k + 1)).flatMap Lt.pc).take 26 = u.pc := List.take_left' rfl
  have la : (26 <= (u.kc ++ (gs.drop (k + 1)).flatMap Lt.kc).length) = True := eq_true (by rw [List.length_append]; have : u.kc.length = 26 := rfl; omega)
  have lb : (26 <= (u.pc ++ (gs.drop (k + 1)).flatMap Lt.pc).length) = True := eq_true (by rw [List.length_append]; have : u.pc.length = 26 := rfl; omega)
  have e1 : u.kc.length = 26 := rfl
  have e2 : u.pc.length = 26 := rfl
  have e3 : u.cc = u.kc := rfl
  generalize hA : (u.kc ++ (gs.drop (k + 1)).flatMap Lt.kc) = A at *
  generalize hB : (u.pc ++ (gs.drop (k + 1)).flatMap Lt.pc) = B at *
  generalize u.pc = U at *
  generalize u.kc = V at *
  refine O2 (l := q5b) rfl hR ?_
  unfold q4l
  simp -implicitDefEqProofs -dsimp only [go_sem, seval, Int.ofNat_lt, hlt, Int.natCast_nonneg, Int.toNat_natCast, ea, eb, e5, e6, ta, tb, la, lb, e1, e2, ↓J0 _ _ qbj]
  refine CallK.pure c1 (qk4 (fun _ => ⟨?_, trivial⟩) ?_)
  ·simp -implicitDefEqProofs -dsimp only [go_sem, seval, qdk, gdd, eb, tb, lb]
  simp -implicitDefEqProofs -dsimp only [go_sem, seval, ↓J0 _ _ ql0]
  refine cpn c2 ?_
  simp -implicitDefEqProofs -dsimp only [go_sem, seval, Bool.not_true, hs]
  exact ih (k + 1) hk' hlt h2
theorem qs1 (gs : List (Lt Cf)) (hl : gs.length < 1000000) (hx : ∀ g ∈ gs, LtOk g) : PCalls prog q1m [.fz gs.length (gs.flatMap Lt.kc) none, .fz gs.length (gs.flatMap Lt.pc) none] (.b true) := by
 refine K5 Q7 qgn (by simp) fun T => ?_
 unfold qa9
 simp -implicitDefEqProofs -dsimp only [go_sem, seval, decide_true, Bool.not_true]
 refine qyo (T := T) (gs := gs) (by repeat' (first | exact N5 _ _ | assumption | apply N4 | apply K7 | apply U1)) hl hx gs 0 rfl (Nat.zero_le _) ?_
 simp -implicitDefEqProofs -dsimp only [go_sem, seval]
 exact K1 rfl
end Go.Aw
namespace Go.Aw
open Go
open Go.Proofs.Tryz (prog)
set_option linter.all false
set_option maxHeartbeats 8000000
set_option maxRecDepth 8000
theorem Lt.Arg.ref {l : Lt Rf} (h : l.Arg) : l.ours.plain.Ref := by
 have hf := h.fine
 refine ⟨qn6 hf.vs, ?_, qn6 hf.es, fun c hc => ?_, fun e he => ?_, hf.t, h.t.sq.1, h.sq.1⟩
 ·show Len (l.ours.cs.map Cf.plain).length
  rw [List.length_map]; exact qn6 hf.cs
 ·obtain ⟨r, hr, rfl⟩ := List.mem_map.1 hc
  have e : r.plain.l.length = r.ch.length := r.plain_len
  show Len r.plain.l.length
  rw [e]; exact qn6 (hf.cl r hr).1
 ·refine ⟨hf.et e he, ?_, ?_⟩ <;>
  ·obtain ⟨r, hr, rfl⟩ := List.mem_map.1 he
   have a := h.es r (List.mem_of_mem_take hr)
   first
    | exact a.t.sq.1
    | exact a.sq.1
theorem qt6 {g : Lt Cf} (h1 : g.vs = []) (h2 : g.cs = []) (h3 : g.es = []) (ht : g.t.Fine) (hv : Len g.v.length) (hs : 0 <= g.t.sq) (hq : 0 <= g.sq) : LtOk g := by
 refine ⟨⟨by rw [h1]; decide, by rw [h2]; decide, by rw [h3]; decide, ?_, ?_, ?_, ht, hv⟩, ⟨by show Len g.vs.length; rw [h1]; exact qn6 (m := 1) (by decide), by show Len (g.cs.map Cf.plain).length; rw [h2]; exact qn6 (m := 1) (by decide), by show Len g.es.length; rw [h3]; exact qn6 (m := 1) (by decide), ?_, ?_, ht, hs, hq⟩⟩
 ·rw [h1]; intro _ h; cases h
 ·rw [h2]; intro _ h; cases h
 ·rw [h3]; intro _ h; cases h
 ·intro c hc
  have : c ∈ g.cs.map Cf.plain := hc
  rw [h2] at this; cases this
 ·intro c hc
  have : c ∈ g.es := hc
  rw [h3] at this; cases this
theorem zar (o : Cp) (cl : Int) (sq : Nat) : 0 <= (txn o cl sq).sq := by
 unfold txn; split <;> (try split) <;> (try split) <;> first | exact Int.natCast_nonneg _ | exact (by decide : (0 : Int) <= 0)
theorem z22 {c : Cl} {o : Cp} {t : Int} (ho : o.Fine) : ∀ g ∈ qp8 c o t, LtOk g := by
 have z0 : Len (0 : Nat) := by unfold Len; omega
 have hf : LtOk (fsL c o t) := by
  unfold fsL
  split
  ·exact qt6 rfl rfl rfl zTf ho.key (Int.le_refl _) (Int.natCast_nonneg _)
  ·exact qt6 rfl rfl rfl (qie ho _ _) z0 (zar ..) (Int.le_refl _)
 intro g hg
 unfold qp8 at hg
 rcases List.mem_cons.1 hg with rfl | hg
 ·exact hf
 split at hg
 ·simp only [List.mem_singleton] at hg
  subst hg
  exact qt6 rfl rfl rfl zTf z0 (Int.le_refl _) (Int.le_refl _)
 ·cases hg
theorem z4b {c : Cl} {o : Cp} (ho : o.Fine) : (∀ g ∈ (qaj c o).1.2, LtOk g) /\ (qaj c o).1.2.length < 1000000 := by
 unfold qaj
 split
 ·exact ⟨fun _ h => (by cases h), (show (0 : Nat) < 1000000 by decide)⟩
 split
 ·exact ⟨fun _ h => (by cases h), (show (0 : Nat) < 1000000 by decide)⟩
 split
 ·exact ⟨fun _ h => (by cases h), (show (0 : Nat) < 1000000 by decide)⟩
 ·exact ⟨z22 ho, by unfold qp8; simp only [List.length_cons]; split <;> simp⟩
theorem z4c {c : Cl} (hk : c.Ok) : (∀ g ∈ (qfk c).2, LtOk g) /\ (qfk c).2.length < 1000000 := by
 unfold qfk
 rcases hw : c.w with _ | ⟨o, t⟩
 ·exact ⟨fun _ h => (by cases h), (show (0 : Nat) < 1000000 by decide)⟩
 ·exact ⟨z22 (hk.w _ hw).1.1, by unfold qp8; simp only [List.length_cons]; split <;> simp⟩
theorem Ct.norm {T : Tab} {id r l w x : Nat} {c : Cl} (h : Ct T id r l w x c) : ∃ w2, Ct T id r l w2 x c /\ (c.w = none -> w2 = id) /\ (w2 = w \/ w2 = id) := by
 rcases hw : c.w with _ | o
 ·refine ⟨id, ⟨?_, h.rt, fun o ho => (by rw [hw] at ho; cases ho), h.cy⟩, fun _ => rfl, .inr rfl⟩
  have := h.cr
  rw [this]
  simp only [qb3, hw, qcg]
 ·exact ⟨w, h, fun h2 => (by cases h2), .inl rfl⟩
theorem Dc.keep {T T' : Tab} {id rt : Nat} {c : Cl} (h : Dc T id rt c) (hk : ∀ j z xs, T j = .row z xs -> z ≠ 5 -> z ≠ 6 -> z ≠ 8 -> T' j = T j) : Dc T' id rt c := by
 obtain ⟨⟨rc, hT, e⟩, m, hR, hm⟩ := h
 exact ⟨⟨rc, by rw [hk id 18 _ hT (by decide) (by decide) (by decide)]; exact hT, e⟩, m, hR.keepS fun j z xs hj hz => hk j z xs hj (by omega) (by omega) (by omega), hm⟩
theorem Ct.kept {T T' : Tab} {id r l w x : Nat} {c : Cl} (h : Ct T id r l w x c) (hn : c.w = none -> w = id) {fp new : List Nat} (hf : Fr fp new T T') (hs : ∀ j ∈ fp, j = id \/ j = w \/ j = l) : ∀ j z xs, T j = .row z xs -> z ≠ 5 -> z ≠ 6 -> z ≠ 8 -> T' j = T j := fun j z xs hj h5 h6 h8 => by
 refine hf.1 j (by rw [hj]; simp) fun hm => ?_
 have hid : j = id -> False := fun e => by subst e; rw [h.cr] at hj; injection hj with e1; omega
 rcases hs j hm with e | e | e
 ·exact hid e
 ·rcases hw : c.w with _ | o
  ·exact hid (e.trans (hn hw))
  ·subst e; rw [h.cw _ hw] at hj; injection hj with e1; omega
 ·subst e; rw [h.rt.2] at hj; injection hj with e1; omega
theorem Ct.kept18 {T T' : Tab} {id r l w x did rt : Nat} {c c' : Cl} (h : Ct T id r l w x c) (hD : Dc T did rt c') (hr : r ≠ rt) (hf : Fr [did, rt] [] T T') : Ct T' id r l w x c := by
 obtain ⟨⟨rc, hT, e⟩, m, ⟨rL, hR, _⟩, hm⟩ := hD
 have hk : ∀ j z xs, T j = .row z xs -> (z = 5 \/ z = 6 \/ z = 8) -> T' j = T j := fun j z xs hj hz => by
  refine hf.1 j (by rw [hj]; simp) fun hm => ?_
  simp only [List.mem_cons, List.not_mem_nil, or_false] at hm
  rcases hm with e | e
  ·subst e; rw [Rc.rowE] at hT; rw [hT] at hj; injection hj with e1; omega
  ·subst e; rw [hR] at hj; injection hj with e1; omega
 refine ⟨by rw [hk _ _ _ h.cr (by omega)]; exact h.cr, ⟨?_, by rw [hk _ _ _ h.rt.2 (by omega)]; exact h.rt.2⟩, fun o ho => (by rw [hk _ _ _ (h.cw o ho) (by omega)]; exact h.cw o ho), fun y hy => ?_⟩
 ·have h1 := h.rt.1
  rw [hf.1 r (by rw [h1]; simp) (fun hm => ?_)]
  ·exact h1
  simp only [List.mem_cons, List.not_mem_nil, or_false] at hm
  rcases hm with e | e
  ·subst e; rw [Rc.rowE] at hT; rw [hT] at h1; injection h1 with e1; omega
  ·exact hr e
 ·obtain ⟨h1, h2⟩ := h.cy y hy
  exact ⟨by rw [hk _ _ _ h1 (by omega)]; exact h1, h2⟩
structure Bo (T : Tab) (id r l w x did rt : Nat) (c : Cl) : Prop where
 p : Ct T id r l w x c
 n : c.w = none -> w = id
 d : Dc T did rt c
 r : r ≠ rt
theorem Bo.step {T T1 T2 : Tab} {id r l w x did rt : Nat} {c c1 : Cl} (h : Bo T id r l w x did rt c) {w1 x1 : Nat} {fp new : List Nat} (h1 : Ct T1 id r l w1 x1 c1) (hf : Fr fp new T T1) (hs : ∀ j ∈ fp, j = id \/ j = w \/ j = l) (hw : w1 = w \/ w1 ∈ new)
  (hd : Dc T1 did rt c -> Dc T2 did rt c1 /\ Fr [did, rt] [] T1 T2) : ∃ w2, Bo T2 id r l w2 x1 did rt c1 /\ Fr [id, w, l, did, rt] [w2] T T2 := by
 have hd1 := h.d.keep (h.p.kept h.n hf hs)
 obtain ⟨hd2, hf2⟩ := hd hd1
 have hp2 := h1.kept18 hd1 h.r hf2
 obtain ⟨w2, hp3, hn3, hw2⟩ := hp2.norm
 refine ⟨w2, ⟨hp3, hn3, hd2, h.r⟩, fun j hj hm => ?_, fun j hj => ?_⟩
 ·simp only [List.mem_cons, List.not_mem_nil, or_false, not_or] at hm
  have e1 : T1 j = T j := hf.1 j hj fun hm2 => by
   rcases hs j hm2 with e | e | e
   ·exact hm.1 e
   ·exact hm.2.1 e
   ·exact hm.2.2.1 e
  rw [hf2.1 j (by rw [e1]; exact hj) (by simp [hm.2.2.2.1, hm.2.2.2.2]), e1]
 ·simp only [List.mem_singleton] at hj
  subst hj
  rcases hw2 with e | e
  ·rcases hw with e2 | e2
   ·exact .inl (by simp [e, e2])
   ·rcases hf.2 w1 e2 with h3 | h3
    ·rcases hs w1 h3 with e4 | e4 | e4 <;> exact .inl (by simp [e, e4])
    ·exact .inr (by rw [e]; exact h3)
  ·exact .inl (by simp [e])
end Go.Aw
