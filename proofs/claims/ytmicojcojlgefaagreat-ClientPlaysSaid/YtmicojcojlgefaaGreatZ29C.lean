import Derived.Test.YtmicojcojlgefaaGreatZ29B
namespace Go.Aw
open Go
open Go.Proofs.Tryz (prog)
set_option linter.all false
set_option maxHeartbeats 8000000
set_option maxRecDepth 8000
theorem z6x (m : Lt Cf) : m.plain.k = m.k := rfl
theorem qyn (m : Lt Cf) : m.plain.fk = m.fk := rfl
theorem quw (m : Lt Cf) : m.plain.tk = m.tk := rfl
theorem qux (m : Lt Cf) : m.plain.tn = m.tn := rfl
theorem z6y (m : Lt Cf) : m.plain.cl = m.cl := rfl
theorem z6z (m : Lt Cf) : m.plain.sq = m.sq := rfl
theorem zf1 (m : Lt Cf) : m.plain.n = m.n := rfl
theorem ze2 (m : Lt Cf) : m.plain.co = m.co := rfl
theorem zf2 (m : Lt Cf) : m.plain.v = m.v := rfl
theorem zf3 (m : Lt Cf) : m.plain.q = m.q := rfl
theorem ze3 (m : Lt Cf) : m.plain.cs = m.cs.map Cf.plain := rfl
theorem Dc.learn {T T' : Tab} {id rt : Nat} {c : Cl} {l' : List Cf} (h : Dc T id rt c) (hne : id ≠ rt) (hR : ∃ m, RRt T' rt m /\ m.map (·.1) = l') (hk : ∀ j, j ≠ rt -> T j ≠ .unused -> T' j = T j) : Dc T' id rt { c with l := l' } := by
 obtain ⟨⟨rc, hT, e⟩, _⟩ := h
 exact ⟨⟨rc, by rw [hk id hne (by rw [hT]; simp [Rc.row])]; exact hT, ⟨e.1, e.2, e.3, e.4, e.5, e.6, e.7, e.8⟩⟩, hR⟩
theorem Dc.ne {T : Tab} {id rt : Nat} {c : Cl} (h : Dc T id rt c) : id ≠ rt := by
 obtain ⟨⟨rc, hT, e⟩, m, ⟨rL, h1, _⟩, _⟩ := h
 exact qoi hT h1 (by decide)
theorem z4a {R : Y5} (hR : ExtR R) {id rt : Nat} {T0 : Tab} {m : Lt Cf} (hl : m.cs.length < 1000000) (hc : ∀ c ∈ m.cs, c.ch.length <= 1000 /\ c.fu.length = c.ch.length) : ∀ (us : List Cf) (k : Nat), m.cs.drop k = us -> k <= m.cs.length -> ∀ (c : Cl) (T : Tab), 1 <= c.l.length /\ c.l.length <= 4 -> Dc T id rt c -> Fr [id, rt] [] T0 T ->
  (∀ T, Dc T id rt { c with l := lnL c.l us } -> Fr [id, rt] [] T0 T -> R (.exit 0) [(0, .ptr id 0), (3, .lp 3 0), (36, .fz m.cs.length ((m.cs.map Cf.plain).flatMap rfL) none), (37, .i .i64 m.cs.length), (38, .i .i64 m.cs.length), (39, .b false)] [(3, m.pc)] T) ->
  AW prog q3a R [(0, .ptr id 0), (3, .lp 3 0), (36, .fz m.cs.length ((m.cs.map Cf.plain).flatMap rfL) none), (37, .i .i64 m.cs.length), (38, .i .i64 k)] [(3, m.pc)] T := by
 intro us
 induction us with
 | nil =>
  intro k hk hle c T hn hD hf h2
  have hk' := O9 hk hle
  refine Q2 hR ?_
  unfold q2w
  simp -implicitDefEqProofs -dsimp only [go_sem, seval, hk', Int.lt_irrefl]
  rw [hk'] at h2
  exact h2 T hD hf
 | cons u us ih =>
  intro k hk hle c T hn hD hf h2
  obtain ⟨hlt, hy, hk'⟩ := Q5 hk
  have ea := V0 (f := rfL) (z := 4) (fun _ => rfl) (l := m.cs.map Cf.plain) (k := k) (x := u.plain) (by rw [List.getElem?_map, hy]; rfl)
  have e5 : k * 4 + 4 <= ((m.cs.map Cf.plain).flatMap rfL).length := by rw [K8 (z := 4) (fun _ => rfl), List.length_map]; omega
  have hs : IntKind.i64.wrap ((k : Int) + 1) = ((k + 1 : Nat) : Int) := K9 (by omega)
  have hu := hc u (List.mem_of_getElem? hy)
  have hne := hD.ne
  have hD0 := hD
  obtain ⟨⟨rc, hT, e1, e2, e3, e4, e5', e6, e7, e8⟩, l, hRt, hlm⟩ := hD
  rw [Rc.rowE, e3] at hT
  have hll : l.length = c.l.length := by rw [<- hlm, List.length_map]
  have hac := z10 hRt u none hu.2 (by unfold Len; omega) (by omega)
  rw [hlm] at hac
  have er : (rfL u.plain ++ ((m.cs.map Cf.plain).drop (k + 1)).flatMap rfL).take 4 = u.plain.cells none := List.take_left' rfl
  have el : (rfL u.plain).length = 4 := rfl
  have e6' : (4 <= (rfL u.plain ++ ((m.cs.map Cf.plain).drop (k + 1)).flatMap rfL).length) = True := eq_true (by rw [List.length_append, el]; omega)
  have ek : (u.plain.cells none).length = 4 := rfl
  have ek2 : (u.plain.cells none).take 4 = u.plain.cells none := rfl
  have ek3 : (u.plain.cells none).drop 4 = [] := rfl
  generalize u.plain.cells none = up at *
  refine O2 (l := q3a) rfl hR ?_
  unfold q2w
  simp -implicitDefEqProofs -dsimp only [go_sem, seval, Int.ofNat_lt, hlt, Int.natCast_nonneg, Int.toNat_natCast, ea, e5, er, e6', ek, ek2, ek3, hT, ↓J0 _ _ qdy]
  refine CallK.of hac fun v T' hv => J1 ?_
  obtain ⟨rfl, hR2, hkeep⟩ := hv
  simp -implicitDefEqProofs -dsimp only [go_sem, seval, hs]
  exact ih (k + 1) hk' hlt { c with l := qv0 c.l u } T' (by simp only [qxa]; exact hn) (hD0.learn hne hR2 hkeep) ⟨fun j h1 h2 => by
   have h3 := hf.1 j h1 h2
   rw [hkeep j (fun e => h2 (by simp [e])) (by rw [h3]; exact h1), h3], fun _ h => by cases h⟩ h2
theorem qxi {T : Tab} {id rt : Nat} {c : Cl} (hD : Dc T id rt c) (hk : c.Ok) (m : Lt Cf) (hf : m.Fine) (href : m.plain.Ref) :
  ACalls prog Z1 [.ptr id 0, .agg m.pc] T (fun v T' => v = .b (qf4 c m).2 /\ Dc T' id rt (qf4 c m).1 /\ Fr [id, rt] [] T T') := by
 refine U9 Q7 qdv (by simp) ?_
 have cR := z1c m.plain href
 rw [z3v m fun c hc => (hf.cl c hc).2] at cR
 have hself : Fr [id, rt] [] T T := Fr.refl _ _
 have hD0 := hD
 obtain ⟨⟨rc, hT, e1, e2, e3, e4, e5, e6, e7, e8⟩, l, hRt, hlm⟩ := hD
 have hI := qxh hT
 rw [e1, e4] at hI
 have hT0 := hT
 rw [Rc.rowE, e1, e4] at hT
 have hbb : ∀ x y : Int, (!decide (x = y)) = !decide (x = y) := fun _ _ => rfl
 unfold q85 qf4 z79
 rcases hr : lrF m with _ | _
 ·rw [hr] at cR
  simp only [Bool.false_and, if_true]
  simp -implicitDefEqProofs -dsimp only [go_sem, seval, ↓N1, U6, true_and, ↓J0 _ _ G1]
  refine cpn cR ?_
  simp -implicitDefEqProofs -dsimp only [go_sem, seval, Bool.not_false]
  exact V1 _ (fun _ => .inr (.inl rfl)) ⟨rfl, hD0, hself⟩
 rw [hr] at cR
 simp only [Bool.true_and]
 rcases ht : decide (m.tk = 3) with _ | _
 ·simp only [Bool.false_and, if_true]
  simp -implicitDefEqProofs -dsimp only [go_sem, seval, ↓N1, U6, true_and, ↓J0 _ _ G1]
  refine cpn cR ?_
  simp -implicitDefEqProofs -dsimp only [go_sem, seval, Bool.not_true, Bool.not_false, quw, qux, ht]
  exact V1 _ (fun _ => .inr (.inl rfl)) ⟨rfl, hD0, hself⟩
 rcases htn : decide (m.tn = c.me) with _ | _
 ·simp only [Bool.and_false, if_true]
  simp -implicitDefEqProofs -dsimp only [go_sem, seval, ↓N1, U6, true_and, ↓J0 _ _ G1]
  refine cpn cR ?_
  simp -implicitDefEqProofs -dsimp only [go_sem, seval, hT, Bool.not_true, Bool.not_false, quw, qux, ht, htn]
  exact V1 _ (fun _ => .inr (.inl rfl)) ⟨rfl, hD0, hself⟩
 simp only [Bool.and_self, Bool.true_eq_false, if_false]
 rcases hcf : (decide (m.k = 2) && decide (m.fk = 1)) with _ | _
 case true =>
  simp only [Bool.and_eq_true] at hcf
  obtain ⟨k2, f1⟩ := hcf
  have k21 : decide (m.k = 21) = false := by have := of_decide_eq_true k2; exact decide_eq_false (by omega)
  simp only [if_true]
  simp -implicitDefEqProofs -dsimp only [go_sem, seval, ↓N1, U6, true_and, ↓J0 _ _ G1]
  refine cpn cR ?_
  simp -implicitDefEqProofs -dsimp only [go_sem, seval, hT, Bool.not_true, Bool.not_false, z6x, qyn, quw, qux, ze3, List.length_map, ht, htn, k2, f1, ↓N1, U6, true_and]
  refine z4a (T0 := T) (m := m) (by repeat' (first | exact N5 _ _ | assumption | apply N4 | apply K7 | apply U1)) (by have := hf.cs; omega) hf.cl m.cs 0 rfl (Nat.zero_le _) c T hk.l.n hD0 (Fr.refl _ _) (fun T1 h1 hf => ?_)
  simp -implicitDefEqProofs -dsimp only [go_sem, seval, Bool.not_true, Bool.not_false, z6x, k21, ↓N1, U6, true_and]
  exact V1 _ (fun _ => .inr (.inl rfl)) ⟨rfl, h1, hf⟩
 simp only [Bool.false_eq_true, if_false]
 have quit : qlq c m = false -> qnz (.b false) (fun v T' => v = .b (if qlq c m = true then (({ c with w := none, la := some (qrz m) } : Cl), true) else (c, false)).2 /\ Dc T' id rt (if qlq c m = true then (({ c with w := none, la := some (qrz m) } : Cl), true) else (c, false)).1 /\ Fr [id, rt] [] T T') T := fun e => by
  rw [e]
  exact V1 _ (fun _ => .inr (.inl rfl)) ⟨rfl, hD0, hself⟩
 have two : (decide (m.k = 2) = false /\ decide (m.fk = 1) = decide (m.fk = 1)) \/ (decide (m.k = 2) = true /\ decide (m.fk = 1) = false) := by
  rcases h2 : decide (m.k = 2) with _ | _
  ·exact .inl ⟨rfl, rfl⟩
  ·rw [h2, Bool.true_and] at hcf; exact .inr ⟨rfl, hcf⟩
 rcases k21 : decide (m.k = 21) with _ | _
 ·rcases two with ⟨k2, f1⟩ | ⟨k2, f1⟩
  all_goals
   simp -implicitDefEqProofs -dsimp only [go_sem, seval, ↓N1, U6, true_and, ↓J0 _ _ G1]
   refine cpn cR ?_
   simp -implicitDefEqProofs -dsimp only [go_sem, seval, hT, Bool.not_true, Bool.not_false, z6x, qyn, quw, qux, ht, htn, k2, f1, k21, ↓N1, U6, true_and]
   exact quit (by simp only [qlq, k21, Bool.false_and])
 have k2 : decide (m.k = 2) = false := by have := of_decide_eq_true k21; exact decide_eq_false (by omega)
 rcases f2 : decide (m.fk = 2) with _ | _
 ·simp -implicitDefEqProofs -dsimp only [go_sem, seval, ↓N1, U6, true_and, ↓J0 _ _ G1]
  refine cpn cR ?_
  simp -implicitDefEqProofs -dsimp only [go_sem, seval, hT, Bool.not_true, Bool.not_false, z6x, qyn, quw, qux, ht, htn, k2, k21, f2, ↓N1, U6, true_and]
  exact quit (by simp only [qlq, f2, Bool.and_false, Bool.false_and])
 rcases hw : c.w with _ | o
 ·rw [hw, Option.isSome_none] at e5
  rw [e5] at hT
  simp -implicitDefEqProofs -dsimp only [go_sem, seval, ↓N1, U6, true_and, ↓J0 _ _ G1]
  refine cpn cR ?_
  simp -implicitDefEqProofs -dsimp only [go_sem, seval, hT, Bool.not_true, Bool.not_false, z6x, qyn, quw, qux, ht, htn, k2, k21, f2, ↓N1, U6, true_and]
  exact quit (by simp only [qlq, hw, Option.isSome_none, Bool.false_and, Bool.and_false])
 rw [hw, Option.isSome_some] at e5
 rw [e5] at hT
 rcases hid : (decide (m.cl = c.me) && decide (m.sq = (c.sq : Int))) with _ | _
 ·simp -implicitDefEqProofs -dsimp only [go_sem, seval, ↓N1, U6, true_and, ↓J0 _ _ G1]
  refine cpn cR ?_
  simp -implicitDefEqProofs -dsimp only [go_sem, seval, hT, Bool.not_true, Bool.not_false, z6x, qyn, quw, qux, z6y, z6z, ht, htn, k2, k21, f2, ↓N1, U6, true_and, ↓J0 _ _ q07]
  refine can hI ?_
  simp -implicitDefEqProofs -dsimp only [go_sem, seval, U2, K6, Bool.and_true, hid, Bool.not_false]
  exact quit (by simp only [qlq, hid, Bool.and_false])
 ·have ha : qlq c m = true := by simp only [qlq, k21, f2, hw, hid, Option.isSome_some, Bool.and_self]
  rw [ha]
  simp only [if_true]
  simp -implicitDefEqProofs -dsimp only [go_sem, seval, ↓N1, U6, true_and, ↓J0 _ _ G1]
  refine cpn cR ?_
  simp -implicitDefEqProofs -dsimp only [go_sem, seval, hT, Bool.not_true, Bool.not_false, z6x, qyn, quw, qux, z6y, z6z, ht, htn, k2, k21, f2, ↓N1, U6, true_and, ↓J0 _ _ q07]
  refine can hI ?_
  simp -implicitDefEqProofs -dsimp only [go_sem, seval, U2, K6, Bool.and_true, hid, Bool.not_true]
  refine q4h hT rfl rfl (by simp) (J1 ?_)
  have hT1 := Tab.put_same T id (.row 18 [.i .i64 c.me, .i .i64 rc.ma, .ptr rc.rt 0, .i .u64 c.sq, .b false, .i .i64 rc.o.k, .s rc.o.key, .s rc.o.v, .fz rc.o.rs.length (rc.o.rs.flatMap rdC) rc.k1, .fz rc.o.ws.length (rc.o.ws.flatMap wtC) rc.k2, .i .i64 rc.tr, .i .i64 rc.la.cl, .i .u64 rc.la.sq, .i .i64 rc.la.n, .i .i64 rc.la.co, .s rc.la.v, .i .u64 rc.la.q, .b rc.had])
  simp -implicitDefEqProofs -dsimp only [go_sem, seval]
  refine q4h hT1 rfl rfl (by simp) (J1 ?_)
  have hT2 := Tab.put_same T id (.row 18 [.i .i64 c.me, .i .i64 rc.ma, .ptr rc.rt 0, .i .u64 c.sq, .b false, .i .i64 rc.o.k, .s rc.o.key, .s rc.o.v, .fz rc.o.rs.length (rc.o.rs.flatMap rdC) rc.k1, .fz rc.o.ws.length (rc.o.ws.flatMap wtC) rc.k2, .i .i64 rc.tr, .i .i64 rc.la.cl, .i .u64 rc.la.sq, .i .i64 rc.la.n, .i .i64 rc.la.co, .s rc.la.v, .i .u64 rc.la.q, .b true])
  simp -implicitDefEqProofs -dsimp only [go_sem, seval, Tab.put_put, z6y, z6z, zf1, ze2, zf2, zf3]
  refine q4h hT2 rfl rfl (by simp) (J1 ?_)
  simp -implicitDefEqProofs -dsimp only [go_sem, seval, Tab.put_put]
  refine V1 _ (fun _ => .inr (.inl rfl)) ⟨rfl, ⟨⟨{ rc with me := c.me, sq := c.sq, wt := false, la := qrz m, had := true }, Tab.put_same .., rfl, e2, e3, rfl, rfl, fun q hq => (by cases hq), rfl, rfl⟩, l, hRt.put18 hT, hlm⟩, z21⟩
end Go.Aw
