import Derived.Test.YtchdmofoaokpjaaGreatDoorM3C
namespace Go.Aw
open Go
open Go.Proofs.Tryz (prog)
set_option linter.all false
set_option maxHeartbeats 8000000
set_option maxRecDepth 8000
theorem zb5 {B T : Tab} {id : Nat} {most : Int} {l : List Sn} {v : AV} (h : MS B T id most l v) {s : Sn} (h1 : T s.id = .row 1 (K8 s.b)) (h2 : B s.id = .unused) (h3 : s.id ≠ id) (h4 : s.id ∉ l.map Sn.id) (h5 : 0 < s.b.length /\ s.b.length <= 70000) (h6 : l.length < 2000)
  {K : AV -> Tab -> Prop} (hk : ∀ v' T', v'.plain = true /\ v'.isOne = true /\ v'.sto = true /\ v'.cells = [v'] /\ v'.isLp = false /\ (∀ k, v'.offLp k = v') -> T' id = .row 2 [.i .i64 most, v] -> MS B (T'.put id (.row 2 [.i .i64 most, v'])) id most (l ++ [s]) v' -> K v' T') : q1k 3 40 T v (.fz 1 s.cells (some 1)) K := by
 have hbyt : ∀ x ∈ l ++ [s], T x.id = .row 1 (K8 x.b) /\ B x.id = .unused /\ x.id ≠ id /\ 0 < x.b.length /\ x.b.length <= 70000 := fun x hx => by
  rcases List.mem_append.1 hx with hx | hx
  ·exact h.byt x hx
  ·obtain rfl := List.mem_singleton.1 hx
   exact ⟨h1, h2, h3, h5⟩
 have hnd : ((l ++ [s]).map Sn.id).Nodup := by
  rw [List.map_append, List.nodup_append]
  refine ⟨h.nd, by simp, fun a ha b hb e => ?_⟩
  simp at hb; subst hb; subst e; exact h4 ha
 have hlen : (l ++ [s]).length <= 2000 := by rw [List.length_append]; simp only [List.length_cons, List.length_nil]; omega
 have hcs : Z4 T 3 (.fz 1 s.cells (some 1)) = some s.cells := rfl
 have hsn : snC (l ++ [s]) = snC l ++ s.cells := by rw [qhq]; simp [snC]
 have hll : (l ++ [s]).length = l.length + 1 := by simp
 have new : ∀ (T2 : Tab) (i' : Nat), T2 i' = .unused -> (∀ x, x ≠ id -> (∃ y ∈ l ++ [s], x = y.id) -> T2 x = T x) -> T2 id = T id -> TabEq B T2 ->
   K (.sl i' 0 (l.length + 1) none) (T2.put i' (.row 3 (snC l ++ s.cells))) := fun T2 i' hu hb hrow hle => by
  have n1 : i' ≠ id := fun e => by rw [e, hrow, h.row] at hu; cases hu
  have n2 : ∀ x ∈ l ++ [s], x.id ≠ i' := fun x hx e => by
   obtain ⟨z1, z2, z3, z4⟩ := hbyt x hx
   rw [<- e, hb _ z3 ⟨x, hx, rfl⟩, z1] at hu; cases hu
  refine hk _ _ ⟨rfl, rfl, rfl, rfl, rfl, fun _ => rfl⟩ (by rw [Tab.put_ne _ _ (Ne.symm n1), hrow]; exact h.row) ⟨Tab.put_same .., .inr ⟨i', [], 0, by rw [hll], by rw [Tab.put_ne _ _ n1, Tab.put_same, hsn, List.append_nil], rfl, hle.unused hu, n1, n2⟩, h.bid, fun x hx => ?_, hnd, (hle.put (hle.unused hu)).put h.bid, hlen, h.mo⟩
  obtain ⟨z1, z2, z3, z4⟩ := hbyt x hx
  exact ⟨by rw [Tab.put_ne _ _ z3, Tab.put_ne _ _ (n2 x hx), hb _ z3 ⟨x, hx, rfl⟩]; exact z1, z2, z3, z4⟩
 unfold q1k
 rw [hcs]
 rcases h.sl with ⟨rfl, rfl⟩ | ⟨idC, junk, m, rfl, q2, q3, q4, q5, q6⟩
 ·show if q0a (.fz 1 s.cells (some 1)) = 0 then _ else _
  rw [if_neg (show ¬ q0a (.fz 1 s.cells (some 1)) = 0 from Nat.one_ne_zero)]
  exact ⟨rfl, (show 0 < 0 + 1 by decide), (show (0 + 1) * 40 <= 140737488355328 by decide), (show 0 + 1 <= 9223372036854775807 by decide), fun i' hu => new T i' hu (fun _ _ _ => rfl) rfl h.le⟩
 ·have nC : s.id ≠ idC := fun e => by rw [e, q2] at h1; injection h1 with z; cases z
  have n6 : ∀ x ∈ l ++ [s], x.id ≠ idC := fun x hx => by
   rcases List.mem_append.1 hx with hx | hx
   ·exact q6 x hx
   ·obtain rfl := List.mem_singleton.1 hx; exact nC
  simp only [q0a, q2, true_and, Nat.zero_add]
  split
  ·rename_i hfull
   have hj : junk = [] := by
    have : (snC l ++ junk).length = l.length * 3 + junk.length := by rw [List.length_append, q1t]
    exact List.length_eq_zero_iff.1 (by omega)
   subst hj
   refine ⟨by omega, by omega, fun i' hu => ?_⟩
   rw [List.append_nil, List.drop_zero]
   by_cases e : i' = idC
   ·subst e
    rw [Tab.put_put]
    have n1 : i' ≠ id := q5
    refine hk _ _ ⟨rfl, rfl, rfl, rfl, rfl, fun _ => rfl⟩ (by rw [Tab.put_ne _ _ (Ne.symm n1)]; exact h.row) ⟨Tab.put_same .., .inr ⟨i', [], 0, by rw [hll], by rw [Tab.put_ne _ _ n1, Tab.put_same, hsn, List.append_nil], rfl, q4, n1, n6⟩, h.bid, fun x hx => ?_, hnd, (h.le.put q4).put h.bid, hlen, h.mo⟩
    obtain ⟨z1, z2, z3, z4⟩ := hbyt x hx
    exact ⟨by rw [Tab.put_ne _ _ z3, Tab.put_ne _ _ (n6 x hx)]; exact z1, z2, z3, z4⟩
   ·refine new (T.put idC .unused) i' (by rw [Tab.put_ne _ _ e]; exact hu) (fun x hx hxy => ?_) (by rw [Tab.put_ne _ _ (Ne.symm q5)]) (h.le.put q4)
    obtain ⟨y, hy, rfl⟩ := hxy
    rw [Tab.put_ne _ _ (n6 y hy)]
  ·rename_i hfull
   have hlj : (snC l ++ junk).length = l.length * 3 + junk.length := by rw [List.length_append, q1t]
   refine ⟨by omega, ?_⟩
   have hst : q07 (snC l ++ junk) (l.length * 3) s.cells = snC (l ++ [s]) ++ junk.drop 3 := by
    rw [q07, List.take_append_of_le_length (by rw [q1t]; omega), List.take_of_length_le (by rw [q1t]; omega), hsn, show s.cells.length = 3 from rfl]
    rw [List.drop_append, List.drop_of_length_le (by rw [q1t]; omega), q1t, List.nil_append, show l.length * 3 + 3 - l.length * 3 = 3 by omega]
   rw [hst]
   refine hk _ _ ⟨rfl, rfl, rfl, rfl, rfl, fun _ => rfl⟩ (by rw [Tab.put_ne _ _ (Ne.symm q5)]; exact h.row) ⟨Tab.put_same .., .inr ⟨idC, junk.drop 3, m - 1, by rw [hll], by rw [Tab.put_ne _ _ q5, Tab.put_same], by rw [List.length_drop]; omega, q4, q5, n6⟩, h.bid, fun x hx => ?_, hnd, (h.le.put q4).put h.bid, hlen, h.mo⟩
   obtain ⟨z1, z2, z3, z4⟩ := hbyt x hx
   exact ⟨by rw [Tab.put_ne _ _ z3, Tab.put_ne _ _ (n6 x hx)]; exact z1, z2, z3, z4⟩
def sdC (most : Int) (l : List Sn) (x : Lt Cf) : Int := if lrF x = false then 1 else if most <= l.length then 9 else 0
theorem qp4 {B T : Tab} {id : Nat} {most : Int} {l : List Sn} {v : AV} (h : MS B T id most l v) (x : Lt Cf) (hs : x.Small) (ht : x.t.Fine) (hr : x.Rng) :
  ACalls prog q2e [.ptr id 0, .agg x.cc] T (fun r T' => r = .i .i64 (sdC most l x) /\ ∃ v' l', MS B T' id most l' v' /\ (¬ sdC most l x = 0 -> l' = l) /\ (sdC most l x = 0 -> ∃ i, l' = l ++ [⟨x.tk, x.tn, i, frm (q26 x)⟩])) := by
 have t1 := h.row
 refine U7 U1 qiy (by simp) ?_
 unfold qbt sdC
 rcases hk : lrF x with _ | _
 ·have c3 := z34 x hs ht hr
  rw [z6b, if_neg (by rw [hk]; decide)] at c3
  simp -implicitDefEqProofs -dsimp only [go_sem, seval, ↓J0 _ _ qi1]
  refine cpn c3 ?_
  simp -implicitDefEqProofs -dsimp only [go_sem, seval]
  exact Y3 _ (fun _ => .inr (.inl rfl)) ⟨rfl, v, l, h, fun _ => rfl, fun e => absurd e (by decide)⟩
 have c3 := z3e (T := T) x hs ht hr hk
 have hel := q95 hr hk
 have hfl := qfj (q26 x)
 generalize hF : frm (q26 x) = F at *
 rw [if_neg (show ¬ true = false by decide)]
 simp -implicitDefEqProofs -dsimp only [go_sem, seval, ↓J0 _ _ qi1]
 refine CallK.of c3 (fun r T1 ⟨w, e1, ho⟩ => J1 ?_)
 subst e1
 obtain ⟨wi, rfl, hwi, hT1⟩ := ho.ne (by omega)
 have h1 : MS B T1 id most l v := by rw [hT1]; exact h.tr hwi _
 have t2 := h1.row
 have hi1 : ∀ y ∈ l, y.id ≠ wi := fun y hy e => by
  have := (h.byt y hy).1
  rw [e, hwi] at this; cases this
 have hni : wi ≠ id := fun e => by have := h.row; rw [<- e, hwi] at this; cases this
 have hBw : B wi = .unused := h.le.unused hwi
 have happ := fun (hl : l.length < 2000) (K : AV -> Tab -> Prop) hk => zb5 h1 (s := ⟨x.tk, x.tn, wi, F⟩) (by rw [hT1, Tab.put_same]) hBw hni (fun hm => by
  obtain ⟨y, hy, e⟩ := List.mem_map.1 hm
  exact hi1 y hy e) ⟨by simp only; omega, by simp only; omega⟩ hl (K := K) hk
 have hmo := h.mo
 have hll := h.len
 have main : ∀ (K : Prop), K -> K := fun _ k => k
 by_cases hfull : most <= l.length
 ·have df : decide (most <= (l.length : Int)) = true := decide_eq_true hfull
  rw [if_pos hfull]
  rcases h1.sl with ⟨rfl, rfl⟩ | ⟨idC, junk, m, rfl, q2, q3, q4, q5, q6⟩
  ·simp only [List.length_nil] at hfull; omega
  ·simp -implicitDefEqProofs -dsimp only [go_sem, seval, t2, df]
   exact Y3 _ (fun _ => .inr (.inl rfl)) ⟨rfl, _, l, h1, fun _ => rfl, fun e => absurd e (by decide)⟩
 ·have df : decide (most <= (l.length : Int)) = false := decide_eq_false hfull
  rw [if_neg hfull]
  have ta : ((x.cells cfC).drop 2).take 2 = [.i .i64 x.tk, .i .i64 x.tn] := rfl
  rcases h1.sl with ⟨rfl, rfl⟩ | ⟨idC, junk, m, rfl, q2, q3, q4, q5, q6⟩
  ·have df0 : decide (most <= ((0 : Nat) : Int)) = false := df
   have df1 : decide (most <= (0 : Int)) = false := df
   simp -implicitDefEqProofs -dsimp only [go_sem, seval, t2, df0, df1, ta]
   refine happ (by decide) _ (fun v' T2 hp hrow hM => J1 ?_)
   obtain ⟨p1, p2, p3, p4, p5, p6⟩ := hp
   simp -implicitDefEqProofs -dsimp only [go_sem, seval, p1, p2, p3, p4, p5, p6]
   refine q11 hrow p3 (by rw [p4]; rfl) (by simp) (J1 ?_)
   rw [p4]
   simp -implicitDefEqProofs -dsimp only [go_sem, seval]
   exact Y3 _ (fun _ => .inr (.inl rfl)) ⟨rfl, v', _, hM, fun e => absurd trivial e, fun _ => ⟨wi, rfl⟩⟩
  ·simp -implicitDefEqProofs -dsimp only [go_sem, seval, t2, df, ta]
   refine happ (by omega) _ (fun v' T2 hp hrow hM => J1 ?_)
   obtain ⟨p1, p2, p3, p4, p5, p6⟩ := hp
   simp -implicitDefEqProofs -dsimp only [go_sem, seval, p1, p2, p3, p4, p5, p6]
   refine q11 hrow p3 (by rw [p4]; rfl) (by simp) (J1 ?_)
   rw [p4]
   simp -implicitDefEqProofs -dsimp only [go_sem, seval]
   exact Y3 _ (fun _ => .inr (.inl rfl)) ⟨rfl, v', _, hM, fun e => absurd trivial e, fun _ => ⟨wi, rfl⟩⟩
end Go.Aw
namespace Go.Aw
open Go
open Go.Proofs.Tryz (prog)
set_option linter.all false
set_option maxHeartbeats 8000000
set_option maxRecDepth 8000
def knL (n : Int) : Lt Cf := ⟨3, 0, 1, n, 3, 0, 0, 0, 0, 0, false, 0, 0, [], [], [], zT, 0, 0, [], 0, 0⟩
theorem z0j (n : Int) : PCalls prog q20 [.i .i64 n] (.agg (knL n).cc) := by
 refine K6 U1 qeo (by simp) fun T => ?_
 unfold q8n
 simp -implicitDefEqProofs -dsimp only [go_sem, seval]
 exact q82 (.agg (Wk.lt0 (knL n))) rfl
theorem qv1 (n : Int) : (knL n).Small := ⟨by simp [knL, Len], by simp [knL, Len], by simp [knL, Len], by simp [knL, Len, zT], by simp [knL, Len, zT], fun c hc => (by cases hc), fun c hc => (by cases hc)⟩
theorem z0k (n : Int) : (knL n).t.Fine := ⟨by simp [knL, zT], by simp [knL, zT], fun c hc => (by cases hc), fun c hc => (by cases hc), fun c hc => (by cases hc)⟩
theorem qv2 (n : Int) : (knL n).Rng := ⟨by simp [knL], by simp [knL], by simp [knL], by simp [knL], by simp [knL, zT], fun c hc => (by cases hc), fun c hc => (by cases hc), fun c hc => (by cases hc), fun c hc => (by cases hc)⟩
theorem zb6 (n : Int) (h0 : 0 <= n) (h5 : n < 5) : lrF (knL n) = true := by
 have : n = 0 \/ n = 1 \/ n = 2 \/ n = 3 \/ n = 4 := by omega
 rcases this with rfl | rfl | rfl | rfl | rfl <;> decide +kernel
theorem qdo : PCalls prog q1n [] (.b true) := by
 refine K6 U1 qdr (by simp) fun T => ?_
 unfold q83
 simp -implicitDefEqProofs -dsimp only [go_sem, seval, ↓J0 _ _ qnb]
 refine CallK.of (z0f 5) (fun r T1 ⟨id, e1, h1, _⟩ => J1 ?_)
 subst e1
 have k1 := zb6 1 (by decide) (by decide)
 have k2 := zb6 2 (by decide) (by decide)
 simp -implicitDefEqProofs -dsimp only [go_sem, seval, ↓J0 _ _ q8o]
 refine cpn (z0j 1) ?_
 simp -implicitDefEqProofs -dsimp only [go_sem, seval, ↓J0 _ _ q7w]
 refine CallK.of (qp4 h1 (knL 1) (qv1 1) (z0k 1) (qv2 1)) (fun r T2 ⟨e2, v2, l2, h2, _, f2⟩ => J1 ?_)
 have s1 : sdC (clM 5) [] (knL 1) = 0 := by unfold sdC; rw [k1]; rfl
 rw [s1] at e2 f2
 obtain ⟨i1, rfl⟩ := f2 rfl
 subst e2
 simp -implicitDefEqProofs -dsimp only [go_sem, seval, ↓J0 _ _ q8o]
 refine cpn (z0j 2) ?_
 simp -implicitDefEqProofs -dsimp only [go_sem, seval, ↓J0 _ _ q7w]
 refine CallK.of (qp4 h2 (knL 2) (qv1 2) (z0k 2) (qv2 2)) (fun r T3 ⟨e3, v3, l3, h3, _, f3⟩ => J1 ?_)
 have s2 : sdC (clM 5) ([] ++ [⟨(knL 1).tk, (knL 1).tn, i1, frm (q26 (knL 1))⟩]) (knL 2) = 0 := by unfold sdC; rw [k2]; rfl
 rw [s2] at e3 f3
 obtain ⟨i2, rfl⟩ := f3 rfl
 subst e3
 have hTk := qv0 h3 (-1) (s := ⟨(knL 2).tk, (knL 2).tn, i2, frm (q26 (knL 2))⟩) rfl
 simp -implicitDefEqProofs -dsimp only [go_sem, seval, ↓J0 _ _ q7y]
 refine CallK.of hTk (fun r T4 ⟨w, T5, v4, e4, ho, h4⟩ => J1 ?_)
 subst e4
 obtain ⟨p1, p2, p3, p4, p5, p6⟩ := ho.form
 obtain ⟨q1, q2⟩ := z0e k2 (qv2 2)
 have hel := q95 (qv2 2) k2
 have cO := fun cap => qjp (frm (q26 (knL 2))) cap (by rw [qfj]; omega)
 rw [q1, q2] at cO
 simp only [bts] at cO
 have hL := qp3 h4
 simp -implicitDefEqProofs -dsimp only [go_sem, seval, p1, p2, p3, p4, p5, p6, ↓J0 _ _ q4y]
 refine CallK.give0 ho rfl (fun q => cO q T5) (fun v T' hh => ?_)
 obtain ⟨rfl, rfl⟩ := hh
 refine J1 ?_
 have ec : q57 none = 0 := rfl
 have etn : (knL 2).tn = 2 := rfl
 rw [ec]
 simp -implicitDefEqProofs -dsimp only [go_sem, seval, etn, ↓Q2, I2, true_and, decide_true, ↓J0 _ _ q4n]
 refine can hL ?_
 simp -implicitDefEqProofs -dsimp only [go_sem, seval, decide_true]
 exact h4.le.le.fin
end Go.Aw
