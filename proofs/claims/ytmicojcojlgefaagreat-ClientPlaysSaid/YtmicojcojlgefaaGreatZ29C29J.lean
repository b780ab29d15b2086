import Derived.Test.YtmicojcojlgefaaGreatZ29C29H
namespace Go.Aw
open Go
open Go.Proofs.Tryz (prog)
set_option linter.all false
set_option maxHeartbeats 8000000
set_option maxRecDepth 8000
def qx9 (c : Cl) : AV := match c.w with
 | none => .tup [.agg [.i .i64 0, .i .u64 0], .b false]
 | some _ => .tup [.agg [.i .i64 c.me, .i .u64 c.sq], .b true]
theorem z3z {T : Tab} {id r l w x : Nat} {c : Cl} (h : Ct T id r l w x c) : ACalls prog q3f [.ptr id 0] T (fun v T' => v = qx9 c /\ T' = T) := by
 refine U9 Q7 qha (by simp) ?_
 have hT := h.cr
 simp only [qb3] at hT
 unfold qas qx9
 rcases hw : c.w with _ | o
 ·simp only [hw, qcg] at hT ⊢
  simp -implicitDefEqProofs -dsimp only [go_sem, seval, hT, q9d, ↓N1, U6, true_and]
  exact q80 (.refl _) rfl
 ·simp only [hw, qch] at hT ⊢
  have hW := h.cw _ hw
  simp only [qx7] at hW
  simp -implicitDefEqProofs -dsimp only [go_sem, seval, hT, hW, q9d, ↓N1, U6, true_and]
  exact q80 (.refl _) rfl
def z1p (c : Cl) : AV := match c.la with
 | none => .tup [.agg [.i .i64 0, .i .u64 0, .i .i64 0, .i .i64 0, .s [], .i .u64 0], .b false]
 | some y => .tup [.agg [.i .i64 y.cl, .i .u64 y.sq, .i .i64 y.n, .i .i64 y.co, .s y.v, .i .u64 y.q], .b true]
theorem z1q {T : Tab} {id r l w x : Nat} {c : Cl} (h : Ct T id r l w x c) : ACalls prog q2l [.ptr id 0] T (fun v T' => v = z1p c /\ T' = T) := by
 refine U9 Q7 qik (by simp) ?_
 have hT := h.cr
 simp only [qb3] at hT
 unfold qbb z1p
 rcases hw : c.la with _ | y
 ·simp only [hw, qcg] at hT ⊢
  simp -implicitDefEqProofs -dsimp only [go_sem, seval, hT, q9d, ↓N1, U6, true_and]
  exact q80 (.refl _) rfl
 ·simp only [hw, qch] at hT ⊢
  have hX := (h.cy _ hw).1
  simp only [qyu] at hX
  simp -implicitDefEqProofs -dsimp only [go_sem, seval, hT, hX, q9d, ↓N1, U6, true_and]
  exact q80 (.refl _) rfl
def lnL (l : List Cf) (cs : List Cf) : List Cf := cs.foldl qv0 l
def qrz (m : Lt Cf) : Cr := ⟨m.cl, m.sq, m.n, m.co, m.v, m.q⟩
def z79 (c : Cl) (m : Lt Cf) : Bool := lrF m && (decide (m.tk = 3) && decide (m.tn = c.me))
def qlq (c : Cl) (m : Lt Cf) : Bool := (decide (m.k = 21) && decide (m.fk = 2)) && (c.w.isSome && (decide (m.cl = c.me) && decide (m.sq = (c.sq : Int))))
def qf4 (c : Cl) (m : Lt Cf) : Cl × Bool :=
 if z79 c m = false then (c, false) else if (decide (m.k = 2) && decide (m.fk = 1)) = true then ({ c with l := lnL c.l m.cs }, false) else
 if qlq c m = true then ({ c with w := none, la := some (qrz m) }, true) else (c, false)
theorem z4w : ∀ (cs : List Cf) {l : List Cf}, RtOk l -> (∀ c ∈ cs, 0 <= c.ep) -> RtOk (lnL l cs)
 | [], _, h, _ => h
 | c :: cs, _, h, h2 => z4w cs (z0s h (h2 c (List.mem_cons_self ..))) fun d hd => h2 d (List.mem_cons_of_mem _ hd)
theorem Ct.learn {T : Tab} {id r l w x : Nat} {c : Cl} (h : Ct T id r l w x c) (l' : List Cf) (hl : l'.length = c.l.length) : Ct (T.put l (.row 5 (qk1 l'))) id r l w x { c with l := l' } := by
 refine ⟨?_, ⟨?_, ?_⟩, ?_, ?_⟩
 ·rw [Tab.put_ne _ _ h.id_l]; exact h.cr
 ·rw [Tab.put_ne _ _ h.rt.ne, h.rt.1, hl]
 ·exact Tab.put_same ..
 ·intro o ho; rw [Tab.put_ne _ _ (Ne.symm (h.l_w ho))]; exact h.cw o ho
 ·intro y hy
  obtain ⟨h1, h2⟩ := h.cy y hy
  exact ⟨by rw [Tab.put_ne _ _ (h.x_l hy)]; exact h1, h2⟩
theorem qxa (l : List Cf) (c : Cf) : (qv0 l c).length = l.length := by unfold qv0; split <;> simp
theorem z1r {R : Y5} (hR : ExtR R) {id r l w x : Nat} {T0 : Tab} {cs : List Cf} (hl : cs.length < 1000000) (hc : ∀ c ∈ cs, q6r c /\ 0 <= c.ep) : ∀ (us : List Cf) (k : Nat), cs.drop k = us -> k <= cs.length -> ∀ (c : Cl) (T : Tab), RtOk c.l -> Ct T id r l w x c -> Fr [l] [] T0 T ->
  (∀ T, Ct T id r l w x { c with l := lnL c.l us } -> Fr [l] [] T0 T -> R (.exit 1) [(0, .ptr id 0), (35, .fz cs.length (cs.flatMap cfC) none), (36, .i .i64 cs.length), (37, .i .i64 cs.length), (38, .b false)] [] T) ->
  AW prog q6w R [(0, .ptr id 0), (35, .fz cs.length (cs.flatMap cfC) none), (36, .i .i64 cs.length), (37, .i .i64 k)] [] T := by
 intro us
 induction us with
 | nil =>
  intro k hk hle c T hok h hf h2
  have hk' := O9 hk hle
  refine Q2 hR ?_
  unfold q5y
  simp -implicitDefEqProofs -dsimp only [go_sem, seval, hk', Int.lt_irrefl]
  rw [hk'] at h2
  exact h2 T h hf
 | cons u us ih =>
  intro k hk hle c T hok h hf h2
  obtain ⟨hlt, hy, hk'⟩ := Q5 hk
  have cl : ∀ c : Cf, (cfC c).length = 5 := fun _ => rfl
  have ea := V0 cl hy
  have e5 : k * 5 + 5 <= (cs.flatMap cfC).length := by rw [K8 cl]; omega
  have hs : IntKind.i64.wrap ((k : Int) + 1) = ((k + 1 : Nat) : Int) := K9 (by omega)
  have hu := hc u (List.mem_of_getElem? hy)
  have hT := h.cr
  simp only [qb3] at hT
  have hac := z3a h.rt hok.small u none none hu.1 hok.ep
  simp only [Cf.cells] at hac
  have hct := h.learn (qv0 c.l u) (qxa _ _)
  have hf2 : Fr [l] [] T0 (T.put l (.row 5 (qk1 (qv0 c.l u)))) := ⟨fun j h1 h2 => by rw [Tab.put_ne _ _ (fun e => h2 (by simp [e]))]; exact hf.1 j h1 h2, fun _ h => by cases h⟩
  refine O2 (l := q6w) rfl hR ?_
  unfold q5y
  simp -implicitDefEqProofs -dsimp only [go_sem, seval, Int.ofNat_lt, hlt, Int.natCast_nonneg, Int.toNat_natCast, ea, e5, cfC, Cf.cells, List.cons_append, List.nil_append, hT, ↓J0 _ _ qkx]
  refine CallK.of hac fun v T' hv => ?_
  rw [hv.2]
  obtain ⟨rfl, _⟩ := hv
  refine J1 ?_
  simp -implicitDefEqProofs -dsimp only [go_sem, seval, hs]
  exact ih (k + 1) hk' hlt { c with l := qv0 c.l u } _ (z0s hok hu.2) hct hf2 h2
end Go.Aw
namespace Go.Aw
open Go
open Go.Proofs.Tryz (prog)
set_option linter.all false
set_option maxHeartbeats 8000000
set_option maxRecDepth 8000
theorem Fr.wide {fp fp' : List Nat} {T T' : Tab} (h : Fr fp [] T T') (hs : ∀ j ∈ fp, j ∈ fp') {new : List Nat} (hn : ∀ j ∈ new, j ∈ fp') : Fr fp' new T T' :=
 ⟨fun j h1 h2 => h.1 j h1 fun e => h2 (hs j e), fun j hj => .inl (hn j hj)⟩
theorem z1s {T : Tab} {id r l w x : Nat} {c : Cl} (h : Ct T id r l w x c) (hk : c.Ok) (m : Lt Cf) (hm : m.Small) (ht : m.t.Fine) (hlen : m.cs.length < 1000000) (hc : ∀ c ∈ m.cs, q6r c /\ 0 <= c.ep) :
  ACalls prog q00 [.ptr id 0, .agg m.cc] T (fun v T' => v = .b (qf4 c m).2 /\ ∃ w' x', Ct T' id r l w' x' (qf4 c m).1 /\ Fr [id, l, w, x] [w', x'] T T') := by
 refine U9 Q7 qbf (by simp) ?_
 have hT := h.cr
 simp only [qb3] at hT
 have cR := qur m hm ht
 have hself : Fr [id, l, w, x] [w, x] T T := Fr.wide (Fr.refl [] T) (fun _ h => by cases h) (fun j hj => by simp only [List.mem_cons, List.not_mem_nil, or_false] at hj ⊢; rcases hj with h | h <;> simp [h])
 unfold q89 qf4 z79
 rcases hr : lrF m with _ | _
 ·rw [hr] at cR
  simp only [Bool.false_and, if_true]
  simp -implicitDefEqProofs -dsimp only [go_sem, seval, q9d, ↓N1, U6, true_and, ↓J0 _ _ V5]
  refine cpn cR ?_
  simp -implicitDefEqProofs -dsimp only [go_sem, seval, ↓N1, U6, true_and]
  exact V1 _ (fun _ => .inr (.inl rfl)) ⟨rfl, w, x, h, hself⟩
 rw [hr] at cR
 simp only [Bool.true_and]
 rcases hmn : (decide (m.tk = 3) && decide (m.tn = c.me)) with _ | _
 ·simp only [if_true]
  simp -implicitDefEqProofs -dsimp only [go_sem, seval, q9d, ↓N1, U6, true_and, ↓J0 _ _ V5]
  refine cpn cR ?_
  simp -implicitDefEqProofs -dsimp only [go_sem, seval, hT, U2, K6, Bool.and_true, hmn, ↓N1, U6, true_and]
  exact V1 _ (fun _ => .inr (.inl rfl)) ⟨rfl, w, x, h, hself⟩
 simp only [Bool.true_eq_false, if_false]
 rcases hcf : (decide (m.k = 2) && decide (m.fk = 1)) with _ | _
 case true =>
  simp only [Bool.and_eq_true] at hcf
  obtain ⟨k2, f1⟩ := hcf
  simp only [if_true]
  simp -implicitDefEqProofs -dsimp only [go_sem, seval, q9d, ↓N1, U6, true_and, ↓J0 _ _ V5]
  refine cpn cR ?_
  simp -implicitDefEqProofs -dsimp only [go_sem, seval, hT, U2, K6, Bool.and_true, hmn, k2, f1, q9d, ↓N1, U6, true_and]
  refine z1r (T0 := T) (by repeat' (first | exact N5 _ _ | assumption | apply N4 | apply K7 | apply U1)) hlen hc m.cs 0 rfl (Nat.zero_le _) c T hk.l h (Fr.refl _ _) (fun T1 h1 hf => ?_)
  simp -implicitDefEqProofs -dsimp only [go_sem, seval]
  exact V1 _ (fun _ => .inr (.inl rfl)) ⟨rfl, w, x, h1, Fr.wide hf (fun j hj => by simp only [List.mem_singleton] at hj; subst hj; simp) (fun j hj => by simp only [List.mem_cons, List.not_mem_nil, or_false] at hj ⊢; rcases hj with h | h <;> simp [h])⟩
 simp only [Bool.false_eq_true, if_false]
 have quit : qlq c m = false -> qnz (.b false) (fun v T' => v = .b (if qlq c m = true then (({ c with w := none, la := some (qrz m) } : Cl), true) else (c, false)).2 /\ ∃ w' x', Ct T' id r l w' x' (if qlq c m = true then (({ c with w := none, la := some (qrz m) } : Cl), true) else (c, false)).1 /\ Fr [id, l, w, x] [w', x'] T T') T := fun e => by
  rw [e]
  exact V1 _ (fun _ => .inr (.inl rfl)) ⟨rfl, w, x, h, hself⟩
 rcases k2 : decide (m.k = 2) with _ | _
 case true =>
  have f1 : decide (m.fk = 1) = false := by rw [k2, Bool.true_and] at hcf; exact hcf
  have k21 : decide (m.k = 21) = false := by have := of_decide_eq_true k2; exact decide_eq_false (by omega)
  simp -implicitDefEqProofs -dsimp only [go_sem, seval, q9d, ↓N1, U6, true_and, ↓J0 _ _ V5]
  refine cpn cR ?_
  simp -implicitDefEqProofs -dsimp only [go_sem, seval, hT, U2, K6, Bool.and_true, hmn, k2, f1, k21, q9d, ↓N1, U6, true_and]
  exact quit (by simp only [qlq, k21, Bool.false_and])
 rcases k21 : decide (m.k = 21) with _ | _
 ·simp -implicitDefEqProofs -dsimp only [go_sem, seval, q9d, ↓N1, U6, true_and, ↓J0 _ _ V5]
  refine cpn cR ?_
  simp -implicitDefEqProofs -dsimp only [go_sem, seval, hT, U2, K6, Bool.and_true, hmn, k2, k21, q9d, ↓N1, U6, true_and]
  exact quit (by simp only [qlq, k21, Bool.false_and])
 rcases f2 : decide (m.fk = 2) with _ | _
 ·simp -implicitDefEqProofs -dsimp only [go_sem, seval, q9d, ↓N1, U6, true_and, ↓J0 _ _ V5]
  refine cpn cR ?_
  simp -implicitDefEqProofs -dsimp only [go_sem, seval, hT, U2, K6, Bool.and_true, hmn, k2, k21, f2, q9d, ↓N1, U6, true_and]
  exact quit (by simp only [qlq, f2, Bool.and_false, Bool.false_and])
 rcases hw : c.w with _ | o
 ·rw [hw, qcg] at hT
  simp -implicitDefEqProofs -dsimp only [go_sem, seval, q9d, ↓N1, U6, true_and, ↓J0 _ _ V5]
  refine cpn cR ?_
  simp -implicitDefEqProofs -dsimp only [go_sem, seval, hT, U2, K6, Bool.and_true, hmn, k2, k21, f2, q9d, ↓N1, U6, true_and]
  have := quit (by simp only [qlq, hw, Option.isSome_none, Bool.false_and, Bool.and_false])
  exact this
 have hW := h.cw _ hw
 simp only [qx7] at hW
 rw [hw, qch] at hT
 rcases hid : (decide (m.cl = c.me) && decide (m.sq = (c.sq : Int))) with _ | _
 ·simp -implicitDefEqProofs -dsimp only [go_sem, seval, q9d, ↓N1, U6, true_and, ↓J0 _ _ V5]
  refine cpn cR ?_
  simp -implicitDefEqProofs -dsimp only [go_sem, seval, hT, U2, K6, Bool.and_true, hmn, k2, k21, f2, hW, hid, q9d, ↓N1, U6, true_and]
  have := quit (by simp only [qlq, hid, Bool.and_false])
  exact this
 have ha : qlq c m = true := by simp only [qlq, k21, f2, hw, hid, Option.isSome_some, Bool.and_self]
 simp only [ha, if_true]
 simp -implicitDefEqProofs -dsimp only [go_sem, seval, q9d, ↓N1, U6, true_and, ↓J0 _ _ V5]
 refine cpn cR ?_
 simp -implicitDefEqProofs -dsimp only [go_sem, seval, hT, U2, K6, Bool.and_true, hmn, k2, k21, f2, hW, hid, q9d, ↓N1, U6, true_and]
 refine q4h hT rfl rfl (by simp) (J1 ?_)
 have hT1 : (T.put id (.row 6 [.i .i64 c.me, .i .i64 c.ma, .ptr r 0, .i .u64 c.sq, .nilptr, ptO c.la x])) id = .row 6 [.i .i64 c.me, .i .i64 c.ma, .ptr r 0, .i .u64 c.sq, .nilptr, ptO c.la x] := Tab.put_same ..
 simp -implicitDefEqProofs -dsimp only [go_sem, seval]
 intro x' hx'
 refine J1 ?_
 obtain ⟨n1, hx'⟩ := Tab.unused_put hx'
 have hT2 : ((T.put id (.row 6 [.i .i64 c.me, .i .i64 c.ma, .ptr r 0, .i .u64 c.sq, .nilptr, ptO c.la x])).put x' (qyu (qrz m))) id = .row 6 [.i .i64 c.me, .i .i64 c.ma, .ptr r 0, .i .u64 c.sq, .nilptr, ptO c.la x] := by
  rw [Tab.put_ne _ _ (Ne.symm n1)]; exact hT1
 simp -implicitDefEqProofs -dsimp only [go_sem, seval]
 refine q4h hT2 rfl rfl (by simp) (J1 ?_)
 have hput : ∀ j, j ≠ id -> T j ≠ .unused -> ∀ A B C, (((T.put id A).put x' B).put id C) j = T j := fun j h1 h2 A B C => by
  rw [Tab.put_ne _ _ h1, Tab.put_ne _ _ (fun e => by subst e; exact h2 hx'), Tab.put_ne _ _ h1]
 have hct : Ct (((T.put id (.row 6 [.i .i64 c.me, .i .i64 c.ma, .ptr r 0, .i .u64 c.sq, .nilptr, ptO c.la x])).put x' (qyu (qrz m))).put id (qb3 { c with w := none, la := some (qrz m) } r w x')) id r l w x' { c with w := none, la := some (qrz m) } := by
  refine ⟨Tab.put_same .., ⟨?_, ?_⟩, ?_, ?_⟩
  ·rw [hput r (Ne.symm h.id_r) (by rw [h.rt.1]; simp)]; exact h.rt.1
  ·rw [hput l (Ne.symm h.id_l) (by rw [h.rt.2]; simp)]; exact h.rt.2
  ·intro q hq; cases hq
  ·intro y hy
   injection hy with hy
   subst hy
   exact ⟨by rw [Tab.put_ne _ _ n1]; exact Tab.put_same .., Ne.symm n1⟩
 have hF : Fr [id, l, w, x] [w, x'] T (((T.put id (.row 6 [.i .i64 c.me, .i .i64 c.ma, .ptr r 0, .i .u64 c.sq, .nilptr, ptO c.la x])).put x' (qyu (qrz m))).put id (qb3 { c with w := none, la := some (qrz m) } r w x')) := by
  refine ⟨fun j h1 h2 => hput j (fun e => h2 (by simp [e])) h1 _ _ _, fun j hj => ?_⟩
  simp only [List.mem_cons, List.not_mem_nil, or_false] at hj
  rcases hj with rfl | rfl
  ·exact .inl (by simp)
  ·exact .inr hx'
 simp -implicitDefEqProofs -dsimp only [go_sem, seval]
 exact V1 _ (fun _ => .inr (.inl rfl)) ⟨rfl, w, x', hct, hF⟩
end Go.Aw
