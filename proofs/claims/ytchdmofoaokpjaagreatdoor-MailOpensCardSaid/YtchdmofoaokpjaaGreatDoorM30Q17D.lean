import Derived.Test.YtchdmofoaokpjaaGreatDoorM30Q17P
namespace Go.Aw
open Go
open Go.Proofs.Tryz (prog)
set_option linter.all false
set_option maxHeartbeats 8000000
set_option maxRecDepth 8000
def lq (g : Option Nat) (o : Lt Cf) (x y w : AV) : List AV := [.i .i64 o.fk, .i .i64 o.fn, .i .i64 o.tk, .i .i64 o.tn, .i .i64 o.k, .i .i64 o.sh, .i .u64 o.ep, .i .i64 o.n, .i .i64 o.m, .i .i64 o.nd, .b o.fl, .i .u64 o.br, .i .i64 o.bn, x, y, w, .i .i64 o.t.cl, .i .u64 o.t.sq, .b o.t.pl, .fz o.t.rs.length (o.t.rs.flatMap rdC) g, .fz o.t.ws.length (o.t.ws.flatMap wtC) g, .i .i64 o.cl, .i .u64 o.sq, .s o.v, .i .u64 o.q, .i .i64 o.co]
section
variable (g : Option Nat) (o : Lt Cf) (x y w v : AV)
theorem q5t : (lq g o x y w).length = 26 := rfl
theorem z6m : (lq g o x y w).take 26 = lq g o x y w := rfl
theorem ze9 : (lq g o x y w)[13]? = some x := rfl
theorem zea : (lq g o x y w)[14]? = some y := rfl
theorem zeb : (lq g o x y w)[15]? = some w := rfl
theorem zfq : (lq g o x y w)[4]? = some (.i .i64 o.k) := rfl
attribute [go_sem] q5t z6m ze9 zea zeb zfq
end
def LtB (g : Option Nat) (B : Tab) (lid rid : Nat) (l : Lt Cf) (x y w : AV) (s : RS) : Tab := (rT B rid s).put lid (.row 26 (lq g l x y w))
structure LtA (g : Option Nat) (B : Tab) (lid rid : Nat) (l : Lt Cf) (s : RS) (x y w : AV) (T : Tab) : Prop where
 ow : Owns (LtB g B lid rid l x y w s) [⟨4, x, l.vs.length, l.vs.flatMap vtC⟩, ⟨5, y, l.cs.length, l.cs.flatMap cfC⟩, ⟨10, w, l.es.length, l.es.flatMap enC⟩] T
 ne : lid ≠ rid
def Frm (x : AV) : Prop := x.plain = true /\ x.isOne = true /\ x.sto = true /\ x.cells = [x] /\ x.isLp = false /\ ∀ k, x.offLp k = x
section
variable {g : Option Nat} {B : Tab} {lid rid : Nat} {l : Lt Cf} {s : RS} {x y w : AV} {T : Tab}
theorem LtB.atl : LtB g B lid rid l x y w s lid = .row 26 (lq g l x y w) := Tab.put_same ..
theorem LtB.atr (h : lid ≠ rid) : LtB g B lid rid l x y w s rid = q69 s := by
 unfold LtB; rw [Tab.put_ne _ _ (Ne.symm h)]; exact Tab.put_same ..
theorem LtA.row (h : LtA g B lid rid l s x y w T) : T lid = .row 26 (lq g l x y w) := by
 have := Owns.base_get (id := lid) (by rw [LtB.atl]; simp) h.ow
 rw [this]; exact LtB.atl
theorem LtA.rd (h : LtA g B lid rid l s x y w T) : T rid = q69 s := by
 have := Owns.base_get (id := rid) (by rw [LtB.atr h.ne]; simp [q69]) h.ow
 rw [this]; exact LtB.atr h.ne
theorem LtA.read (h : LtA g B lid rid l s x y w T) (s' : RS) : LtA g B lid rid l s' x y w (rT T rid s') := by
 have := Owns.base_put (id := rid) (s := q69 s') (by rw [LtB.atr h.ne]; simp [q69]) h.ow
 refine ⟨?_, h.ne⟩
 have e : (LtB g B lid rid l x y w s).put rid (q69 s') = LtB g B lid rid l x y w s' := by
  unfold LtB
  rw [Tab.put_comm _ h.ne]
  show (rT (rT B rid s) rid s').put _ _ = _
  rw [qd6]
 rw [e] at this
 exact this
theorem LtA.set (h : LtA g B lid rid l s x y w T) (l' : Lt Cf) (h1 : l'.vs = l.vs := by rfl) (h2 : l'.cs = l.cs := by rfl) (h3 : l'.es = l.es := by rfl) : LtA g B lid rid l' s x y w (T.put lid (.row 26 (lq g l' x y w))) := by
 have := Owns.base_put (id := lid) (s := .row 26 (lq g l' x y w)) (by rw [LtB.atl]; simp) h.ow
 refine ⟨?_, h.ne⟩
 have e : (LtB g B lid rid l x y w s).put lid (.row 26 (lq g l' x y w)) = LtB g B lid rid l' x y w s := by unfold LtB; rw [Tab.put_put]
 rw [e] at this
 rw [h1, h2, h3]
 exact this
theorem LtA.setg (h : LtA g B lid rid l s x y w T) (g' : Option Nat) (l' : Lt Cf) (h1 : l'.vs = l.vs := by rfl) (h2 : l'.cs = l.cs := by rfl) (h3 : l'.es = l.es := by rfl) : LtA g' B lid rid l' s x y w (T.put lid (.row 26 (lq g' l' x y w))) := by
 have := Owns.base_put (id := lid) (s := .row 26 (lq g' l' x y w)) (by rw [LtB.atl]; simp) h.ow
 refine ⟨?_, h.ne⟩
 have e : (LtB g B lid rid l x y w s).put lid (.row 26 (lq g' l' x y w)) = LtB g' B lid rid l' x y w s := by unfold LtB; rw [Tab.put_put]
 rw [e] at this
 rw [h1, h2, h3]
 exact this
theorem LtA.px (h : LtA g B lid rid l s x y w T) : Frm x := h.ow.form (List.mem_cons_self ..)
theorem LtA.py (h : LtA g B lid rid l s x y w T) : Frm y := h.ow.form (List.mem_cons_of_mem _ (List.mem_cons_self ..))
theorem LtA.pw (h : LtA g B lid rid l s x y w T) : Frm w := h.ow.form (List.mem_cons_of_mem _ (List.mem_cons_of_mem _ (List.mem_cons_self ..)))
theorem LtA.appV (h : LtA g B lid rid l s x y w T) {b : Nat} {k : Option Nat} {v : Vt} {K : AV -> Tab -> Prop} (h1 : l.vs.length <= 1000) (hb : b <= 1000)
  (hk : ∀ x' T2, x'.plain = true /\ x'.isOne = true /\ x'.sto = true /\ x'.cells = [x'] /\ x'.isLp = false /\ (∀ k, x'.offLp k = x') -> T2 lid = .row 26 (lq g l x y w) -> LtA g B lid rid { l with vs := l.vs ++ [v] } s x' y w (T2.put lid (.row 26 (lq g l x' y w))) -> K x' T2) : q1k 4 b T x (.fz 1 (vtC v) k) K := by
 refine h.ow.app (m := 1) (news := vtC v) rfl rfl ?_ (by simp only; omega) fun x' T2 h2 => ?_
 ·simp only
  have : (l.vs.length + 1) * b <= 1001 * 1000 := Nat.mul_le_mul (by omega) hb
  omega
 have hr : T2 lid = .row 26 (lq g l x y w) := by rw [Owns.base_get (id := lid) (by rw [LtB.atl]; simp) h2]; exact LtB.atl
 refine hk x' T2 (h2.form (List.mem_cons_self ..)) hr ⟨?_, h.ne⟩
 have := Owns.base_put (id := lid) (s := .row 26 (lq g l x' y w)) (by rw [LtB.atl]; simp) h2
 have e : (LtB g B lid rid l x y w s).put lid (.row 26 (lq g l x' y w)) = LtB g B lid rid l x' y w s := by unfold LtB; rw [Tab.put_put]
 rw [e] at this
 show Owns (LtB g B lid rid l x' y w s) _ _
 simpa only [List.length_append, List.length_cons, List.length_nil, Nat.zero_add, List.flatMap_append, List.flatMap_cons, List.flatMap_nil, List.append_nil] using this
theorem LtA.appC (h : LtA g B lid rid l s x y w T) {b : Nat} {k : Option Nat} {v : Cf} {K : AV -> Tab -> Prop} (h1 : l.cs.length <= 1000) (hb : b <= 1000)
  (hk : ∀ x' T2, x'.plain = true /\ x'.isOne = true /\ x'.sto = true /\ x'.cells = [x'] /\ x'.isLp = false /\ (∀ k, x'.offLp k = x') -> T2 lid = .row 26 (lq g l x y w) -> LtA g B lid rid { l with cs := l.cs ++ [v] } s x x' w (T2.put lid (.row 26 (lq g l x x' w))) -> K x' T2) : q1k 5 b T y (.fz 1 (cfC v) k) K := by
 refine h.ow.swap.app (m := 1) (news := cfC v) rfl rfl ?_ (by simp only; omega) fun x' T2 h2 => ?_
 ·simp only
  have : (l.cs.length + 1) * b <= 1001 * 1000 := Nat.mul_le_mul (by omega) hb
  omega
 have hr : T2 lid = .row 26 (lq g l x y w) := by rw [Owns.base_get (id := lid) (by rw [LtB.atl]; simp) h2]; exact LtB.atl
 refine hk x' T2 (h2.form (List.mem_cons_self ..)) hr ⟨?_, h.ne⟩
 have := Owns.base_put (id := lid) (s := .row 26 (lq g l x x' w)) (by rw [LtB.atl]; simp) h2.swap
 have e : (LtB g B lid rid l x y w s).put lid (.row 26 (lq g l x x' w)) = LtB g B lid rid l x x' w s := by unfold LtB; rw [Tab.put_put]
 rw [e] at this
 show Owns (LtB g B lid rid l x x' w s) _ _
 simpa only [List.length_append, List.length_cons, List.length_nil, Nat.zero_add, List.flatMap_append, List.flatMap_cons, List.flatMap_nil, List.append_nil] using this
theorem LtA.appE (h : LtA g B lid rid l s x y w T) {b : Nat} {k : Option Nat} {v : En} {K : AV -> Tab -> Prop} (h1 : l.es.length <= 1000) (hb : b <= 1000)
  (hk : ∀ x' T2, x'.plain = true /\ x'.isOne = true /\ x'.sto = true /\ x'.cells = [x'] /\ x'.isLp = false /\ (∀ k, x'.offLp k = x') -> T2 lid = .row 26 (lq g l x y w) -> LtA g B lid rid { l with es := l.es ++ [v] } s x y x' (T2.put lid (.row 26 (lq g l x y x'))) -> K x' T2) : q1k 10 b T w (.fz 1 (enC v) k) K := by
 refine (Owns.bring (l := [_, _]) h.ow).app (m := 1) (news := enC v) rfl rfl ?_ (by simp only; omega) fun x' T2 h2 => ?_
 ·simp only
  have : (l.es.length + 1) * b <= 1001 * 1000 := Nat.mul_le_mul (by omega) hb
  omega
 have hr : T2 lid = .row 26 (lq g l x y w) := by rw [Owns.base_get (id := lid) (by rw [LtB.atl]; simp) h2]; exact LtB.atl
 refine hk x' T2 (h2.form (List.mem_cons_self ..)) hr ⟨?_, h.ne⟩
 have := Owns.base_put (id := lid) (s := .row 26 (lq g l x y x')) (by rw [LtB.atl]; simp) (Owns.bring (l := [_, _]) (Owns.bring (l := [_, _]) h2))
 have e : (LtB g B lid rid l x y w s).put lid (.row 26 (lq g l x y x')) = LtB g B lid rid l x y x' s := by unfold LtB; rw [Tab.put_put]
 rw [e] at this
 show Owns (LtB g B lid rid l x y x' s) _ _
 simpa only [List.append_eq, List.cons_append, List.nil_append, List.length_append, List.length_cons, List.length_nil, Nat.zero_add, List.flatMap_append, List.flatMap_cons, List.flatMap_nil, List.append_nil] using this
end
end Go.Aw
namespace Go.Aw
open Go
open Go.Proofs.Tryz (prog)
set_option linter.all false
set_option maxHeartbeats 8000000
set_option maxRecDepth 8000
section
variable (g : Option Nat) (o : Lt Cf) (x y w v : AV)
theorem zec : q07 (lq g o x y w) 13 [v] = lq g o v y w := rfl
theorem zed : q07 (lq g o x y w) 14 [v] = lq g o x v w := rfl
theorem zee : q07 (lq g o x y w) 15 [v] = lq g o x y v := rfl
end
theorem z06 (s : RS) : (rVt s).2.1.length <= s.1.length := Nat.le_trans (q6o _ _) (Nat.le_trans (qp2 _) (O7 _ _))
theorem z07 (s : RS) : (rCo s).2.1.length <= s.1.length := z5x s
theorem z08 (s : RS) : (rEy s).2.1.length <= s.1.length := q6o 2048 s
theorem z6n {R : G9} (hR : ExtR R) {g : Option Nat} {B : Tab} {lid rid : Nat} : ∀ (n : Nat) (s : RS) (l : Lt Cf) (x y w : AV) (T1 : Tab), n <= 400 -> l.vs.length + n <= 1000 -> Len s.1.length ->
  LtA g B lid rid l s x y w T1 ->
  (∀ x T1 m, LtA g B lid rid { l with vs := l.vs ++ (Y1 rVt n s).1 } (Y1 rVt n s).2 x y w T1 -> R (.exit 1) [(0, .ptr lid 0), (1, .ptr rid 0), (6, .i .i64 m), (25, .b false)] [] T1) ->
  AW prog q2r R [(0, .ptr lid 0), (1, .ptr rid 0), (6, .i .i64 n)] [] T1 := by
 intro n
 induction n with
 | zero =>
  intro s l x y w T1 hn hos hl ho h2
  refine V1 hR ?_
  unfold q2a
  simp -implicitDefEqProofs -dsimp only [go_sem, seval, show ((0 : Nat) : Int) = 0 from rfl, ↓Q2, I2, true_and, decide_false]
  exact h2 x T1 0 (by simpa [Y1] using ho)
 | succ n ih =>
  intro s l x y w T1 hn hos hl ho h2
  obtain ⟨p1, p2, p3, p4, p5, p6⟩ := ho.px
  have hpos : decide ((0 : Int) < ((n + 1 : Nat) : Int)) = true := decide_eq_true (by omega)
  refine Q1 (l := q2r) rfl hR ?_
  unfold q2a
  simp -implicitDefEqProofs -dsimp only [go_sem, seval, hpos, ↓Q2, I2, true_and, ↓J0 _ _ U4]
  refine can (qd7 ho.rd) ?_
  rcases hb : s.2 with _ | _
  case true =>
   have e : Y1 rVt (n + 1) s = ([], s) := by simp [Y1, hb]
   rw [e] at h2
   simp -implicitDefEqProofs -dsimp only [go_sem, seval, hb]
   exact h2 x T1 _ (by simpa using ho)
  have e : Y1 rVt (n + 1) s = ((rVt s).1 :: (Y1 rVt n (rVt s).2).1, (Y1 rVt n (rVt s).2).2) := by simp [Y1, hb]
  rw [e] at h2
  have ho1 := ho.read (K3 1048576 s).2
  have ho2 := ho1.read (qjg (K3 1048576 s).2).2
  have ho3 := ho2.read (rVt s).2
  have l1 := q14 (O7 1048576 s) hl
  have l2 := q14 (qp2 (K3 1048576 s).2) l1
  have hr3 := ho3.row
  simp -implicitDefEqProofs -dsimp only [go_sem, seval, hb, ↓J0 _ _ N2]
  refine can (q45 ho.rd 1048576 (by decide) hl) ?_
  simp -implicitDefEqProofs -dsimp only [go_sem, seval, ↓J0 _ _ qgd]
  refine can (qut ho1.rd l1) ?_
  simp -implicitDefEqProofs -dsimp only [go_sem, seval, ↓J0 _ _ q13]
  refine can (qhm ho2.rd 64 (by decide) l2) ?_
  have hr3' : rT (rT (rT T1 rid (K3 1048576 s).2) rid (qjg (K3 1048576 s).2).2) rid (q1q 64 (qjg (K3 1048576 s).2).2).2 lid = .row 26 (lq g l x y w) := hr3
  simp -implicitDefEqProofs -dsimp only [go_sem, seval, hr3', p1, p2, p3, p4, p5, p6]
  refine ho3.appV (v := (rVt s).1) (by omega) (by decide) fun x' T2 hx hT ho4 => J1 ?_
  obtain ⟨p1, p2, p3, p4, p5, p6⟩ := hx
  simp -implicitDefEqProofs -dsimp only [go_sem, seval, p1, p2, p3, p4, p5, p6]
  refine q11 hT p3 (by rw [p4]; rfl) (by rw [q5t]; decide) (J1 ?_)
  rw [p4, zec]
  simp -implicitDefEqProofs -dsimp only [go_sem, seval]
  rw [qa9 (by omega)]
  refine ih (rVt s).2 _ _ y w _ (by omega) (by simp only [List.length_append, List.length_cons, List.length_nil]; omega) (q14 (z06 s) hl) ho4 fun x T1 m ho => h2 x T1 m ?_
  simpa only [List.append_assoc, List.cons_append, List.nil_append] using ho
theorem z6o {R : G9} (hR : ExtR R) {g : Option Nat} {B : Tab} {lid rid : Nat} : ∀ (n : Nat) (s : RS) (l : Lt Cf) (x y w : AV) (T1 : Tab), n <= 400 -> l.cs.length + n <= 1000 -> Len s.1.length ->
  LtA g B lid rid l s x y w T1 ->
  (∀ y T1 m, LtA g B lid rid { l with cs := l.cs ++ (Y1 rCo n s).1 } (Y1 rCo n s).2 x y w T1 -> R (.exit 3) [(0, .ptr lid 0), (1, .ptr rid 0), (8, .i .i64 m), (57, .b false)] [] T1) ->
  AW prog q2s R [(0, .ptr lid 0), (1, .ptr rid 0), (8, .i .i64 n)] [] T1 := by
 intro n
 induction n with
 | zero =>
  intro s l x y w T1 hn hos hl ho h2
  refine V1 hR ?_
  unfold q2b
  simp -implicitDefEqProofs -dsimp only [go_sem, seval, show ((0 : Nat) : Int) = 0 from rfl, ↓Q2, I2, true_and, decide_false]
  exact h2 y T1 0 (by simpa [Y1] using ho)
 | succ n ih =>
  intro s l x y w T1 hn hos hl ho h2
  obtain ⟨p1, p2, p3, p4, p5, p6⟩ := ho.py
  have hpos : decide ((0 : Int) < ((n + 1 : Nat) : Int)) = true := decide_eq_true (by omega)
  refine Q1 (l := q2s) rfl hR ?_
  unfold q2b
  simp -implicitDefEqProofs -dsimp only [go_sem, seval, hpos, ↓Q2, I2, true_and, ↓J0 _ _ U4]
  refine can (qd7 ho.rd) ?_
  rcases hb : s.2 with _ | _
  case true =>
   have e : Y1 rCo (n + 1) s = ([], s) := by simp [Y1, hb]
   rw [e] at h2
   simp -implicitDefEqProofs -dsimp only [go_sem, seval, hb]
   exact h2 y T1 _ (by simpa using ho)
  have e : Y1 rCo (n + 1) s = ((rCo s).1 :: (Y1 rCo n (rCo s).2).1, (Y1 rCo n (rCo s).2).2) := by simp [Y1, hb]
  rw [e] at h2
  have ho3 := ho.read (rCo s).2
  have hr3 : rT T1 rid (rCf s).2 lid = .row 26 (lq g l x y w) := ho3.row
  have hac : ACalls prog q8l [.ptr rid 0] T1 (fun v T' => v = .tup [.agg ((rCo s).1.cells none none), .b (qmr s)] /\ T' = rT T1 rid (rCf s).2) := z39 ho.rd hl
  generalize hE : (rCo s).1 = E at *
  simp -implicitDefEqProofs -dsimp only [go_sem, seval, hb, ↓J0 _ _ qsa]
  refine can hac ?_
  simp -implicitDefEqProofs -dsimp only [go_sem, seval, Cf.cells, hr3, p1, p2, p3, p4, p5, p6]
  refine ho3.appC (v := E) (by omega) (by decide) fun x' T2 hx hT ho4 => J1 ?_
  obtain ⟨p1, p2, p3, p4, p5, p6⟩ := hx
  simp -implicitDefEqProofs -dsimp only [go_sem, seval, p1, p2, p3, p4, p5, p6]
  refine q11 hT p3 (by rw [p4]; rfl) (by rw [q5t]; decide) (J1 ?_)
  rw [p4, zed]
  simp -implicitDefEqProofs -dsimp only [go_sem, seval]
  rw [qa9 (by omega)]
  refine ih (rCo s).2 _ x _ w _ (by omega) (by simp only [List.length_append, List.length_cons, List.length_nil]; omega) (q14 (z07 s) hl) ho4 fun x T1 m ho => h2 x T1 m ?_
  simpa only [List.append_assoc, List.cons_append, List.nil_append] using ho
theorem z6p {R : G9} (hR : ExtR R) {g : Option Nat} {B : Tab} {lid rid : Nat} : ∀ (n : Nat) (s : RS) (l : Lt Cf) (x y w : AV) (T1 : Tab), n <= 400 -> l.es.length + n <= 1000 -> Len s.1.length ->
  LtA g B lid rid l s x y w T1 ->
  (∀ w T1 m, LtA g B lid rid { l with es := l.es ++ (Y1 rEy n s).1 } (Y1 rEy n s).2 x y w T1 -> R (.exit 5) [(0, .ptr lid 0), (1, .ptr rid 0), (11, .i .i64 m), (85, .b false)] [] T1) ->
  AW prog q2t R [(0, .ptr lid 0), (1, .ptr rid 0), (11, .i .i64 n)] [] T1 := by
 intro n
 induction n with
 | zero =>
  intro s l x y w T1 hn hos hl ho h2
  refine V1 hR ?_
  unfold q2c
  simp -implicitDefEqProofs -dsimp only [go_sem, seval, show ((0 : Nat) : Int) = 0 from rfl, ↓Q2, I2, true_and, decide_false]
  exact h2 w T1 0 (by simpa [Y1] using ho)
 | succ n ih =>
  intro s l x y w T1 hn hos hl ho h2
  obtain ⟨p1, p2, p3, p4, p5, p6⟩ := ho.pw
  have hpos : decide ((0 : Int) < ((n + 1 : Nat) : Int)) = true := decide_eq_true (by omega)
  refine Q1 (l := q2t) rfl hR ?_
  unfold q2c
  simp -implicitDefEqProofs -dsimp only [go_sem, seval, hpos, ↓Q2, I2, true_and, ↓J0 _ _ U4]
  refine can (qd7 ho.rd) ?_
  rcases hb : s.2 with _ | _
  case true =>
   have e : Y1 rEy (n + 1) s = ([], s) := by simp [Y1, hb]
   rw [e] at h2
   simp -implicitDefEqProofs -dsimp only [go_sem, seval, hb]
   exact h2 w T1 _ (by simpa using ho)
  have e : Y1 rEy (n + 1) s = ((rEy s).1 :: (Y1 rEy n (rEy s).2).1, (Y1 rEy n (rEy s).2).2) := by simp [Y1, hb]
  rw [e] at h2
  have ho3 := ho.read (rEy s).2
  have hr3 : rT T1 rid (q1q 2048 s).2 lid = .row 26 (lq g l x y w) := ho3.row
  have ht := qfz 2048 s
  have pc : ∀ c, PCalls prog q8m [bts (q1q 2048 s).1 c] (.tup [.agg ((rEy s).1.cells none none), .i .i64 (q57 (q1p ((q1q 2048 s).1, false)))]) := fun c => zac _ c (by omega)
  generalize hE : (rEy s).1 = E at *
  generalize hC : q57 (q1p ((q1q 2048 s).1, false)) = C at *
  simp -implicitDefEqProofs -dsimp only [go_sem, seval, hb, ↓J0 _ _ q13]
  refine can (qhm ho.rd 2048 (by decide) hl) ?_
  simp -implicitDefEqProofs -dsimp only [go_sem, seval, ↓J0 _ _ qsd]
  refine cpn (pc _) ?_
  simp -implicitDefEqProofs -dsimp only [go_sem, seval, En.cells, hr3, p1, p2, p3, p4, p5, p6]
  refine ho3.appE (v := E) (by omega) (by decide) fun x' T2 hx hT ho4 => J1 ?_
  obtain ⟨p1, p2, p3, p4, p5, p6⟩ := hx
  simp -implicitDefEqProofs -dsimp only [go_sem, seval, p1, p2, p3, p4, p5, p6]
  refine q11 hT p3 (by rw [p4]; rfl) (by rw [q5t]; decide) (J1 ?_)
  rw [p4, zee]
  simp -implicitDefEqProofs -dsimp only [go_sem, seval]
  rw [qa9 (by omega)]
  refine ih (rEy s).2 _ x y _ _ (by omega) (by simp only [List.length_append, List.length_cons, List.length_nil]; omega) (q14 (z08 s) hl) ho4 fun x T1 m ho => h2 x T1 m ?_
  simpa only [List.append_assoc, List.cons_append, List.nil_append] using ho
end Go.Aw
