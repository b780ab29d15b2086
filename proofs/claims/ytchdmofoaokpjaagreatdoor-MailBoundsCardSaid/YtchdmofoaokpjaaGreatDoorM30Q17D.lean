import Derived.Test.YtchdmofoaokpjaaGreatDoorM30Q17P
namespace Go.Aw
open Go
open Go.Proofs.Tryz (prog)
set_option linter.all false
set_option maxHeartbeats 8000000
set_option maxRecDepth 8000
def lq (g : Option Nat) (o : Lt Cf) (x y w : AV) : List AV := [.i .i64 o.fk, .i .i64 o.fn, .i .i64 o.tk, .i .i64 o.tn, .i .i64 o.k, .i .i64 o.sh, .i .u64 o.ep, .i .i64 o.n, .i .i64 o.m, .i .i64 o.nd, .b o.fl, .i .u64 o.br, .i .i64 o.bn, x, y, w, .i .i64 o.t.cl, .i .u64 o.t.sq, .b o.t.pl, .fz o.t.rs.length (o.t.rs.flatMap rdC) g, .fz o.t.ws.length (o.t.ws.flatMap wtC) g, .i .i64 o.cl, .i .u64 o.sq, .s o.v, .i .u64 o.q, .i .i64 o.co]
section
variable (g : Option Nat) (o : Lt Cf) (x y w v : AV)
theorem q52 : (lq g o x y w).length = 26 := rfl
theorem z45 : (lq g o x y w).take 26 = lq g o x y w := rfl
theorem zbg : (lq g o x y w)[13]? = some x := rfl
theorem zbh : (lq g o x y w)[14]? = some y := rfl
theorem zbi : (lq g o x y w)[15]? = some w := rfl
theorem zcx : (lq g o x y w)[4]? = some (.i .i64 o.k) := rfl
attribute [go_sem] q52 z45 zbg zbh zbi zcx
end
def LtB (g : Option Nat) (B : Tab) (lid rid : Nat) (l : Lt Cf) (x y w : AV) (s : RS) : Tab := (rT B rid s).put lid (.row 26 (lq g l x y w))
structure LtA (g : Option Nat) (B : Tab) (lid rid : Nat) (l : Lt Cf) (s : RS) (x y w : AV) (T : Tab) : Prop where
 ow : Owns (LtB g B lid rid l x y w s) [⟨4, x, l.vs.length, l.vs.flatMap vtC⟩, ⟨5, y, l.cs.length, l.cs.flatMap cfC⟩, ⟨10, w, l.es.length, l.es.flatMap enC⟩] T
 ne : lid ≠ rid
def Frm (x : AV) : Prop := x.plain = true /\ x.isOne = true /\ x.sto = true /\ x.cells = [x] /\ x.isLp = false /\ ∀ k, x.offLp k = x
section
variable {g : Option Nat} {B : Tab} {lid rid : Nat} {l : Lt Cf} {s : RS} {x y w : AV} {T : Tab}
theorem LtB.atl : LtB g B lid rid l x y w s lid = .row 26 (lq g l x y w) := Tab.put_same ..
theorem LtB.atr (h : lid ≠ rid) : LtB g B lid rid l x y w s rid = q5k s := by
 unfold LtB; rw [Tab.put_ne _ _ (Ne.symm h)]; exact Tab.put_same ..
theorem LtA.row (h : LtA g B lid rid l s x y w T) : T lid = .row 26 (lq g l x y w) := by
 have := Owns.base_get (id := lid) (by rw [LtB.atl]; simp) h.ow
 rw [this]; exact LtB.atl
theorem LtA.rd (h : LtA g B lid rid l s x y w T) : T rid = q5k s := by
 have := Owns.base_get (id := rid) (by rw [LtB.atr h.ne]; simp [q5k]) h.ow
 rw [this]; exact LtB.atr h.ne
theorem LtA.read (h : LtA g B lid rid l s x y w T) (s' : RS) : LtA g B lid rid l s' x y w (rT T rid s') := by
 have := Owns.base_put (id := rid) (s := q5k s') (by rw [LtB.atr h.ne]; simp [q5k]) h.ow
 refine ⟨?_, h.ne⟩
 have e : (LtB g B lid rid l x y w s).put rid (q5k s') = LtB g B lid rid l x y w s' := by
  unfold LtB
  rw [Tab.put_comm _ h.ne]
  show (rT (rT B rid s) rid s').put _ _ = _
  rw [qbx]
 rw [e] at this
 exact this
theorem LtA.set (h : LtA g B lid rid l s x y w T) (l' : Lt Cf) (h1 : l'.vs = l.vs := by rfl) (h2 : l'.cs = l.cs := by rfl) (h3 : l'.es = l.es := by rfl) : LtA g B lid rid l' s x y w (T.put lid (.row 26 (lq g l' x y w))) := by
 have := Owns.base_put (id := lid) (s := .row 26 (lq g l' x y w)) (by rw [LtB.atl]; simp) h.ow
 refine ⟨?_, h.ne⟩
 have e : (LtB g B lid rid l x y w s).put lid (.row 26 (lq g l' x y w)) = LtB g B lid rid l' x y w s := by unfold LtB; rw [Tab.put_put]
 rw [e] at this
 rw [h1, h2, h3]
 exact this
theorem LtA.setg (h : LtA g B lid rid l s x y w T) (g' : Option Nat) (l' : Lt Cf) (h1 : l'.vs = l.vs := by rfl) (h2 : l'.cs = l.cs := by rfl) (h3 : l'.es = l.es := by rfl) : LtA g' B lid rid l' s x y w (T.put lid (.row 26 (lq g' l' x y w))) := by
 have := Owns.base_put (id := lid) (s := .row 26 (lq g' l' x y w)) (by rw [LtB.atl]; simp) h.ow
 refine ⟨?_, h.ne⟩
 have e : (LtB g B lid rid l x y w s).put lid (.row 26 (lq g' l' x y w)) = LtB g' B lid rid l' x y w s := by unfold LtB; rw [Tab.put_put]
 rw [e] at this
 rw [h1, h2, h3]
 exact this
theorem LtA.px (h : LtA g B lid rid l s x y w T) : Frm x := h.ow.form (List.mem_cons_self ..)
theorem LtA.py (h : LtA g B lid rid l s x y w T) : Frm y := h.ow.form (List.mem_cons_of_mem _ (List.mem_cons_self ..))
theorem LtA.pw (h : LtA g B lid rid l s x y w T) : Frm w := h.ow.form (List.mem_cons_of_mem _ (List.mem_cons_of_mem _ (List.mem_cons_self ..)))
theorem LtA.appV (h : LtA g B lid rid l s x y w T) {b : Nat} {k : Option Nat} {v : Vt} {K : AV -> Tab -> Prop} (h1 : l.vs.length <= 1000) (hb : b <= 1000)
  (hk : ∀ x' T2, x'.plain = true /\ x'.isOne = true /\ x'.sto = true /\ x'.cells = [x'] /\ x'.isLp = false /\ (∀ k, x'.offLp k = x') -> T2 lid = .row 26 (lq g l x y w) -> LtA g B lid rid { l with vs := l.vs ++ [v] } s x' y w (T2.put lid (.row 26 (lq g l x' y w))) -> K x' T2) : q1h 4 b T x (.fz 1 (vtC v) k) K := by
 refine h.ow.app (m := 1) (news := vtC v) rfl rfl ?_ (by simp only; omega) fun x' T2 h2 => ?_
 ·simp only
  have : (l.vs.length + 1) * b <= 1001 * 1000 := Nat.mul_le_mul (by omega) hb
  omega
 have hr : T2 lid = .row 26 (lq g l x y w) := by rw [Owns.base_get (id := lid) (by rw [LtB.atl]; simp) h2]; exact LtB.atl
 refine hk x' T2 (h2.form (List.mem_cons_self ..)) hr ⟨?_, h.ne⟩
 have := Owns.base_put (id := lid) (s := .row 26 (lq g l x' y w)) (by rw [LtB.atl]; simp) h2
 have e : (LtB g B lid rid l x y w s).put lid (.row 26 (lq g l x' y w)) = LtB g B lid rid l x' y w s := by unfold LtB; rw [Tab.put_put]
 rw [e] at this
 show Owns (LtB g B lid rid l x' y w s) _ _
 simpa only [List.length_append, List.length_cons, List.length_nil, Nat.zero_add, List.flatMap_append, List.flatMap_cons, List.flatMap_nil, List.append_nil] using this
theorem LtA.appC (h : LtA g B lid rid l s x y w T) {b : Nat} {k : Option Nat} {v : Cf} {K : AV -> Tab -> Prop} (h1 : l.cs.length <= 1000) (hb : b <= 1000)
  (hk : ∀ x' T2, x'.plain = true /\ x'.isOne = true /\ x'.sto = true /\ x'.cells = [x'] /\ x'.isLp = false /\ (∀ k, x'.offLp k = x') -> T2 lid = .row 26 (lq g l x y w) -> LtA g B lid rid { l with cs := l.cs ++ [v] } s x x' w (T2.put lid (.row 26 (lq g l x x' w))) -> K x' T2) : q1h 5 b T y (.fz 1 (cfC v) k) K := by
 refine h.ow.swap.app (m := 1) (news := cfC v) rfl rfl ?_ (by simp only; omega) fun x' T2 h2 => ?_
 ·simp only
  have : (l.cs.length + 1) * b <= 1001 * 1000 := Nat.mul_le_mul (by omega) hb
  omega
 have hr : T2 lid = .row 26 (lq g l x y w) := by rw [Owns.base_get (id := lid) (by rw [LtB.atl]; simp) h2]; exact LtB.atl
 refine hk x' T2 (h2.form (List.mem_cons_self ..)) hr ⟨?_, h.ne⟩
 have := Owns.base_put (id := lid) (s := .row 26 (lq g l x x' w)) (by rw [LtB.atl]; simp) h2.swap
 have e : (LtB g B lid rid l x y w s).put lid (.row 26 (lq g l x x' w)) = LtB g B lid rid l x x' w s := by unfold LtB; rw [Tab.put_put]
 rw [e] at this
 show Owns (LtB g B lid rid l x x' w s) _ _
 simpa only [List.length_append, List.length_cons, List.length_nil, Nat.zero_add, List.flatMap_append, List.flatMap_cons, List.flatMap_nil, List.append_nil] using this
theorem LtA.appE (h : LtA g B lid rid l s x y w T) {b : Nat} {k : Option Nat} {v : En} {K : AV -> Tab -> Prop} (h1 : l.es.length <= 1000) (hb : b <= 1000)
  (hk : ∀ x' T2, x'.plain = true /\ x'.isOne = true /\ x'.sto = true /\ x'.cells = [x'] /\ x'.isLp = false /\ (∀ k, x'.offLp k = x') -> T2 lid = .row 26 (lq g l x y w) -> LtA g B lid rid { l with es := l.es ++ [v] } s x y x' (T2.put lid (.row 26 (lq g l x y x'))) -> K x' T2) : q1h 10 b T w (.fz 1 (enC v) k) K := by
 refine (Owns.bring (l := [_, _]) h.ow).app (m := 1) (news := enC v) rfl rfl ?_ (by simp only; omega) fun x' T2 h2 => ?_
 ·simp only
  have : (l.es.length + 1) * b <= 1001 * 1000 := Nat.mul_le_mul (by omega) hb
  omega
 have hr : T2 lid = .row 26 (lq g l x y w) := by rw [Owns.base_get (id := lid) (by rw [LtB.atl]; simp) h2]; exact LtB.atl
 refine hk x' T2 (h2.form (List.mem_cons_self ..)) hr ⟨?_, h.ne⟩
 have := Owns.base_put (id := lid) (s := .row 26 (lq g l x y x')) (by rw [LtB.atl]; simp) (Owns.bring (l := [_, _]) (Owns.bring (l := [_, _]) h2))
 have e : (LtB g B lid rid l x y w s).put lid (.row 26 (lq g l x y x')) = LtB g B lid rid l x y x' s := by unfold LtB; rw [Tab.put_put]
 rw [e] at this
 show Owns (LtB g B lid rid l x y x' s) _ _
 simpa only [List.append_eq, List.cons_append, List.nil_append, List.length_append, List.length_cons, List.length_nil, Nat.zero_add, List.flatMap_append, List.flatMap_cons, List.flatMap_nil, List.append_nil] using this
end
end Go.Aw
namespace Go.Aw
open Go
open Go.Proofs.Tryz (prog)
set_option linter.all false
set_option maxHeartbeats 8000000
set_option maxRecDepth 8000
section
variable (g : Option Nat) (o : Lt Cf) (x y w v : AV)
theorem zbj : q0a (lq g o x y w) 13 [v] = lq g o v y w := rfl
theorem zbk : q0a (lq g o x y w) 14 [v] = lq g o x v w := rfl
theorem zbl : q0a (lq g o x y w) 15 [v] = lq g o x y v := rfl
end
theorem qyc (s : RS) : (rVt s).2.1.length <= s.1.length := Nat.le_trans (q5y _ _) (Nat.le_trans (qns _) (O5 _ _))
theorem qyd (s : RS) : (rCo s).2.1.length <= s.1.length := z3h s
theorem qye (s : RS) : (rEy s).2.1.length <= s.1.length := q5y 2048 s
theorem z46 {R : q02} (hR : ExtR R) {g : Option Nat} {B : Tab} {lid rid : Nat} : ∀ (n : Nat) (s : RS) (l : Lt Cf) (x y w : AV) (T1 : Tab), n <= 400 -> l.vs.length + n <= 1000 -> Len s.1.length ->
  LtA g B lid rid l s x y w T1 ->
  (∀ x T1 m, LtA g B lid rid { l with vs := l.vs ++ (V8 rVt n s).1 } (V8 rVt n s).2 x y w T1 -> R (.exit 1) [(0, .ptr lid 0), (1, .ptr rid 0), (6, .i .i64 m), (25, .b false)] [] T1) ->
  AW prog q2k R [(0, .ptr lid 0), (1, .ptr rid 0), (6, .i .i64 n)] [] T1 := by
 intro n
 induction n with
 | zero =>
  intro s l x y w T1 hn hos hl ho h2
  refine Y2 hR ?_
  unfold q24
  simp -implicitDefEqProofs -dsimp only [go_sem, seval, show ((0 : Nat) : Int) = 0 from rfl, ↓Q0, G8, true_and, decide_false]
  exact h2 x T1 0 (by simpa [V8] using ho)
 | succ n ih =>
  intro s l x y w T1 hn hos hl ho h2
  obtain ⟨p1, p2, p3, p4, p5, p6⟩ := ho.px
  have hpos : decide ((0 : Int) < ((n + 1 : Nat) : Int)) = true := decide_eq_true (by omega)
  refine Q8 (l := q2k) rfl hR ?_
  unfold q24
  simp -implicitDefEqProofs -dsimp only [go_sem, seval, hpos, ↓Q0, G8, true_and, ↓J0 _ _ U3]
  refine can (qby ho.rd) ?_
  rcases hb : s.2 with _ | _
  case true =>
   have e : V8 rVt (n + 1) s = ([], s) := by simp [V8, hb]
   rw [e] at h2
   simp -implicitDefEqProofs -dsimp only [go_sem, seval, hb]
   exact h2 x T1 _ (by simpa using ho)
  have e : V8 rVt (n + 1) s = ((rVt s).1 :: (V8 rVt n (rVt s).2).1, (V8 rVt n (rVt s).2).2) := by simp [V8, hb]
  rw [e] at h2
  have ho1 := ho.read (K3 1048576 s).2
  have ho2 := ho1.read (qi5 (K3 1048576 s).2).2
  have ho3 := ho2.read (rVt s).2
  have l1 := q0z (O5 1048576 s) hl
  have l2 := q0z (qns (K3 1048576 s).2) l1
  have hr3 := ho3.row
  simp -implicitDefEqProofs -dsimp only [go_sem, seval, hb, ↓J0 _ _ N1]
  refine can (q3s ho.rd 1048576 (by decide) hl) ?_
  simp -implicitDefEqProofs -dsimp only [go_sem, seval, ↓J0 _ _ qez]
  refine can (qtd ho1.rd l1) ?_
  simp -implicitDefEqProofs -dsimp only [go_sem, seval, ↓J0 _ _ q0y]
  refine can (qg6 ho2.rd 64 (by decide) l2) ?_
  have hr3' : rT (rT (rT T1 rid (K3 1048576 s).2) rid (qi5 (K3 1048576 s).2).2) rid (q1n 64 (qi5 (K3 1048576 s).2).2).2 lid = .row 26 (lq g l x y w) := hr3
  simp -implicitDefEqProofs -dsimp only [go_sem, seval, hr3', p1, p2, p3, p4, p5, p6]
  refine ho3.appV (v := (rVt s).1) (by omega) (by decide) fun x' T2 hx hT ho4 => J1 ?_
  obtain ⟨p1, p2, p3, p4, p5, p6⟩ := hx
  simp -implicitDefEqProofs -dsimp only [go_sem, seval, p1, p2, p3, p4, p5, p6]
  refine q15 hT p3 (by rw [p4]; rfl) (by rw [q52]; decide) (J1 ?_)
  rw [p4, zbj]
  simp -implicitDefEqProofs -dsimp only [go_sem, seval]
  rw [q96 (by omega)]
  refine ih (rVt s).2 _ _ y w _ (by omega) (by simp only [List.length_append, List.length_cons, List.length_nil]; omega) (q0z (qyc s) hl) ho4 fun x T1 m ho => h2 x T1 m ?_
  simpa only [List.append_assoc, List.cons_append, List.nil_append] using ho
theorem z47 {R : q02} (hR : ExtR R) {g : Option Nat} {B : Tab} {lid rid : Nat} : ∀ (n : Nat) (s : RS) (l : Lt Cf) (x y w : AV) (T1 : Tab), n <= 400 -> l.cs.length + n <= 1000 -> Len s.1.length ->
  LtA g B lid rid l s x y w T1 ->
  (∀ y T1 m, LtA g B lid rid { l with cs := l.cs ++ (V8 rCo n s).1 } (V8 rCo n s).2 x y w T1 -> R (.exit 3) [(0, .ptr lid 0), (1, .ptr rid 0), (8, .i .i64 m), (57, .b false)] [] T1) ->
  AW prog q2l R [(0, .ptr lid 0), (1, .ptr rid 0), (8, .i .i64 n)] [] T1 := by
 intro n
 induction n with
 | zero =>
  intro s l x y w T1 hn hos hl ho h2
  refine Y2 hR ?_
  unfold q25
  simp -implicitDefEqProofs -dsimp only [go_sem, seval, show ((0 : Nat) : Int) = 0 from rfl, ↓Q0, G8, true_and, decide_false]
  exact h2 y T1 0 (by simpa [V8] using ho)
 | succ n ih =>
  intro s l x y w T1 hn hos hl ho h2
  obtain ⟨p1, p2, p3, p4, p5, p6⟩ := ho.py
  have hpos : decide ((0 : Int) < ((n + 1 : Nat) : Int)) = true := decide_eq_true (by omega)
  refine Q8 (l := q2l) rfl hR ?_
  unfold q25
  simp -implicitDefEqProofs -dsimp only [go_sem, seval, hpos, ↓Q0, G8, true_and, ↓J0 _ _ U3]
  refine can (qby ho.rd) ?_
  rcases hb : s.2 with _ | _
  case true =>
   have e : V8 rCo (n + 1) s = ([], s) := by simp [V8, hb]
   rw [e] at h2
   simp -implicitDefEqProofs -dsimp only [go_sem, seval, hb]
   exact h2 y T1 _ (by simpa using ho)
  have e : V8 rCo (n + 1) s = ((rCo s).1 :: (V8 rCo n (rCo s).2).1, (V8 rCo n (rCo s).2).2) := by simp [V8, hb]
  rw [e] at h2
  have ho3 := ho.read (rCo s).2
  have hr3 : rT T1 rid (rCf s).2 lid = .row 26 (lq g l x y w) := ho3.row
  have hac : ACalls prog q7p [.ptr rid 0] T1 (fun v T' => v = .tup [.agg ((rCo s).1.cells none none), .b (qlb s)] /\ T' = rT T1 rid (rCf s).2) := z0w ho.rd hl
  generalize hE : (rCo s).1 = E at *
  simp -implicitDefEqProofs -dsimp only [go_sem, seval, hb, ↓J0 _ _ qqx]
  refine can hac ?_
  simp -implicitDefEqProofs -dsimp only [go_sem, seval, Cf.cells, hr3, p1, p2, p3, p4, p5, p6]
  refine ho3.appC (v := E) (by omega) (by decide) fun x' T2 hx hT ho4 => J1 ?_
  obtain ⟨p1, p2, p3, p4, p5, p6⟩ := hx
  simp -implicitDefEqProofs -dsimp only [go_sem, seval, p1, p2, p3, p4, p5, p6]
  refine q15 hT p3 (by rw [p4]; rfl) (by rw [q52]; decide) (J1 ?_)
  rw [p4, zbk]
  simp -implicitDefEqProofs -dsimp only [go_sem, seval]
  rw [q96 (by omega)]
  refine ih (rCo s).2 _ x _ w _ (by omega) (by simp only [List.length_append, List.length_cons, List.length_nil]; omega) (q0z (qyd s) hl) ho4 fun x T1 m ho => h2 x T1 m ?_
  simpa only [List.append_assoc, List.cons_append, List.nil_append] using ho
theorem z48 {R : q02} (hR : ExtR R) {g : Option Nat} {B : Tab} {lid rid : Nat} : ∀ (n : Nat) (s : RS) (l : Lt Cf) (x y w : AV) (T1 : Tab), n <= 400 -> l.es.length + n <= 1000 -> Len s.1.length ->
  LtA g B lid rid l s x y w T1 ->
  (∀ w T1 m, LtA g B lid rid { l with es := l.es ++ (V8 rEy n s).1 } (V8 rEy n s).2 x y w T1 -> R (.exit 5) [(0, .ptr lid 0), (1, .ptr rid 0), (11, .i .i64 m), (85, .b false)] [] T1) ->
  AW prog q2m R [(0, .ptr lid 0), (1, .ptr rid 0), (11, .i .i64 n)] [] T1 := by
 intro n
 induction n with
 | zero =>
  intro s l x y w T1 hn hos hl ho h2
  refine Y2 hR ?_
  unfold q26
  simp -implicitDefEqProofs -dsimp only [go_sem, seval, show ((0 : Nat) : Int) = 0 from rfl, ↓Q0, G8, true_and, decide_false]
  exact h2 w T1 0 (by simpa [V8] using ho)
 | succ n ih =>
  intro s l x y w T1 hn hos hl ho h2
  obtain ⟨p1, p2, p3, p4, p5, p6⟩ := ho.pw
  have hpos : decide ((0 : Int) < ((n + 1 : Nat) : Int)) = true := decide_eq_true (by omega)
  refine Q8 (l := q2m) rfl hR ?_
  unfold q26
  simp -implicitDefEqProofs -dsimp only [go_sem, seval, hpos, ↓Q0, G8, true_and, ↓J0 _ _ U3]
  refine can (qby ho.rd) ?_
  rcases hb : s.2 with _ | _
  case true =>
   have e : V8 rEy (n + 1) s = ([], s) := by simp [V8, hb]
   rw [e] at h2
   simp -implicitDefEqProofs -dsimp only [go_sem, seval, hb]
   exact h2 w T1 _ (by simpa using ho)
  have e : V8 rEy (n + 1) s = ((rEy s).1 :: (V8 rEy n (rEy s).2).1, (V8 rEy n (rEy s).2).2) := by simp [V8, hb]
  rw [e] at h2
  have ho3 := ho.read (rEy s).2
  have hr3 : rT T1 rid (q1n 2048 s).2 lid = .row 26 (lq g l x y w) := ho3.row
  have ht := qek 2048 s
  have pc : ∀ c, PCalls prog q7q [bts (q1n 2048 s).1 c] (.tup [.agg ((rEy s).1.cells none none), .i .i64 (qav (q1l ((q1n 2048 s).1, false)))]) := fun c => z7u _ c (by omega)
  generalize hE : (rEy s).1 = E at *
  generalize hC : qav (q1l ((q1n 2048 s).1, false)) = C at *
  simp -implicitDefEqProofs -dsimp only [go_sem, seval, hb, ↓J0 _ _ q0y]
  refine can (qg6 ho.rd 2048 (by decide) hl) ?_
  simp -implicitDefEqProofs -dsimp only [go_sem, seval, ↓J0 _ _ qr0]
  refine cpn (pc _) ?_
  simp -implicitDefEqProofs -dsimp only [go_sem, seval, En.cells, hr3, p1, p2, p3, p4, p5, p6]
  refine ho3.appE (v := E) (by omega) (by decide) fun x' T2 hx hT ho4 => J1 ?_
  obtain ⟨p1, p2, p3, p4, p5, p6⟩ := hx
  simp -implicitDefEqProofs -dsimp only [go_sem, seval, p1, p2, p3, p4, p5, p6]
  refine q15 hT p3 (by rw [p4]; rfl) (by rw [q52]; decide) (J1 ?_)
  rw [p4, zbl]
  simp -implicitDefEqProofs -dsimp only [go_sem, seval]
  rw [q96 (by omega)]
  refine ih (rEy s).2 _ x y _ _ (by omega) (by simp only [List.length_append, List.length_cons, List.length_nil]; omega) (q0z (qye s) hl) ho4 fun x T1 m ho => h2 x T1 m ?_
  simpa only [List.append_assoc, List.cons_append, List.nil_append] using ho
end Go.Aw
