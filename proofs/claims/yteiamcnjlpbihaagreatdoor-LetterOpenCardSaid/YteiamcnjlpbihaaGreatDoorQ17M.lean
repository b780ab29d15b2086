import Derived.Test.YteiamcnjlpbihaaGreatDoorQ17K
import Derived.Test.YteiamcnjlpbihaaGreatDoorQ17H
import Derived.Test.YteiamcnjlpbihaaGreatDoorN17F04Y
namespace Go.Aw
open Go
open Go.Proofs.Tryz (prog)
set_option linter.all false
set_option maxHeartbeats 8000000
set_option maxRecDepth 8000
theorem q7u {P : Program} {a b : SC} {R : Z1} {e : Env} {L : Loc} {T : Tab} (hR : ExtR R) (Q : Env -> Loc -> Tab -> Prop) (h1 : ∀ K : Env -> Loc -> Tab -> Prop, z3y K -> (∀ E L T, Q E L T -> K E L T) -> AW P a (qe7 K R) e L T) (h2 : ∀ E L T, Q E L T -> AW P b R E L T) : AW P (.seq a b) R e L T := by
 have h := h1 (fun e' L' T' => AW P b R e' L' T') (Q3 b hR) h2
 exact h
def OB (T : Tab) (b : Bs) (v : AV) (T1 : Tab) : Prop := ∃ rest, Owns T (⟨1, v, b.length, K8 b⟩ :: rest) T1
theorem OB.form {T T1 : Tab} {b : Bs} {v : AV} (h : OB T b v T1) : Frm v := by
 obtain ⟨r, h⟩ := h
 exact h.form (List.mem_cons_self ..)
theorem OB.nil (T : Tab) : OB T [] (.fz 0 [] (some 0)) T := ⟨[], T, rfl, .nil T 1⟩
theorem OB.appB {T T1 : Tab} {v : AV} {b m : Bs} {c : Option Nat} {K : AV -> Tab -> Prop} (h : OB T b v T1) (hb : b.length + m.length <= 1000000000)
  (hk : ∀ v' T2, OB T (b ++ m) v' T2 -> K v' T2) : q1q 1 1 T1 v (bts m c) K := by
 obtain ⟨r, h⟩ := h
 refine h.app (m := m.length) (news := K8 m) (by simp [bts, G4, V4]) rfl (by simp only; omega) (by simp only; omega) fun v' T2 ho => hk v' T2 ⟨r, ?_⟩
 simp only [V5, <- List.length_append] at ho
 exact ho
theorem OB.appO {T T1 T2 : Tab} {v w : AV} {b m : Bs} {K : AV -> Tab -> Prop} (h1 : OB T b v T1) (h2 : Own T1 1 w m.length (K8 m) T2) (hb : b.length + m.length <= 1000000000)
  (hk : ∀ v' T3, OB T (b ++ m) v' T3 -> K v' T3) : q1q 1 1 T2 v w K := by
 obtain ⟨r, h1⟩ := h1
 have how : Owns T (⟨1, v, b.length, K8 b⟩ :: ⟨1, w, m.length, K8 m⟩ :: r) T2 := Owns.swap ⟨T1, h1, h2⟩
 obtain ⟨e1, e2⟩ := h2.sl
 refine how.app (m := m.length) (news := K8 m) e1 e2 (by simp only; omega) (by simp only; omega) fun v' T3 ho => hk v' T3 ⟨⟨1, w, m.length, K8 m⟩ :: r, ?_⟩
 simp only [V5, <- List.length_append] at ho
 exact ho
theorem OB.fin {T T1 : Tab} {b : Bs} {v : AV} (h : OB T b v T1) : qta v (fun r T' => r = bts b none /\ T' = T) T1 := by
 obtain ⟨r, how⟩ := h
 refine q1f how fun S hS => ?_
 obtain ⟨c1, e2⟩ := hS _ (List.mem_cons_self ..)
 obtain ⟨T0, _, hv4⟩ := how
 have : qo7 T1 S v = qhg T1 S v := by
  rcases hv4.2 with ⟨h, _⟩ | ⟨j, h, _⟩ <;> (simp only at h; rw [h]; rfl)
 rw [this, e2]
 exact .fz
theorem qao (n : Int) (h : 0 <= n /\ n < 9223372036854775808) : PCalls prog Y0 [.i .i64 n] (bts (enc n.toNat) (if n.toNat < 128 then some 1 else none)) := by
 refine K7 U3 qn0 (by simp) fun T => ?_
 have hw : IntKind.u64.wrap n = n := IntWalk.u64_in _ (by omega)
 have pc := qm3 n.toNat (by omega)
 rw [Int.toNat_of_nonneg h.1] at pc
 unfold qdq
 simp -implicitDefEqProofs -dsimp only [go_sem, seval, hw, ↓J0 _ _ Y1]
 refine cpn pc ?_
 simp -implicitDefEqProofs -dsimp only [go_sem, seval]
 exact J9 rfl
theorem zac (b : Bool) : PCalls prog q71 [.b b] (bts [qiw b] (some 1)) := by
 refine K7 U3 qn3 (by simp) fun T => ?_
 unfold qdr
 cases b <;> (simp -implicitDefEqProofs -dsimp only [go_sem, seval]; exact J9 rfl)
theorem z2f (r n : Int) (hr : 0 <= r /\ r < 18446744073709551616) (hn : qh1 n = true) : PCalls prog q3v [.agg [.i .u64 r, .i .i64 n]] (bts (enc r.toNat ++ enc n.toNat) none) := by
 refine K7 U3 qn6 (by simp) fun T => ?_
 simp only [qh1, Bool.and_eq_true, decide_eq_true_eq] at hn
 have d1 : decide (n < 0) = false := decide_eq_false (by omega)
 have d2 : decide (4 < n) = false := decide_eq_false (by omega)
 have hw : IntKind.u8.wrap n = n := by rw [qck]; omega
 have l1 := K5 (m := r.toNat) (by omega)
 have e1 : enc n.toNat = [UInt8.ofNat n.toNat] := q06 (by omega)
 have e2 : n = ((UInt8.ofNat n.toNat).toNat : Int) := by rw [UInt8.toNat_ofNat_of_lt' (by show n.toNat < 256; omega)]; omega
 have pc := qj3 r.toNat (by omega) T
 rw [Int.toNat_of_nonneg hr.1] at pc
 unfold qds
 simp -implicitDefEqProofs -dsimp only [go_sem, seval, d1, d2, ↓Q1, G6, true_and, ↓J0 _ _ Y1]
 refine CallK.of pc (fun v T1 ho => J1 ?_)
 obtain ⟨p1, p2, p3, p4, p5, p6⟩ := ho.form
 simp -implicitDefEqProofs -dsimp only [go_sem, seval, p1, p2, p3, p4, p5, p6, hw, qih e2]
 refine ho.appB (by simp only [List.length_cons, List.length_nil]; omega) (by simp) fun v2 T2 ho => J1 ?_
 obtain ⟨p1, p2, p3, p4, p5, p6⟩ := ho.form
 simp -implicitDefEqProofs -dsimp only [go_sem, seval, p1, p2, p3, p4, p5, p6]
 rw [e1]
 exact OB.fin ⟨[], T, rfl, ho⟩
end Go.Aw
namespace Go.Aw
open Go
open Go.Proofs.Tryz (prog)
set_option linter.all false
set_option maxHeartbeats 8000000
set_option maxRecDepth 8000
theorem zdx {R : Z1} (hR : ExtR R) {T : Tab} {lc : List AV} {xs : List Vt} (hl : xs.length <= 400) (hx : ∀ x ∈ xs, VtG x) : ∀ (us : List Vt) (k : Nat), xs.drop k = us -> k <= xs.length -> ∀ (b : Bs) (v : AV) (T1 : Tab), b.length <= 100000 + 2100 * k -> OB T b v T1 ->
  (∀ v T1, OB T (b ++ us.flatMap qz4) v T1 -> R (.exit 0) [(1, .lp 1 0), (3, v), (20, .fz xs.length (xs.flatMap vtC) none), (21, .i .i64 xs.length), (22, .i .i64 xs.length), (23, .b false)] [(1, lc)] T1) ->
  AW prog q4b R [(1, .lp 1 0), (3, v), (20, .fz xs.length (xs.flatMap vtC) none), (21, .i .i64 xs.length), (22, .i .i64 k)] [(1, lc)] T1 := by
 intro us
 induction us with
 | nil =>
  intro k hk hle b v T1 hb ho h2
  obtain ⟨p1, p2, p3, p4, p5, p6⟩ := ho.form
  have hk' := Q7 hk hle
  refine Q5 hR ?_
  unfold q3h
  simp -implicitDefEqProofs -dsimp only [go_sem, seval, hk', Int.lt_irrefl, p1, p2, p3, p4, p5, p6]
  rw [hk', List.flatMap_nil, List.append_nil] at h2
  exact h2 v T1 ho
 | cons y us ih =>
  intro k hk hle b v T1 hb ho h2
  obtain ⟨p1, p2, p3, p4, p5, p6⟩ := ho.form
  obtain ⟨hlt, hy, hk'⟩ := U6 hk
  have cl : ∀ c : Vt, (vtC c).length = 4 := fun _ => rfl
  have ea := Z5 cl hy
  have e5 : k * 4 + 4 <= (xs.flatMap vtC).length := by rw [O1 cl]; omega
  have hs : IntKind.i64.wrap ((k : Int) + 1) = ((k + 1 : Nat) : Int) := N4 (by omega)
  have hok := hx y (List.mem_of_getElem? hy)
  rw [List.flatMap_cons, <- List.append_assoc] at h2
  refine O0 (l := q4b) rfl hR ?_
  unfold q3h
  obtain ⟨q1, q2, q3, q4⟩ := hok
  have l1 := K5 (m := y.sl.toNat) (by omega)
  have l2 := K5 (m := y.rd.toNat) (by omega)
  have l3 := K5 (m := y.nd.toNat) (by have := q3; simp only [qh1, Bool.and_eq_true, decide_eq_true_eq] at this; omega)
  have l4 := K5 (m := y.v.length) (by omega)
  simp -implicitDefEqProofs -dsimp only [go_sem, seval, Int.ofNat_lt, hlt, Int.natCast_nonneg, Int.toNat_natCast, ea, e5, vtC, List.cons_append, List.nil_append, p1, p2, p3, p4, p5, p6, ↓J0 _ _ G7]
  refine cpn (qao y.sl (by omega)) ?_
  simp -implicitDefEqProofs -dsimp only [go_sem, seval, p1, p2, p3, p4, p5, p6]
  refine ho.appB (by omega) fun v2 T2 ho => J1 ?_
  obtain ⟨p1, p2, p3, p4, p5, p6⟩ := ho.form
  simp -implicitDefEqProofs -dsimp only [go_sem, seval, p1, p2, p3, p4, p5, p6, ↓J0 _ _ qdt]
  refine cpn (z2f y.rd y.nd q2 q3) ?_
  simp -implicitDefEqProofs -dsimp only [go_sem, seval, p1, p2, p3, p4, p5, p6]
  refine ho.appB (by simp only [List.length_append]; omega) fun v3 T3 ho => J1 ?_
  obtain ⟨p1, p2, p3, p4, p5, p6⟩ := ho.form
  simp -implicitDefEqProofs -dsimp only [go_sem, seval, p1, p2, p3, p4, p5, p6, ↓J0 _ _ q24]
  refine cpn (qj4 y.v (by omega)) ?_
  simp -implicitDefEqProofs -dsimp only [go_sem, seval, p1, p2, p3, p4, p5, p6]
  refine ho.appB (by simp only [List.length_append, q76]; omega) fun v4 T4 ho => J1 ?_
  obtain ⟨p1, p2, p3, p4, p5, p6⟩ := ho.form
  simp -implicitDefEqProofs -dsimp only [go_sem, seval, p1, p2, p3, p4, p5, p6, hs]
  have he : b ++ enc y.sl.toNat ++ (enc y.rd.toNat ++ enc y.nd.toNat) ++ q76 y.v = b ++ qz4 y := by simp only [qz4, List.append_assoc]
  rw [he] at ho
  refine ih (k + 1) hk' hlt _ _ _ ?_ ho h2
  simp only [List.length_append, q76, qz4]; omega
def RfG (c : Rf) : Prop := c.Ok /\ (qii c).length <= 130
theorem zdy {R : Z1} (hR : ExtR R) {T : Tab} {lc : List AV} {xs : List Rf} (hl : xs.length <= 400) (hx : ∀ x ∈ xs, RfG x) : ∀ (us : List Rf) (k : Nat), xs.drop k = us -> k <= xs.length -> ∀ (b : Bs) (v : AV) (T1 : Tab), b.length <= 100000 + 2100 * k -> OB T b v T1 ->
  (∀ v T1, OB T (b ++ us.flatMap qii) v T1 -> R (.exit 2) [(1, .lp 1 0), (3, v), (52, .fz xs.length (xs.flatMap rfL) none), (53, .i .i64 xs.length), (54, .i .i64 xs.length), (55, .b false)] [(1, lc)] T1) ->
  AW prog q4c R [(1, .lp 1 0), (3, v), (52, .fz xs.length (xs.flatMap rfL) none), (53, .i .i64 xs.length), (54, .i .i64 k)] [(1, lc)] T1 := by
 intro us
 induction us with
 | nil =>
  intro k hk hle b v T1 hb ho h2
  obtain ⟨p1, p2, p3, p4, p5, p6⟩ := ho.form
  have hk' := Q7 hk hle
  refine Q5 hR ?_
  unfold q3i
  simp -implicitDefEqProofs -dsimp only [go_sem, seval, hk', Int.lt_irrefl, p1, p2, p3, p4, p5, p6]
  rw [hk', List.flatMap_nil, List.append_nil] at h2
  exact h2 v T1 ho
 | cons y us ih =>
  intro k hk hle b v T1 hb ho h2
  obtain ⟨p1, p2, p3, p4, p5, p6⟩ := ho.form
  obtain ⟨hlt, hy, hk'⟩ := U6 hk
  have cl : ∀ c : Rf, (rfL c).length = 4 := fun _ => rfl
  have ea := Z5 cl hy
  have e5 : k * 4 + 4 <= (xs.flatMap rfL).length := by rw [O1 cl]; omega
  have hs : IntKind.i64.wrap ((k : Int) + 1) = ((k + 1 : Nat) : Int) := N4 (by omega)
  have hok := hx y (List.mem_of_getElem? hy)
  rw [List.flatMap_cons, <- List.append_assoc] at h2
  refine O0 (l := q4c) rfl hR ?_
  unfold q3i
  obtain ⟨q1, q2⟩ := hok
  have pc := fun T => z7o y none q1 T
  simp only [Rf.cells] at pc
  simp -implicitDefEqProofs -dsimp only [go_sem, seval, Int.ofNat_lt, hlt, Int.natCast_nonneg, Int.toNat_natCast, ea, e5, rfL, Rf.cells, List.cons_append, List.nil_append, p1, p2, p3, p4, p5, p6, ↓J0 _ _ qng]
  refine CallK.of (pc T1) (fun w T2 hw => J1 ?_)
  obtain ⟨q1, q2, q3, q4, q5, q6⟩ := hw.form
  simp -implicitDefEqProofs -dsimp only [go_sem, seval, p1, p2, p3, p4, p5, p6, q1, q2, q3, q4, q5, q6]
  refine ho.appO hw (by omega) fun v2 T2 ho => J1 ?_
  obtain ⟨p1, p2, p3, p4, p5, p6⟩ := ho.form
  simp -implicitDefEqProofs -dsimp only [go_sem, seval, p1, p2, p3, p4, p5, p6, hs]
  refine ih (k + 1) hk' hlt _ _ _ ?_ ho h2
  simp only [List.length_append]; omega
theorem zdz {R : Z1} (hR : ExtR R) {T : Tab} {xs : List En} (hl : xs.length <= 400) (hx : ∀ x ∈ xs, EnG x) : ∀ (us : List En) (k : Nat), xs.drop k = us -> k <= xs.length -> ∀ (b : Bs) (v : AV) (T1 : Tab), b.length <= 100000 + 2100 * k -> OB T b v T1 ->
  (∀ v T1, OB T (b ++ us.flatMap z13) v T1 -> R (.exit 4) [(3, v), (73, .fz xs.length (xs.flatMap enC) none), (74, .i .i64 xs.length), (75, .i .i64 xs.length), (76, .b false)] [] T1) ->
  AW prog q4d R [(3, v), (73, .fz xs.length (xs.flatMap enC) none), (74, .i .i64 xs.length), (75, .i .i64 k)] [] T1 := by
 intro us
 induction us with
 | nil =>
  intro k hk hle b v T1 hb ho h2
  obtain ⟨p1, p2, p3, p4, p5, p6⟩ := ho.form
  have hk' := Q7 hk hle
  refine Q5 hR ?_
  unfold q3j
  simp -implicitDefEqProofs -dsimp only [go_sem, seval, hk', Int.lt_irrefl, p1, p2, p3, p4, p5, p6]
  rw [hk', List.flatMap_nil, List.append_nil] at h2
  exact h2 v T1 ho
 | cons y us ih =>
  intro k hk hle b v T1 hb ho h2
  obtain ⟨p1, p2, p3, p4, p5, p6⟩ := ho.form
  obtain ⟨hlt, hy, hk'⟩ := U6 hk
  have cl : ∀ c : En, (enC c).length = 10 := fun _ => rfl
  have ea := Z5 cl hy
  have e5 : k * 10 + 10 <= (xs.flatMap enC).length := by rw [O1 cl]; omega
  have hs : IntKind.i64.wrap ((k : Int) + 1) = ((k + 1 : Nat) : Int) := N4 (by omega)
  have hok := hx y (List.mem_of_getElem? hy)
  rw [List.flatMap_cons, <- List.append_assoc] at h2
  refine O0 (l := q4d) rfl hR ?_
  unfold q3j
  obtain ⟨q1, q2, q3⟩ := hok
  have g := En.good_of q1 q3
  have lc := qo4 g
  have l4 := K5 (m := (qaq y).length) (by omega)
  have pc : PCalls prog q3z [.agg (y.cells none none)] (bts (qaq y) none) := fun T => za7 y none none g T
  simp only [En.cells] at pc
  simp -implicitDefEqProofs -dsimp only [go_sem, seval, Int.ofNat_lt, hlt, Int.natCast_nonneg, Int.toNat_natCast, ea, e5, enC, En.cells, List.cons_append, List.nil_append, p1, p2, p3, p4, p5, p6, ↓J0 _ _ qnj]
  refine cpn pc ?_
  have hbl : (K8 (qaq y)).length = (qaq y).length := V4 _
  generalize hE : qaq y = E at *
  simp -implicitDefEqProofs -dsimp only [go_sem, seval, p1, p2, p3, p4, p5, p6]
  unfold bts
  simp -implicitDefEqProofs -dsimp only [go_sem, seval, hbl, q39, p1, p2, p3, p4, p5, p6, ↓J0 _ _ q24]
  refine cpn (qj4 E (by omega)) ?_
  simp -implicitDefEqProofs -dsimp only [go_sem, seval, p1, p2, p3, p4, p5, p6]
  refine ho.appB (by simp only [q76, List.length_append]; omega) fun v2 T2 ho => J1 ?_
  obtain ⟨p1, p2, p3, p4, p5, p6⟩ := ho.form
  simp -implicitDefEqProofs -dsimp only [go_sem, seval, p1, p2, p3, p4, p5, p6, hs]
  rw [show z13 y = q76 E by rw [z13, hE]] at h2
  refine ih (k + 1) hk' hlt _ _ _ ?_ ho h2
  simp only [List.length_append, q76]; omega
end Go.Aw
namespace Go.Aw
open Go
open Go.Proofs.Tryz (prog)
set_option linter.all false
set_option maxHeartbeats 8000000
set_option maxRecDepth 8000
section
variable {γ : Type} {f : γ -> List AV} (o : Lt γ)
theorem zlr : (o.cells f)[21]? = some (.i .i64 o.cl) := rfl
theorem zls : (o.cells f)[22]? = some (.i .u64 o.sq) := rfl
attribute [go_sem] zlr zls
end
def hX (k : Int) (f X : Bs) : Bs := if q6z k f = true then X else []
theorem qc9 {k : Int} {f X : Bs} {n : Nat} (h : X.length <= n) : (hX k f X).length <= n := by
 unfold hX
 split
 ·exact h
 ·exact Nat.zero_le _
structure Lt.EncR (l : Lt Rf) : Prop where
 hd : ∀ x ∈ [l.fk, l.fn, l.tk, l.tn, l.k], 0 <= x /\ x < 1000
 sh : 0 <= l.sh /\ l.sh < 2000000
 ep : 0 <= l.ep /\ l.ep < 18446744073709551616
 n : 0 <= l.n /\ l.n < 2000000
 m : 0 <= l.m /\ l.m < 2000000
 nd : 0 <= l.nd /\ l.nd < 2000000
 br : 0 <= l.br /\ l.br < 18446744073709551616
 bn : qh1 l.bn = true
 t : q6z l.k [116, 120, 110] = true -> l.t.Good
 cl : 0 <= l.cl /\ l.cl < 2000000
 sq : 0 <= l.sq /\ l.sq < 18446744073709551616
 v : l.v.length <= 64
 q : 0 <= l.q /\ l.q < 18446744073709551616
 co : 0 <= l.co /\ l.co < 2000000
 vs : l.vs.length <= 400 /\ ∀ v ∈ l.vs, VtG v
 cs : l.cs.length <= 4 /\ ∀ c ∈ l.cs, RfG c
 es : l.es.length <= 8 /\ ∀ e ∈ l.es, EnG e
def xV (l : Lt Rf) : Bs := enc l.vs.length ++ l.vs.flatMap qz4
def xC (l : Lt Rf) : Bs := enc l.cs.length ++ l.cs.flatMap qii
def xE (l : Lt Rf) : Bs := enc l.es.length ++ l.es.flatMap z13
theorem zb6 {l : Lt Rf} (h : l.EncR) : (xV l).length <= 41700 := by
 have h1 := h.vs.1
 have l1 := K5 (m := l.vs.length) (by omega)
 have l2 := q2x (g := qz4) (m := 104) l.vs fun v hv => z26 (h.vs.2 v hv)
 simp only [xV, List.length_append]; omega
theorem zb7 {l : Lt Rf} (h : l.EncR) : (xC l).length <= 1000 := by
 have h1 := h.cs.1
 have l1 := K5 (m := l.cs.length) (by omega)
 have l2 := q2x (g := qii) (m := 130) l.cs fun v hv => (h.cs.2 v hv).2
 simp only [xC, List.length_append]; omega
theorem zi3 {l : Lt Rf} (h : l.EncR) : (xE l).length <= 17000 := by
 have h1 := h.es.1
 have l1 := K5 (m := l.es.length) (by omega)
 have l2 := q2x (g := z13) (m := 2040) l.es fun v hv => by
  obtain ⟨q1, q2, q3⟩ := h.es.2 v hv
  have lc := qo4 (En.good_of q1 q3)
  have l4 := K5 (m := (qaq v).length) (by omega)
  simp only [z13, q76, List.length_append]; omega
 simp only [xE, List.length_append]; omega
def lbF (l : Lt Rf) : Bs := hX l.k [118, 111, 116, 101, 115] (xV l) ++ hX l.k [99, 111, 110, 102, 115] (xC l) ++ hX l.k [101, 110, 116, 114, 105, 101, 115] (xE l)
theorem qyz (l : Lt Rf) (h : l.EncR) : PCalls prog q2m [.agg (l.cells rfL)] (bts (lbF l) none) := by
 refine K7 U3 qf3 (by simp) fun T => ?_
 have h1 := h.vs.1
 have h2 := h.cs.1
 have h3 := h.es.1
 have l1 := K5 (m := l.vs.length) (by omega)
 have l2 := K5 (m := l.cs.length) (by omega)
 have l3 := K5 (m := l.es.length) (by omega)
 have b1 := qc9 (k := l.k) (f := [118, 111, 116, 101, 115]) (zb6 h)
 have b2 := qc9 (k := l.k) (f := [99, 111, 110, 102, 115]) (zb7 h)
 unfold q9i
 refine q6b True [(1, .lp 1 0)] [(1, l.cells rfL)] T (fun K hK => by simp -implicitDefEqProofs -dsimp only [go_sem, seval]; exact hK trivial) fun _ => ?_
 refine q6b True [(1, .lp 1 0), (3, .fz 0 [] (some 0))] [(1, l.cells rfL)] T (fun K hK => by simp -implicitDefEqProofs -dsimp only [go_sem, seval]; exact hK trivial) fun _ => ?_
 have ho := OB.nil T
 obtain ⟨p1, p2, p3, p4, p5, p6⟩ := ho.form
 refine q7u (by repeat' (first | exact N2 _ _ | assumption | apply N1 | apply K9 | apply Q3)) (fun E L T1 => ∃ v, (E = [(1, .lp 1 0), (3, v), (12, .b false)] \/ E = [(1, .lp 1 0), (3, v), (20, .fz l.vs.length (l.vs.flatMap vtC) none), (21, .i .i64 l.vs.length), (22, .i .i64 l.vs.length), (23, .b false)]) /\ L = [(1, l.cells rfL)] /\ OB T (hX l.k [118, 111, 116, 101, 115] (xV l)) v T1) (fun K hE hK => ?_) fun E L T1 hq => ?_
 ·simp -implicitDefEqProofs -dsimp only [go_sem, seval, U0, p1, p2, p3, p4, p5, p6, ↓J0 _ _ J6]
  refine cpn (V3 l.k [118, 111, 116, 101, 115]) ?_
  rcases hh : q6z l.k [118, 111, 116, 101, 115] with _ | _
  ·simp -implicitDefEqProofs -dsimp only [go_sem, seval, U0, p1, p2, p3, p4, p5, p6]
   exact hK _ _ _ ⟨_, .inl rfl, rfl, by simpa only [hX, hh, Bool.false_eq_true, if_false] using ho⟩
  ·simp -implicitDefEqProofs -dsimp only [go_sem, seval, U0, p1, p2, p3, p4, p5, p6, ↓J0 _ _ G7]
   refine cpn (qao (l.vs.length : Nat) (by omega)) ?_
   rw [Int.toNat_natCast]
   simp -implicitDefEqProofs -dsimp only [go_sem, seval, U0, p1, p2, p3, p4, p5, p6]
   refine ho.appB (by simp only [List.length_nil]; omega) fun v2 T2 ho => J1 ?_
   obtain ⟨p1, p2, p3, p4, p5, p6⟩ := ho.form
   simp -implicitDefEqProofs -dsimp only [go_sem, seval, U0, p1, p2, p3, p4, p5, p6]
   refine zdx (T := T) (by repeat' (first | exact N2 _ _ | assumption | apply N1 | apply K9 | apply Q3)) (by omega) h.vs.2 l.vs 0 rfl (Nat.zero_le _) _ _ _ (by simp only [List.length_append, List.length_nil]; omega) ho (fun v3 T3 ho => ?_)
   obtain ⟨p1, p2, p3, p4, p5, p6⟩ := ho.form
   simp -implicitDefEqProofs -dsimp only [go_sem, seval, U0, p1, p2, p3, p4, p5, p6]
   exact hK _ _ _ ⟨_, .inr rfl, rfl, by simpa only [hX, hh, if_true, xV, List.nil_append] using ho⟩
 obtain ⟨v, hq, rfl, ho⟩ := hq
 obtain ⟨p1, p2, p3, p4, p5, p6⟩ := ho.form
 refine q7u (by repeat' (first | exact N2 _ _ | assumption | apply N1 | apply K9 | apply Q3)) (fun E L T1 => ∃ v, (E = [(1, .lp 1 0), (3, v), (44, .b false)] \/ E = [(1, .lp 1 0), (3, v), (52, .fz l.cs.length (l.cs.flatMap rfL) none), (53, .i .i64 l.cs.length), (54, .i .i64 l.cs.length), (55, .b false)]) /\ L = [(1, l.cells rfL)] /\ OB T (hX l.k [118, 111, 116, 101, 115] (xV l) ++ hX l.k [99, 111, 110, 102, 115] (xC l)) v T1) (fun K hE hK => ?_) fun E L T1 hq => ?_
 ·rcases hq with rfl | rfl
  all_goals
   simp -implicitDefEqProofs -dsimp only [go_sem, seval, U0, p1, p2, p3, p4, p5, p6, ↓J0 _ _ J6]
   refine cpn (V3 l.k [99, 111, 110, 102, 115]) ?_
   rcases hh : q6z l.k [99, 111, 110, 102, 115] with _ | _
   ·simp -implicitDefEqProofs -dsimp only [go_sem, seval, U0, p1, p2, p3, p4, p5, p6]
    exact hK _ _ _ ⟨_, .inl rfl, rfl, by rw [show hX l.k [99, 111, 110, 102, 115] (xC l) = [] by simp only [hX, hh, Bool.false_eq_true, if_false], List.append_nil]; exact ho⟩
   ·simp -implicitDefEqProofs -dsimp only [go_sem, seval, U0, p1, p2, p3, p4, p5, p6, ↓J0 _ _ G7]
    refine cpn (qao (l.cs.length : Nat) (by omega)) ?_
    rw [Int.toNat_natCast]
    simp -implicitDefEqProofs -dsimp only [go_sem, seval, U0, p1, p2, p3, p4, p5, p6]
    refine ho.appB (by omega) fun v2 T2 ho => J1 ?_
    obtain ⟨p1, p2, p3, p4, p5, p6⟩ := ho.form
    simp -implicitDefEqProofs -dsimp only [go_sem, seval, U0, p1, p2, p3, p4, p5, p6]
    refine zdy (T := T) (by repeat' (first | exact N2 _ _ | assumption | apply N1 | apply K9 | apply Q3)) (by omega) h.cs.2 l.cs 0 rfl (Nat.zero_le _) _ _ _ (by simp only [List.length_append]; omega) ho (fun v3 T3 ho => ?_)
    obtain ⟨p1, p2, p3, p4, p5, p6⟩ := ho.form
    simp -implicitDefEqProofs -dsimp only [go_sem, seval, U0, p1, p2, p3, p4, p5, p6]
    exact hK _ _ _ ⟨_, .inr rfl, rfl, by rw [show hX l.k [99, 111, 110, 102, 115] (xC l) = xC l by simp only [hX, hh, if_true], xC, <- List.append_assoc]; exact ho⟩
 obtain ⟨v, hq, rfl, ho⟩ := hq
 obtain ⟨p1, p2, p3, p4, p5, p6⟩ := ho.form
 rcases hq with rfl | rfl
 all_goals
  simp -implicitDefEqProofs -dsimp only [go_sem, seval, U0, p1, p2, p3, p4, p5, p6, ↓J0 _ _ J6]
  refine cpn (V3 l.k [101, 110, 116, 114, 105, 101, 115]) ?_
  rcases hh : q6z l.k [101, 110, 116, 114, 105, 101, 115] with _ | _
  ·simp -implicitDefEqProofs -dsimp only [go_sem, seval, U0, p1, p2, p3, p4, p5, p6]
   rw [lbF, show hX l.k [101, 110, 116, 114, 105, 101, 115] (xE l) = [] by simp only [hX, hh, Bool.false_eq_true, if_false], List.append_nil]
   exact OB.fin ho
  ·simp -implicitDefEqProofs -dsimp only [go_sem, seval, U0, p1, p2, p3, p4, p5, p6, ↓J0 _ _ G7]
   refine cpn (qao (l.es.length : Nat) (by omega)) ?_
   rw [Int.toNat_natCast]
   simp -implicitDefEqProofs -dsimp only [go_sem, seval, U0, p1, p2, p3, p4, p5, p6]
   refine ho.appB (by simp only [List.length_append]; omega) fun v2 T2 ho => J1 ?_
   obtain ⟨p1, p2, p3, p4, p5, p6⟩ := ho.form
   simp -implicitDefEqProofs -dsimp only [go_sem, seval, U0, p1, p2, p3, p4, p5, p6]
   refine zdz (T := T) (by repeat' (first | exact N2 _ _ | assumption | apply N1 | apply K9 | apply Q3)) (by omega) h.es.2 l.es 0 rfl (Nat.zero_le _) _ _ _ (by simp only [List.length_append]; omega) ho (fun v3 T3 ho => ?_)
   obtain ⟨p1, p2, p3, p4, p5, p6⟩ := ho.form
   simp -implicitDefEqProofs -dsimp only [go_sem, seval, U0, p1, p2, p3, p4, p5, p6]
   rw [lbF, show hX l.k [101, 110, 116, 114, 105, 101, 115] (xE l) = xE l by simp only [hX, hh, if_true], xE, <- List.append_assoc]
   exact OB.fin ho
end Go.Aw
