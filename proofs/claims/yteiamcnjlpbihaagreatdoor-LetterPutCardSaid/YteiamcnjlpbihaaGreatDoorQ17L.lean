import Derived.Test.YteiamcnjlpbihaaGreatDoorQ17K
import Derived.Test.YteiamcnjlpbihaaGreatDoorQ17H
import Derived.Test.YteiamcnjlpbihaaGreatDoorN17F04Y
namespace Go.Aw
open Go
open Go.Proofs.Tryz (prog)
set_option linter.all false
set_option maxHeartbeats 8000000
set_option maxRecDepth 8000
theorem q9o {P : Program} {a b : SC} {R : Y5} {e : Env} {L : Loc} {T : Tab} (hR : ExtR R) (Q : Env -> Loc -> Tab -> Prop) (h1 : ∀ K : Env -> Loc -> Tab -> Prop, z4c K -> (∀ E L T, Q E L T -> K E L T) -> AW P a (qei K R) e L T) (h2 : ∀ E L T, Q E L T -> AW P b R E L T) : AW P (.seq a b) R e L T := by
 have h := h1 (fun e' L' T' => AW P b R e' L' T') (Q6 b hR) h2
 exact h
def OB (T : Tab) (b : Bs) (v : AV) (T1 : Tab) : Prop := ∃ rest, Owns T (⟨1, v, b.length, K9 b⟩ :: rest) T1
theorem OB.form {T T1 : Tab} {b : Bs} {v : AV} (h : OB T b v T1) : Frm v := by
 obtain ⟨r, h⟩ := h
 exact h.form (List.mem_cons_self ..)
theorem OB.nil (T : Tab) : OB T [] (.fz 0 [] (some 0)) T := ⟨[], T, rfl, .nil T 1⟩
theorem OB.appB {T T1 : Tab} {v : AV} {b m : Bs} {c : Option Nat} {K : AV -> Tab -> Prop} (h : OB T b v T1) (hb : b.length + m.length <= 1000000000)
  (hk : ∀ v' T2, OB T (b ++ m) v' T2 -> K v' T2) : q1o 1 1 T1 v (bts m c) K := by
 obtain ⟨r, h⟩ := h
 refine h.app (m := m.length) (news := K9 m) (by simp [bts, G4, Y4]) rfl (by simp only; omega) (by simp only; omega) fun v' T2 ho => hk v' T2 ⟨r, ?_⟩
 simp only [V4, <- List.length_append] at ho
 exact ho
theorem OB.appO {T T1 T2 : Tab} {v w : AV} {b m : Bs} {K : AV -> Tab -> Prop} (h1 : OB T b v T1) (h2 : Own T1 1 w m.length (K9 m) T2) (hb : b.length + m.length <= 1000000000)
  (hk : ∀ v' T3, OB T (b ++ m) v' T3 -> K v' T3) : q1o 1 1 T2 v w K := by
 obtain ⟨r, h1⟩ := h1
 have how : Owns T (⟨1, v, b.length, K9 b⟩ :: ⟨1, w, m.length, K9 m⟩ :: r) T2 := Owns.swap ⟨T1, h1, h2⟩
 obtain ⟨e1, e2⟩ := h2.sl
 refine how.app (m := m.length) (news := K9 m) e1 e2 (by simp only; omega) (by simp only; omega) fun v' T3 ho => hk v' T3 ⟨⟨1, w, m.length, K9 m⟩ :: r, ?_⟩
 simp only [V4, <- List.length_append] at ho
 exact ho
theorem OB.fin {T T1 : Tab} {b : Bs} {v : AV} (h : OB T b v T1) : qtj v (fun r T' => r = bts b none /\ T' = T) T1 := by
 obtain ⟨r, how⟩ := h
 refine q1e how fun S hS => ?_
 obtain ⟨c1, e2⟩ := hS _ (List.mem_cons_self ..)
 obtain ⟨T0, _, hv4⟩ := how
 have : qoq T1 S v = qiy T1 S v := by
  rcases hv4.2 with ⟨h, _⟩ | ⟨j, h, _⟩ <;> (simp only at h; rw [h]; rfl)
 rw [this, e2]
 exact .fz
theorem qav (n : Int) (h : 0 <= n /\ n < 9223372036854775808) : PCalls prog V9 [.i .i64 n] (bts (enc n.toNat) (if n.toNat < 128 then some 1 else none)) := by
 refine K7 U4 qni (by simp) fun T => ?_
 have hw : IntKind.u64.wrap n = n := IntWalk.u64_in _ (by omega)
 have pc := qmm n.toNat (by omega)
 rw [Int.toNat_of_nonneg h.1] at pc
 unfold qe3
 simp -implicitDefEqProofs -dsimp only [go_sem, seval, hw, ↓J0 _ _ Y0]
 refine cpn pc ?_
 simp -implicitDefEqProofs -dsimp only [go_sem, seval]
 exact J9 rfl
theorem zat (b : Bool) : PCalls prog q79 [.b b] (bts [qji b] (some 1)) := by
 refine K7 U4 qnl (by simp) fun T => ?_
 unfold qe4
 cases b <;> (simp -implicitDefEqProofs -dsimp only [go_sem, seval]; exact J9 rfl)
theorem z2v (r n : Int) (hr : 0 <= r /\ r < 18446744073709551616) (hn : qh1 n = true) : PCalls prog q3s [.agg [.i .u64 r, .i .i64 n]] (bts (enc r.toNat ++ enc n.toNat) none) := by
 refine K7 U4 qno (by simp) fun T => ?_
 simp only [qh1, Bool.and_eq_true, decide_eq_true_eq] at hn
 have d1 : decide (n < 0) = false := decide_eq_false (by omega)
 have d2 : decide (4 < n) = false := decide_eq_false (by omega)
 have hw : IntKind.u8.wrap n = n := by rw [qcx]; omega
 have l1 := K6 (m := r.toNat) (by omega)
 have e1 : enc n.toNat = [UInt8.ofNat n.toNat] := q05 (by omega)
 have e2 : n = ((UInt8.ofNat n.toNat).toNat : Int) := by rw [UInt8.toNat_ofNat_of_lt' (by show n.toNat < 256; omega)]; omega
 have pc := qjd r.toNat (by omega) T
 rw [Int.toNat_of_nonneg hr.1] at pc
 unfold qe5
 simp -implicitDefEqProofs -dsimp only [go_sem, seval, d1, d2, ↓O8, G0, true_and, ↓J0 _ _ Y0]
 refine CallK.of pc (fun v T1 ho => J1 ?_)
 obtain ⟨p1, p2, p3, p4, p5, p6⟩ := ho.form
 simp -implicitDefEqProofs -dsimp only [go_sem, seval, p1, p2, p3, p4, p5, p6, hw, qip e2]
 refine ho.appB (by simp only [List.length_cons, List.length_nil]; omega) (by simp) fun v2 T2 ho => J1 ?_
 obtain ⟨p1, p2, p3, p4, p5, p6⟩ := ho.form
 simp -implicitDefEqProofs -dsimp only [go_sem, seval, p1, p2, p3, p4, p5, p6]
 rw [e1]
 exact OB.fin ⟨[], T, rfl, ho⟩
end Go.Aw
namespace Go.Aw
open Go
open Go.Proofs.Tryz (prog)
set_option linter.all false
set_option maxHeartbeats 8000000
set_option maxRecDepth 8000
theorem zeg {R : Y5} (hR : ExtR R) {T : Tab} {lc : List AV} {xs : List Vt} (hl : xs.length <= 400) (hx : ∀ x ∈ xs, VtG x) : ∀ (us : List Vt) (k : Nat), xs.drop k = us -> k <= xs.length -> ∀ (b : Bs) (v : AV) (T1 : Tab), b.length <= 100000 + 2100 * k -> OB T b v T1 ->
  (∀ v T1, OB T (b ++ us.flatMap qyz) v T1 -> R (.exit 0) [(1, .lp 1 0), (3, v), (20, .fz xs.length (xs.flatMap vtC) none), (21, .i .i64 xs.length), (22, .i .i64 xs.length), (23, .b false)] [(1, lc)] T1) ->
  AW prog q48 R [(1, .lp 1 0), (3, v), (20, .fz xs.length (xs.flatMap vtC) none), (21, .i .i64 xs.length), (22, .i .i64 k)] [(1, lc)] T1 := by
 intro us
 induction us with
 | nil =>
  intro k hk hle b v T1 hb ho h2
  obtain ⟨p1, p2, p3, p4, p5, p6⟩ := ho.form
  have hk' := Q2 hk hle
  refine Q1 hR ?_
  unfold q3f
  simp -implicitDefEqProofs -dsimp only [go_sem, seval, hk', Int.lt_irrefl, p1, p2, p3, p4, p5, p6]
  rw [hk', List.flatMap_nil, List.append_nil] at h2
  exact h2 v T1 ho
 | cons y us ih =>
  intro k hk hle b v T1 hb ho h2
  obtain ⟨p1, p2, p3, p4, p5, p6⟩ := ho.form
  obtain ⟨hlt, hy, hk'⟩ := U1 hk
  have cl : ∀ c : Vt, (vtC c).length = 4 := fun _ => rfl
  have ea := Y6 cl hy
  have e5 : k * 4 + 4 <= (xs.flatMap vtC).length := by rw [N5 cl]; omega
  have hs : IntKind.i64.wrap ((k : Int) + 1) = ((k + 1 : Nat) : Int) := N3 (by omega)
  have hok := hx y (List.mem_of_getElem? hy)
  rw [List.flatMap_cons, <- List.append_assoc] at h2
  refine N8 (l := q48) rfl hR ?_
  unfold q3f
  obtain ⟨q1, q2, q3, q4⟩ := hok
  have l1 := K6 (m := y.sl.toNat) (by omega)
  have l2 := K6 (m := y.rd.toNat) (by omega)
  have l3 := K6 (m := y.nd.toNat) (by have := q3; simp only [qh1, Bool.and_eq_true, decide_eq_true_eq] at this; omega)
  have l4 := K6 (m := y.v.length) (by omega)
  simp -implicitDefEqProofs -dsimp only [go_sem, seval, Int.ofNat_lt, hlt, Int.natCast_nonneg, Int.toNat_natCast, ea, e5, vtC, List.cons_append, List.nil_append, p1, p2, p3, p4, p5, p6, ↓J0 _ _ G6]
  refine cpn (qav y.sl (by omega)) ?_
  simp -implicitDefEqProofs -dsimp only [go_sem, seval, p1, p2, p3, p4, p5, p6]
  refine ho.appB (by omega) fun v2 T2 ho => J1 ?_
  obtain ⟨p1, p2, p3, p4, p5, p6⟩ := ho.form
  simp -implicitDefEqProofs -dsimp only [go_sem, seval, p1, p2, p3, p4, p5, p6, ↓J0 _ _ qe6]
  refine cpn (z2v y.rd y.nd q2 q3) ?_
  simp -implicitDefEqProofs -dsimp only [go_sem, seval, p1, p2, p3, p4, p5, p6]
  refine ho.appB (by simp only [List.length_append]; omega) fun v3 T3 ho => J1 ?_
  obtain ⟨p1, p2, p3, p4, p5, p6⟩ := ho.form
  simp -implicitDefEqProofs -dsimp only [go_sem, seval, p1, p2, p3, p4, p5, p6, ↓J0 _ _ q21]
  refine cpn (qje y.v (by omega)) ?_
  simp -implicitDefEqProofs -dsimp only [go_sem, seval, p1, p2, p3, p4, p5, p6]
  refine ho.appB (by simp only [List.length_append, q75]; omega) fun v4 T4 ho => J1 ?_
  obtain ⟨p1, p2, p3, p4, p5, p6⟩ := ho.form
  simp -implicitDefEqProofs -dsimp only [go_sem, seval, p1, p2, p3, p4, p5, p6, hs]
  have he : b ++ enc y.sl.toNat ++ (enc y.rd.toNat ++ enc y.nd.toNat) ++ q75 y.v = b ++ qyz y := by simp only [qyz, List.append_assoc]
  rw [he] at ho
  refine ih (k + 1) hk' hlt _ _ _ ?_ ho h2
  simp only [List.length_append, q75, qyz]; omega
def RfG (c : Rf) : Prop := c.Ok /\ (qiq c).length <= 130
theorem zeh {R : Y5} (hR : ExtR R) {T : Tab} {lc : List AV} {xs : List Rf} (hl : xs.length <= 400) (hx : ∀ x ∈ xs, RfG x) : ∀ (us : List Rf) (k : Nat), xs.drop k = us -> k <= xs.length -> ∀ (b : Bs) (v : AV) (T1 : Tab), b.length <= 100000 + 2100 * k -> OB T b v T1 ->
  (∀ v T1, OB T (b ++ us.flatMap qiq) v T1 -> R (.exit 2) [(1, .lp 1 0), (3, v), (52, .fz xs.length (xs.flatMap rfL) none), (53, .i .i64 xs.length), (54, .i .i64 xs.length), (55, .b false)] [(1, lc)] T1) ->
  AW prog q49 R [(1, .lp 1 0), (3, v), (52, .fz xs.length (xs.flatMap rfL) none), (53, .i .i64 xs.length), (54, .i .i64 k)] [(1, lc)] T1 := by
 intro us
 induction us with
 | nil =>
  intro k hk hle b v T1 hb ho h2
  obtain ⟨p1, p2, p3, p4, p5, p6⟩ := ho.form
  have hk' := Q2 hk hle
  refine Q1 hR ?_
  unfold q3g
  simp -implicitDefEqProofs -dsimp only [go_sem, seval, hk', Int.lt_irrefl, p1, p2, p3, p4, p5, p6]
  rw [hk', List.flatMap_nil, List.append_nil] at h2
  exact h2 v T1 ho
 | cons y us ih =>
  intro k hk hle b v T1 hb ho h2
  obtain ⟨p1, p2, p3, p4, p5, p6⟩ := ho.form
  obtain ⟨hlt, hy, hk'⟩ := U1 hk
  have cl : ∀ c : Rf, (rfL c).length = 4 := fun _ => rfl
  have ea := Y6 cl hy
  have e5 : k * 4 + 4 <= (xs.flatMap rfL).length := by rw [N5 cl]; omega
  have hs : IntKind.i64.wrap ((k : Int) + 1) = ((k + 1 : Nat) : Int) := N3 (by omega)
  have hok := hx y (List.mem_of_getElem? hy)
  rw [List.flatMap_cons, <- List.append_assoc] at h2
  refine N8 (l := q49) rfl hR ?_
  unfold q3g
  obtain ⟨q1, q2⟩ := hok
  have pc := fun T => z86 y none q1 T
  simp only [Rf.cells] at pc
  simp -implicitDefEqProofs -dsimp only [go_sem, seval, Int.ofNat_lt, hlt, Int.natCast_nonneg, Int.toNat_natCast, ea, e5, rfL, Rf.cells, List.cons_append, List.nil_append, p1, p2, p3, p4, p5, p6, ↓J0 _ _ qny]
  refine CallK.of (pc T1) (fun w T2 hw => J1 ?_)
  obtain ⟨q1, q2, q3, q4, q5, q6⟩ := hw.form
  simp -implicitDefEqProofs -dsimp only [go_sem, seval, p1, p2, p3, p4, p5, p6, q1, q2, q3, q4, q5, q6]
  refine ho.appO hw (by omega) fun v2 T2 ho => J1 ?_
  obtain ⟨p1, p2, p3, p4, p5, p6⟩ := ho.form
  simp -implicitDefEqProofs -dsimp only [go_sem, seval, p1, p2, p3, p4, p5, p6, hs]
  refine ih (k + 1) hk' hlt _ _ _ ?_ ho h2
  simp only [List.length_append]; omega
theorem zei {R : Y5} (hR : ExtR R) {T : Tab} {xs : List En} (hl : xs.length <= 400) (hx : ∀ x ∈ xs, EnG x) : ∀ (us : List En) (k : Nat), xs.drop k = us -> k <= xs.length -> ∀ (b : Bs) (v : AV) (T1 : Tab), b.length <= 100000 + 2100 * k -> OB T b v T1 ->
  (∀ v T1, OB T (b ++ us.flatMap z18) v T1 -> R (.exit 4) [(3, v), (73, .fz xs.length (xs.flatMap enC) none), (74, .i .i64 xs.length), (75, .i .i64 xs.length), (76, .b false)] [] T1) ->
  AW prog q4a R [(3, v), (73, .fz xs.length (xs.flatMap enC) none), (74, .i .i64 xs.length), (75, .i .i64 k)] [] T1 := by
 intro us
 induction us with
 | nil =>
  intro k hk hle b v T1 hb ho h2
  obtain ⟨p1, p2, p3, p4, p5, p6⟩ := ho.form
  have hk' := Q2 hk hle
  refine Q1 hR ?_
  unfold q3h
  simp -implicitDefEqProofs -dsimp only [go_sem, seval, hk', Int.lt_irrefl, p1, p2, p3, p4, p5, p6]
  rw [hk', List.flatMap_nil, List.append_nil] at h2
  exact h2 v T1 ho
 | cons y us ih =>
  intro k hk hle b v T1 hb ho h2
  obtain ⟨p1, p2, p3, p4, p5, p6⟩ := ho.form
  obtain ⟨hlt, hy, hk'⟩ := U1 hk
  have cl : ∀ c : En, (enC c).length = 10 := fun _ => rfl
  have ea := Y6 cl hy
  have e5 : k * 10 + 10 <= (xs.flatMap enC).length := by rw [N5 cl]; omega
  have hs : IntKind.i64.wrap ((k : Int) + 1) = ((k + 1 : Nat) : Int) := N3 (by omega)
  have hok := hx y (List.mem_of_getElem? hy)
  rw [List.flatMap_cons, <- List.append_assoc] at h2
  refine N8 (l := q4a) rfl hR ?_
  unfold q3h
  obtain ⟨q1, q2, q3⟩ := hok
  have g := En.good_of q1 q3
  have lc := qiu g
  have l4 := K6 (m := (q8g y).length) (by omega)
  have pc : PCalls prog q3w [.agg (y.cells none none)] (bts (q8g y) none) := fun T => zao y none none g T
  simp only [En.cells] at pc
  simp -implicitDefEqProofs -dsimp only [go_sem, seval, Int.ofNat_lt, hlt, Int.natCast_nonneg, Int.toNat_natCast, ea, e5, enC, En.cells, List.cons_append, List.nil_append, p1, p2, p3, p4, p5, p6, ↓J0 _ _ qo1]
  refine cpn pc ?_
  have hbl : (K9 (q8g y)).length = (q8g y).length := Y4 _
  generalize hE : q8g y = E at *
  simp -implicitDefEqProofs -dsimp only [go_sem, seval, p1, p2, p3, p4, p5, p6]
  unfold bts
  simp -implicitDefEqProofs -dsimp only [go_sem, seval, hbl, q68, p1, p2, p3, p4, p5, p6, ↓J0 _ _ q21]
  refine cpn (qje E (by omega)) ?_
  simp -implicitDefEqProofs -dsimp only [go_sem, seval, p1, p2, p3, p4, p5, p6]
  refine ho.appB (by simp only [q75, List.length_append]; omega) fun v2 T2 ho => J1 ?_
  obtain ⟨p1, p2, p3, p4, p5, p6⟩ := ho.form
  simp -implicitDefEqProofs -dsimp only [go_sem, seval, p1, p2, p3, p4, p5, p6, hs]
  rw [show z18 y = q75 E by rw [z18, hE]] at h2
  refine ih (k + 1) hk' hlt _ _ _ ?_ ho h2
  simp only [List.length_append, q75]; omega
end Go.Aw
