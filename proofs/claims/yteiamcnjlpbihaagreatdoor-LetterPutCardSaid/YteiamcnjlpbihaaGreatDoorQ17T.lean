import Derived.Test.YteiamcnjlpbihaaGreatDoorN17T16J
import Derived.Test.YteiamcnjlpbihaaGreatDoorQ17N
import Derived.Test.YteiamcnjlpbihaaGreatDoorN17F04Y
import Derived.Test.YteiamcnjlpbihaaGreatDoorQ17H
namespace Go.Aw
open Go
open Go.Proofs.Tryz (prog)
set_option linter.all false
set_option maxHeartbeats 4000000
theorem zek {R : Y5} (hR : ExtR R) {T : Tab} {c : Rf} {k1 k2 : Option Nat} (hl : Len c.l.length) : ∀ (ys : List (Int × Bool)) (k : Nat), c.l.drop k = ys -> k <= c.l.length ->
  R (.exit 0) [(2, .lp 2 0), (3, .lp 3 0), (36, .i .i64 c.l.length), (37, .i .i64 c.l.length), (38, .b false)] [(2, c.cells k1), (3, c.cells k2)] T ->
  AW prog qc6 R [(2, .lp 2 0), (3, .lp 3 0), (36, .i .i64 c.l.length), (37, .i .i64 k)] [(2, c.cells k1), (3, c.cells k2)] T := by
 intro ys
 induction ys with
 | nil =>
  intro k hk hle h2
  have hk' := Q2 hk hle
  refine Q1 hR ?_
  unfold q7w
  simp -implicitDefEqProofs -dsimp only [go_sem, seval, hk', Int.lt_irrefl]
  rw [hk'] at h2
  exact h2
 | cons y ys ih =>
  intro k hk hle h2
  obtain ⟨hlt, hy, hk'⟩ := U1 hk
  have hl' := hl
  unfold Len at hl
  refine Q1 hR ?_
  unfold q7w
  simp -implicitDefEqProofs -dsimp only [go_sem, seval, Int.ofNat_lt, hlt, Int.natCast_nonneg, Int.toNat_natCast, qyi hy, Rf.cells, Y7, N6, decide_true, decide_false, Bool.true_and]
  rw [N3 (by omega)]
  exact ih (k + 1) hk' hlt h2
theorem zel (c : Rf) (k1 k2 : Option Nat) (hl : Len c.l.length) : PCalls prog q5p [.agg (c.cells k1), .agg (c.cells k2)] (.b true) := by
 refine K7 U4 qlp (by simp) fun T => ?_
 unfold qdb
 simp -implicitDefEqProofs -dsimp only [go_sem, seval, Rf.cells, decide_true, decide_false]
 refine zek (c := c) (k1 := k1) (k2 := k2) (by repeat' (first | exact N2 _ _ | assumption | apply N1 | apply K8 | apply Q6)) hl c.l 0 rfl (by omega) ?_
 simp -implicitDefEqProofs -dsimp only [go_sem, seval]
 exact J9 rfl
end Go.Aw
namespace Go.Aw
open Go
open Go.Proofs.Tryz (prog)
set_option linter.all false
set_option maxHeartbeats 8000000
set_option maxRecDepth 8000
theorem qz4 {b : Bool} {n m : Int} (h : inF b n m = true) (hm : 0 <= m) : 0 <= n /\ n <= m := by
 unfold inF at h
 cases b <;> simp only [Bool.or_eq_true, Bool.and_eq_true, decide_eq_true_eq, if_true, Bool.false_eq_true, if_false] at h <;> omega
theorem zem {l : Lt Cf} (h : lrF l = true) (hr : l.Rng) (hc : ∀ c ∈ l.cs, c.fu.length = c.ch.length) (hq : 0 <= l.sq) : l.plain.EncR := by
 have hrr : rrF l.plain = true := by rw [z2h l hc, h]
 obtain ⟨h1, h2, h3, h4, h5⟩ := qjh h
 have a1 := quw h2
 have a2 := quw h3
 have hk := h1
 simp only [qcs, decide_eq_true_eq] at hk
 simp only [rrF, Bool.and_eq_true, Bool.not_eq_true'] at hrr
 obtain ⟨⟨⟨⟨⟨r1, r2⟩, r3⟩, r4⟩, r5⟩, r6⟩ := hrr
 simp only [rc1, Bool.or_eq_false_iff, Bool.not_eq_false'] at r1
 simp only [rc2, Bool.or_eq_false_iff, Bool.not_eq_false'] at r2
 simp only [rc4, Bool.or_eq_false_iff] at r4
 simp only [rc5, Bool.or_eq_false_iff] at r5
 have li := r1.2
 rw [zb6] at li
 simp only [Bool.and_eq_true, Bool.not_eq_true', rl2, Bool.or_eq_false_iff, decide_eq_false_iff_not] at li
 obtain ⟨⟨⟨⟨_, l2⟩, l3⟩, l4⟩, l5⟩ := li
 have i1 := qz4 r2.1.1.1.1 (by decide)
 have i2 := qz4 r2.1.1.1.2 (by decide)
 have i3 := qz4 r2.1.1.2 (by decide)
 have i4 := qz4 r2.1.2 (by decide)
 have i5 := qz4 r2.2 (by decide)
 have hl1 : l.plain.vs.length <= 400 := by omega
 have hl2 : l.plain.cs.length <= 4 := by omega
 have hl3 : l.plain.es.length <= 8 := by omega
 refine ⟨fun x hx => ?_, by omega, hr.ep, by omega, by omega, by omega, hr.br, ?_, fun ht => ?_, ?_, ⟨hq, hr.sq⟩, ?_, hr.q, by omega, ⟨hl1, fun v hv => ?_⟩, ⟨hl2, fun c hm => ?_⟩, ⟨hl3, fun e he => ?_⟩⟩
 ·simp only [List.mem_cons, List.not_mem_nil, or_false] at hx
  rcases hx with rfl | rfl | rfl | rfl | rfl
  ·exact a1.1
  ·exact a1.2
  ·exact a2.1
  ·exact a2.2
  ·show 0 <= l.k /\ l.k < 1000; omega
 ·rcases hb : q76 l.plain.k [98, 97, 108, 108, 111, 116] with _ | _
  ·rw [hb] at r5
   have : l.plain.bn = 0 := by have := r5.2; simp at this; exact this.2
   rw [this]; decide
  ·rw [hb] at r5; simpa using r5.1
 ·rw [if_pos ht] at r6
  exact qfr r6 hr.tsq hr.tr
 ·rcases hb : q76 l.plain.k [105, 100] with _ | _
  ·rw [hb] at r4
   have : l.plain.cl = 0 := by have := r4.2; simp at this; exact this.1
   omega
  ·rw [hb] at r4
   have : qhl l.plain.cl l.plain.sq = true := by have := r4.1.2; simpa using this
   simp only [qhl, Bool.and_eq_true, decide_eq_true_eq] at this
   omega
 ·rcases hb : q76 l.plain.k [118, 97, 108] with _ | _
  ·rw [hb] at r4
   have : l.plain.v = [] := by have := r4.1.1.2; simpa using this
   rw [this]; exact Nat.zero_le _
  ·rw [hb] at r4
   have := r4.1.1.1
   simp at this
   omega
 ·have := List.all_eq_true.1 l3 v hv
  simp only [z2d, qa1, Bool.and_eq_true, decide_eq_true_eq] at this
  exact ⟨this.1, hr.vs v hv, this.2.1, by omega⟩
 ·obtain ⟨r, hm2, rfl⟩ := List.mem_map.1 hm
  have hl4 : (!(l.cs.any z3u)) = true := by rw [<- z2g l hc]; exact l4
  have hrt : r.right = true := zil (p := Cf.right) hl4 r hm2
  have ho := Cf.ok_of hrt (hr.cs r hm2).1
  exact ⟨ho.plain, qt0 ho⟩
 ·exact ⟨List.all_eq_true.1 l5 e he, hr.es e he⟩
theorem zmi (l : Lt Cf) : xC l.plain = enS l 99 := by
 rw [z7o]
 show enc (l.cs.map Cf.plain).length ++ (l.cs.map Cf.plain).flatMap qiq = _
 rw [List.length_map, List.flatMap_map]
 rfl
theorem zmj (l : Lt Cf) : hdB l.plain = enc l.fk.toNat ++ enc l.fn.toNat ++ enc l.tk.toNat ++ enc l.tn.toNat ++ enc l.k.toNat := by
 show qqy [l.fk, l.fn, l.tk, l.tn, l.k] = _
 simp [qqy]
theorem zmk {l : Lt Cf} (hk : qcs l.k = true) : byF l.plain = qcq l := by
 have e1 : [qji l.plain.fl] = enS l 102 := by rw [qwi, ql7]; rfl
 have e2 : xV l.plain = enS l 118 := by rw [z19]; rfl
 have e3 : xE l.plain = enS l 108 := by rw [z1a]; rfl
 have e4 : enc l.plain.sh.toNat = enS l 115 := by rw [qwd]; rfl
 have e5 : enc l.plain.ep.toNat = enS l 101 := by rw [qwe]; rfl
 have e6 : enc l.plain.n.toNat = enS l 110 := by rw [qwf]; rfl
 have e7 : enc l.plain.m.toNat = enS l 109 := by rw [qwg]; rfl
 have e8 : enc l.plain.nd.toNat = enS l 111 := by rw [qwh]; rfl
 have e9 : enc l.plain.br.toNat ++ enc l.plain.bn.toNat = enS l 98 := by rw [z2m]; rfl
 have e10 : qa4 l.plain.t = enS l 120 := by rw [qwj]; rfl
 have e11 : enc l.plain.cl.toNat ++ enc l.plain.sq.toNat = enS l 105 := by rw [qwk]; rfl
 have e12 : q75 l.plain.v = enS l 116 := by rw [qwl]; rfl
 have e13 : enc l.plain.q.toNat = enS l 113 := by rw [qwm]; rfl
 have e14 : enc l.plain.co.toNat = enS l 114 := by rw [qwn]; rfl
 have ek : l.plain.k = l.k := rfl
 unfold byF lbF qcq
 rw [zmj, zmi, e1, e2, e3, e4, e5, e6, e7, e8, e9, e10, e11, e12, e13, e14, ek]
 generalize enc l.fk.toNat ++ enc l.fn.toNat ++ enc l.tk.toNat ++ enc l.tn.toNat ++ enc l.k.toNat = H
 rcases kinds l.k with (hk | hk | hk | hk | hk | hk | hk | hk | hk | hk | hk | hk | hk | hk | hk | hk | hk | hk | hk | hk | hk) | hn
 any_goals (rw [hk]; simp only [hX, q0u, q0v, qds, qdt, q1u, q1v, q07, q0w, q0x, G5, q3o, q8j, q3p, q3q, q1w, q6g, Int.reduceEq, decide_true, decide_false, Bool.or_false, Bool.or_true, Bool.false_or, Bool.true_or, Bool.or_self, Bool.false_eq_true, if_true, if_false, or_self, or_false, false_or, or_true, true_or, List.flatMap_cons, List.flatMap_nil, List.append_nil, List.nil_append, List.append_assoc, UInt8.reduceToNat, Int.cast_ofNat_Int]; done)
 rw [hn] at hk; cases hk
end Go.Aw
namespace Go.Aw
open Go
open Go.Proofs.Tryz (prog)
set_option linter.all false
set_option maxHeartbeats 8000000
set_option maxRecDepth 8000
theorem zen {R : Y5} (hR : ExtR R) {T : Tab} {l : Lt Rf} (hl : l.vs.length <= 1000) (hx : ∀ x ∈ l.vs, VtT x) : ∀ (us : List Vt) (k : Nat), l.vs.drop k = us -> k <= l.vs.length ->
  R (.exit 0) [(2, .lp 2 0), (3, .lp 3 0), (137, .i .i64 l.vs.length), (138, .i .i64 l.vs.length), (139, .b false)] [(2, l.cells rfL), (3, l.cells rfL)] T ->
  AW prog q8o R [(2, .lp 2 0), (3, .lp 3 0), (137, .i .i64 l.vs.length), (138, .i .i64 k)] [(2, l.cells rfL), (3, l.cells rfL)] T := by
 intro us
 induction us with
 | nil =>
  intro k hk hle h2
  have hk' := Q2 hk hle
  refine Q1 hR ?_
  unfold q7o
  simp -implicitDefEqProofs -dsimp only [go_sem, seval, hk', Int.lt_irrefl]
  rw [hk'] at h2
  exact h2
 | cons y us ih =>
  intro k hk hle h2
  obtain ⟨hlt, hy, hk'⟩ := U1 hk
  have cl : ∀ c : Vt, (vtC c).length = 4 := fun _ => rfl
  have ea := Y6 cl hy
  have e5 : k * 4 + 4 <= (l.vs.flatMap vtC).length := by rw [N5 cl]; omega
  have hs : IntKind.i64.wrap ((k : Int) + 1) = ((k + 1 : Nat) : Int) := N3 (by omega)
  have hok := hx y (List.mem_of_getElem? hy)
  refine N8 (l := q8o) rfl hR ?_
  unfold q7o
  simp -implicitDefEqProofs -dsimp only [go_sem, seval, Int.ofNat_lt, hlt, Int.natCast_nonneg, Int.toNat_natCast, ea, e5, vtC, List.cons_append, List.nil_append, Q3, Y7, N6, decide_true, Bool.not_true, Bool.and_self]
  simp -implicitDefEqProofs -dsimp only [go_sem, seval, hs, Q3]
  exact ih (k + 1) hk' hlt h2
theorem zeo {R : Y5} (hR : ExtR R) {T : Tab} {l : Lt Rf} (hl : l.cs.length <= 1000) (hx : ∀ x ∈ l.cs, RfL x) : ∀ (us : List Rf) (k : Nat), l.cs.drop k = us -> k <= l.cs.length ->
  R (.exit 2) [(2, .lp 2 0), (3, .lp 3 0), (155, .i .i64 l.cs.length), (156, .i .i64 l.cs.length), (157, .b false)] [(2, l.cells rfL), (3, l.cells rfL)] T ->
  AW prog q8p R [(2, .lp 2 0), (3, .lp 3 0), (155, .i .i64 l.cs.length), (156, .i .i64 k)] [(2, l.cells rfL), (3, l.cells rfL)] T := by
 intro us
 induction us with
 | nil =>
  intro k hk hle h2
  have hk' := Q2 hk hle
  refine Q1 hR ?_
  unfold q7p
  simp -implicitDefEqProofs -dsimp only [go_sem, seval, hk', Int.lt_irrefl]
  rw [hk'] at h2
  exact h2
 | cons y us ih =>
  intro k hk hle h2
  obtain ⟨hlt, hy, hk'⟩ := U1 hk
  have cl : ∀ c : Rf, (rfL c).length = 4 := fun _ => rfl
  have ea := Y6 cl hy
  have e5 : k * 4 + 4 <= (l.cs.flatMap rfL).length := by rw [N5 cl]; omega
  have hs : IntKind.i64.wrap ((k : Int) + 1) = ((k + 1 : Nat) : Int) := N3 (by omega)
  have hok := hx y (List.mem_of_getElem? hy)
  refine N8 (l := q8p) rfl hR ?_
  unfold q7p
  have pc := zel y none none hok
  simp only [Rf.cells] at pc
  simp -implicitDefEqProofs -dsimp only [go_sem, seval, Int.ofNat_lt, hlt, Int.natCast_nonneg, Int.toNat_natCast, ea, e5, rfL, Rf.cells, List.cons_append, List.nil_append, Q3, ↓J0 _ _ qlq]
  refine cpn pc ?_
  simp -implicitDefEqProofs -dsimp only [go_sem, seval, hs, Q3]
  exact ih (k + 1) hk' hlt h2
theorem zep {R : Y5} (hR : ExtR R) {T : Tab} {l : Lt Rf} (hl : l.es.length <= 1000) (hx : ∀ x ∈ l.es, EnP x) : ∀ (us : List En) (k : Nat), l.es.drop k = us -> k <= l.es.length ->
  R (.exit 4) [(2, .lp 2 0), (3, .lp 3 0), (174, .i .i64 l.es.length), (175, .i .i64 l.es.length), (176, .b false)] [(2, l.cells rfL), (3, l.cells rfL)] T ->
  AW prog q8q R [(2, .lp 2 0), (3, .lp 3 0), (174, .i .i64 l.es.length), (175, .i .i64 k)] [(2, l.cells rfL), (3, l.cells rfL)] T := by
 intro us
 induction us with
 | nil =>
  intro k hk hle h2
  have hk' := Q2 hk hle
  refine Q1 hR ?_
  unfold q7q
  simp -implicitDefEqProofs -dsimp only [go_sem, seval, hk', Int.lt_irrefl]
  rw [hk'] at h2
  exact h2
 | cons y us ih =>
  intro k hk hle h2
  obtain ⟨hlt, hy, hk'⟩ := U1 hk
  have cl : ∀ c : En, (enC c).length = 10 := fun _ => rfl
  have ea := Y6 cl hy
  have e5 : k * 10 + 10 <= (l.es.flatMap enC).length := by rw [N5 cl]; omega
  have hs : IntKind.i64.wrap ((k : Int) + 1) = ((k + 1 : Nat) : Int) := N3 (by omega)
  have hok := hx y (List.mem_of_getElem? hy)
  refine N8 (l := q8q) rfl hR ?_
  unfold q7q
  have pc := qwp y none none none none hok.1
  simp only [En.cells] at pc
  simp -implicitDefEqProofs -dsimp only [go_sem, seval, Int.ofNat_lt, hlt, Int.natCast_nonneg, Int.toNat_natCast, ea, e5, enC, En.cells, List.cons_append, List.nil_append, Q3, ↓J0 _ _ qlt]
  refine cpn pc ?_
  simp -implicitDefEqProofs -dsimp only [go_sem, seval, hs, Q3]
  exact ih (k + 1) hk' hlt h2
theorem z89 (l : Lt Rf) (h : l.Ref) (h1 : l.vs.length <= 1000) (h2 : l.cs.length <= 1000) (h3 : l.es.length <= 1000) : PCalls prog q5l [.agg (l.cells rfL), .agg (l.cells rfL)] (.b true) := by
 refine K7 U4 qlc (by simp) fun T => ?_
 have pc := qim l.t none none none none h.t
 have hbb : ∀ b : Bool, (b == b) = true := fun b => by cases b <;> rfl
 unfold qd4
 simp -implicitDefEqProofs -dsimp only [go_sem, seval, Q3, Y7, N6, hbb, decide_true, Bool.not_true, Bool.and_self, ↓O8, G0, true_and, ↓J0 _ _ q6v]
 refine cpn pc ?_
 simp -implicitDefEqProofs -dsimp only [go_sem, seval, Q3, decide_true, Bool.not_true, ↓O8, G0, true_and]
 refine zen (T := T) (l := l) (by repeat' (first | exact N2 _ _ | assumption | apply N1 | apply K8 | apply Q6)) h1 (fun _ _ => trivial) l.vs 0 rfl (Nat.zero_le _) ?_
 simp -implicitDefEqProofs -dsimp only [go_sem, seval, Q3]
 refine zeo (T := T) (l := l) (by repeat' (first | exact N2 _ _ | assumption | apply N1 | apply K8 | apply Q6)) h2 h.c l.cs 0 rfl (Nat.zero_le _) ?_
 simp -implicitDefEqProofs -dsimp only [go_sem, seval, Q3]
 refine zep (T := T) (l := l) (by repeat' (first | exact N2 _ _ | assumption | apply N1 | apply K8 | apply Q6)) h3 h.e l.es 0 rfl (Nat.zero_le _) ?_
 simp -implicitDefEqProofs -dsimp only [go_sem, seval, Q3]
 exact J9 rfl
theorem zau (l : Lt Cf) (h : lrF l = true) (hr : l.Rng) (hc : ∀ c ∈ l.cs, c.fu.length = c.ch.length) (hq : 0 <= l.sq) : PCalls prog q77 [.agg (l.plain.cells rfL)] (bts (frm (qcq l)) none) := by
 refine K7 U4 qn7 (by simp) fun T => ?_
 have pc := z88 l.plain (zem h hr hc hq)
 rw [zmk (qjh h).1] at pc
 have hl := qiv hr h
 have pf := zef (qcq l) none hl.1 (by omega)
 unfold qe0
 simp -implicitDefEqProofs -dsimp only [go_sem, seval, Q3, ↓J0 _ _ qjr]
 refine cpn pc ?_
 simp -implicitDefEqProofs -dsimp only [go_sem, seval, ↓J0 _ _ qnc]
 refine cpn pf ?_
 simp -implicitDefEqProofs -dsimp only [go_sem, seval]
 exact J9 rfl
end Go.Aw
namespace Go.Aw
open Go
open Go.Proofs.Tryz (prog)
set_option linter.all false
set_option maxHeartbeats 8000000
set_option maxRecDepth 8000
theorem zav (b : Bs) (cap : Option Nat) (hl : b.length <= 1000000) : PCalls prog qck [bts b cap] (.tup [.agg (loA b).cc, .i .i64 (qh9 (loE b))]) := by
 refine K7 U4 qvk (by simp) fun T => ?_
 have h := zam b cap hl
 have hc := z15 (loE b)
 generalize loA b = A at *
 unfold qn5
 rcases he : loE b with _ | e
 ·rw [he] at h hc
  simp only [qwr] at h hc
  generalize qh9 none = C at *
  simp -implicitDefEqProofs -dsimp only [go_sem, seval, ↓J0 _ _ qng]
  refine cpn h ?_
  simp -implicitDefEqProofs -dsimp only [go_sem, seval, ↓J0 _ _ qbk]
  refine cpn hc ?_
  simp -implicitDefEqProofs -dsimp only [go_sem, seval]
  exact J9 rfl
 ·rw [he] at h hc
  obtain ⟨t, v, ev⟩ := e.ifc
  simp only [qwr, ev] at h hc
  generalize qh9 (some e) = C at *
  simp -implicitDefEqProofs -dsimp only [go_sem, seval, ↓J0 _ _ qng]
  refine cpn h ?_
  simp -implicitDefEqProofs -dsimp only [go_sem, seval, ↓J0 _ _ qbk]
  refine cpn hc ?_
  simp -implicitDefEqProofs -dsimp only [go_sem, seval]
  exact J9 rfl
theorem zj1 {o : Lt Cf} (h : lrF o = true) (hr : o.Rng) : loA (frm (qcq o)) = o /\ loE (frm (qcq o)) = none := by
 have hl := qiv hr h
 obtain ⟨e1, e2⟩ := zix (p := qcq o) (by omega)
 have e3 := ze8 hr h
 have e4 : lOk (qcq o, false) = true := by unfold lOk; rw [e3, h]; rfl
 unfold loA loE
 rw [e1, e2, e4, e3]
 exact ⟨rfl, rfl⟩
theorem qz5 (l : Lt Rf) (h : l.Arg) : PCalls prog q9r [.agg l.rc] (.b true) := by
 refine K7 U4 qf7 (by simp) fun T => ?_
 have hf := h.fine
 have hr := h.rng
 have hs := hf.small
 have c1 := z9j l h.wide
 have c2 := z6s l.ours hf
 have c3 := z2p l.ours hs hf.t hr
 have c4 := z6o l.ours.plain h.ref
 rw [z2h _ fun c hc => (hf.cl c hc).2] at c4
 have cA := z49
 unfold q9u
 rcases hk : lrF l.ours with _ | _
 ·rw [hk] at c4
  rw [z7q, if_neg (by rw [hk]; decide)] at c3
  generalize l.ours.plain = w at *
  generalize l.ours = o at *
  simp -implicitDefEqProofs -dsimp only [go_sem, seval, ↓J0 _ _ qd3]
  refine cpn c1 ?_
  simp -implicitDefEqProofs -dsimp only [go_sem, seval, ↓J0 _ _ q8n]
  refine cpn c2 ?_
  simp -implicitDefEqProofs -dsimp only [go_sem, seval, ↓J0 _ _ qhw]
  refine cpn c3 ?_
  simp -implicitDefEqProofs -dsimp only [go_sem, seval, ↓J0 _ _ qbz]
  refine cpn c4 ?_
  simp -implicitDefEqProofs -dsimp only [go_sem, seval, decide_true, ↓O8, G0, true_and, ↓J0 _ _ qc1]
  refine cpn cA ?_
  simp -implicitDefEqProofs -dsimp only [go_sem, seval]
  exact J9 rfl
 ·rw [hk] at c4
  rw [z7q, if_pos hk] at c3
  have hl := qiv hr hk
  obtain ⟨e1, e2⟩ := zj1 hk hr
  have c5 := zav (frm (qcq l.ours)) none (by rw [qmo]; omega)
  rw [e1, e2] at c5
  have c6 := zau l.ours hk hr (fun c hc => (hf.cl c hc).2) h.ref.sq
  have c7 := qoh l.ours l.ours hs hs
  rw [z9k] at c7
  have c8 := z89 l.ours.plain h.ref (Nat.le_trans hf.vs (by decide)) (by show (l.ours.cs.map Cf.plain).length <= 1000; rw [List.length_map]; exact Nat.le_trans hf.cs (by decide)) (Nat.le_trans hf.es (by decide))
  have hbb : ∀ b : Bs, decide (b = b) = true := fun b => decide_eq_true rfl
  have hbl : (K9 (frm (qcq l.ours))).length = (frm (qcq l.ours)).length := Y4 _
  have ec : qh9 none = 0 := rfl
  rw [ec] at c5
  generalize frm (qcq l.ours) = F at *
  generalize l.ours.plain = w at *
  generalize l.ours = o at *
  simp -implicitDefEqProofs -dsimp only [go_sem, seval, ↓J0 _ _ qd3]
  refine cpn c1 ?_
  simp -implicitDefEqProofs -dsimp only [go_sem, seval, ↓J0 _ _ q8n]
  refine cpn c2 ?_
  simp -implicitDefEqProofs -dsimp only [go_sem, seval, ↓J0 _ _ qhw]
  refine cpn c3 ?_
  simp -implicitDefEqProofs -dsimp only [go_sem, seval, qyg, qsm, qsn, qso, qsp, qsq, ↓J0 _ _ qbz]
  refine cpn c4 ?_
  simp -implicitDefEqProofs -dsimp only [go_sem, seval, qyg, qsm, qsn, qso, qsp, qsq, ↓J0 _ _ qvl]
  refine cpn c5 ?_
  unfold bts at *
  simp -implicitDefEqProofs -dsimp only [go_sem, seval, hbl, q68, decide_true, ↓O8, G0, true_and, ↓J0 _ _ qn8]
  refine CallK.pure c6 (zfl (fun _ => ?_) ?_)
  ·simp -implicitDefEqProofs -dsimp only [go_sem, seval, G0, qhk, gdd, hbl, q68]
  simp -implicitDefEqProofs -dsimp only [go_sem, seval, hbl, q68, hbb, decide_true, ↓O8, G0, true_and, ↓J0 _ _ q26]
  refine cpn c7 ?_
  simp -implicitDefEqProofs -dsimp only [go_sem, seval, decide_true, ↓O8, G0, true_and, ↓J0 _ _ q8n]
  refine cpn c2 ?_
  simp -implicitDefEqProofs -dsimp only [go_sem, seval, decide_true, ↓O8, G0, true_and, ↓J0 _ _ qld]
  refine cpn c8 ?_
  simp -implicitDefEqProofs -dsimp only [go_sem, seval, decide_true, ↓O8, G0, true_and, ↓J0 _ _ qc1]
  refine cpn cA ?_
  simp -implicitDefEqProofs -dsimp only [go_sem, seval]
  exact J9 rfl
end Go.Aw
