import Derived.Test.YtchdmofoaokpjaaGreatDoorM30N17M17O
import Derived.Test.YtchdmofoaokpjaaGreatDoorM30N17O16C
import Derived.Test.YtchdmofoaokpjaaGreatDoorM30N17E12J
import Derived.Test.YtchdmofoaokpjaaGreatDoorM30N17F04N
namespace Go.Aw
open Go
open Go.Proofs.Tryz (prog)
set_option linter.all false
set_option maxHeartbeats 8000000
set_option maxRecDepth 8000
theorem z30 (b : Bool) : PCalls prog q8b [.b b] (.i .u64 ((if b = true then (1 : Nat) else 0 : Nat) : Int)) := by
 refine K6 U1 qoe (by simp) fun T => ?_
 unfold qgb
 cases b <;> simp -implicitDefEqProofs -dsimp only [go_sem, seval] <;> exact J9 rfl
theorem qwi (n : Int) : PCalls prog q6t [.i .i64 n] (.b (qjk n)) := by
 refine K6 U1 qku (by simp) fun T => ?_
 unfold qct
 simp -implicitDefEqProofs -dsimp only [go_sem, seval]
 (first | (apply K0 <;> intro h_1 <;> simp -implicitDefEqProofs -dsimp only [go_sem, seval, h_1]) | (have h_1 := trivial)) <;>
  (first | (apply K0 <;> intro h_2 <;> simp -implicitDefEqProofs -dsimp only [go_sem, seval, h_1, h_2]) | (have h_2 := trivial)) <;>
  (first | (apply K0 <;> intro h_3 <;> simp -implicitDefEqProofs -dsimp only [go_sem, seval, h_1, h_2, h_3]) | (have h_3 := trivial))
 all_goals (refine J9 ?_; simp only [qjk, *, Bool.true_and, Bool.false_and])
theorem qzt (b : Bs) (c : Option Nat) (r : Nat) (n : Int) (hb : b.length <= 900000) (hr : r < 18446744073709551616) (hn : qjk n = true) : PCalls prog q7j [bts b c, .agg [.i .u64 r, .i .i64 n]] (bts (b ++ (enc r ++ enc n.toNat)) none) := by
 refine K6 U1 qq0 (by simp) fun T => ?_
 have hn' := hn
 simp only [qjk, Bool.and_eq_true, decide_eq_true_eq] at hn'
 obtain ⟨m, rfl⟩ := Int.eq_ofNat_of_zero_le hn'.1
 have l1 := K5 (m := r) hr
 unfold qi7
 simp -implicitDefEqProofs -dsimp only [go_sem, seval, ↓J0 _ _ qkv]
 refine cpn (qwi _) ?_
 simp -implicitDefEqProofs -dsimp only [go_sem, seval, hn, q0q (n := m) (by omega), ↓J0 _ _ O4]
 refine cpn (I4 b c r (by omega) hr) ?_
 simp -implicitDefEqProofs -dsimp only [go_sem, seval, q0q (n := m) (by omega), ↓J0 _ _ O4]
 refine cpn (I4 (b ++ enc r) none m (by simp; omega) (by omega)) ?_
 simp -implicitDefEqProofs -dsimp only [go_sem, seval]
 exact J9 (by rw [List.append_assoc]; rfl)
def qzu (v : Vt) : Bs := enc v.sl.toNat ++ (enc v.rd.toNat ++ enc v.nd.toNat) ++ qd5 v.v
def z75 (c : Cf) : Bs := qot c.plain
def z32 (e : En) : Bs := qd5 (q93 e)
def VtG (v : Vt) : Prop := (0 <= v.sl /\ v.sl <= 1048576) /\ (0 <= v.rd /\ v.rd < 18446744073709551616) /\ qjk v.nd = true /\ v.v.length <= 64
def CfG (c : Cf) : Prop := c.right = true /\ (0 <= c.ep /\ c.ep < 18446744073709551616) /\ Len c.ch.length
def EnG (e : En) : Prop := qim e = true /\ e.t.Fine /\ e.Rng
theorem qr7 {c : Cf} (h : c.Ok) : (qot c.plain).length <= 130 := by
 obtain ⟨h1, h2, h3, h4, h5, h6⟩ := h
 have l1 := K5 (m := c.plain.ep.toNat) (by show c.ep.toNat < _; omega)
 have l2 := K5 (m := c.plain.sh.toNat) (by show c.sh.toNat < _; omega)
 have l3 := K5 (m := c.plain.l.length) (by rw [c.plain_len]; omega)
 have l4 := K5 (m := lnN c.plain.ln) (by show lnN c.ln < _; unfold lnN; split <;> omega)
 have l5 := q5i (g := qrc) c.plain.l (m := 11) fun m hm => qov (h5 m.1 (by rw [<- c.plain_fst]; exact List.mem_map_of_mem hm))
 rw [c.plain_len] at l5
 simp only [qot, List.length_append]; omega
theorem qli {e : En} (h : e.Good) : (q93 e).length <= 2030 := by
 obtain ⟨h1, h2⟩ := h
 have l1 := K5 (m := e.ep.toNat) (by omega)
 rcases h2 with ⟨h3, h4, h5, h6, h7, h8⟩ | ⟨h3, h4, h5, h6, h7⟩
 ·have l2 := K5 (m := e.kd.toNat) (by omega)
  have l3 := qr0 h4
  simp only [q93, List.length_append, h3, if_true]
  rw [h3] at l2; omega
 ·have l2 := K5 (m := e.kd.toNat) (by omega)
  have l3 := K5 (m := e.cl.toNat) (by omega)
  have l4 := K5 (m := e.sq.toNat) (by omega)
  have l5 := K5 (m := e.co.toNat) (by omega)
  have : ¬ e.kd = 1 := by omega
  simp only [q93, List.length_append, this, if_false]; omega
theorem zal {R : G9} (hR : ExtR R) {T : Tab} {xs : List Vt} (hl : xs.length <= 400) (hx : ∀ x ∈ xs, VtG x) : ∀ (us : List Vt) (k : Nat), xs.drop k = us -> k <= xs.length -> ∀ (b : Bs), b.length <= 100000 + 120 * k ->
  R (.exit 1) [(1, bts (b ++ us.flatMap qzu) none), (25, .fz xs.length (xs.flatMap vtC) none), (26, .i .i64 xs.length), (27, .i .i64 xs.length), (28, .b false)] [] T ->
  AW prog q39 R [(1, bts b none), (25, .fz xs.length (xs.flatMap vtC) none), (26, .i .i64 xs.length), (27, .i .i64 k)] [] T := by
 intro us
 induction us with
 | nil =>
  intro k hk hle b hb h2
  have hk' := V6 hk hle
  refine V1 hR ?_
  unfold q2o
  simp -implicitDefEqProofs -dsimp only [go_sem, seval, hk', Int.lt_irrefl]
  rw [hk', List.flatMap_nil, List.append_nil] at h2
  exact h2
 | cons y us ih =>
  intro k hk hle b hb h2
  obtain ⟨hlt, hy, hk'⟩ := Y6 hk
  have cl : ∀ c : Vt, (vtC c).length = 4 := fun _ => rfl
  have ea := q08 cl hy
  have e5 : k * 4 + 4 <= (xs.flatMap vtC).length := by rw [Q5 cl]; omega
  have hs : IntKind.i64.wrap ((k : Int) + 1) = ((k + 1 : Nat) : Int) := O8 (by omega)
  have hok := hx y (List.mem_of_getElem? hy)
  rw [List.flatMap_cons, <- List.append_assoc] at h2
  refine Q1 (l := q39) rfl hR ?_
  unfold q2o
  obtain ⟨q1, q2, q3, q4⟩ := hok
  obtain ⟨m, hm⟩ := Int.eq_ofNat_of_zero_le q1.1
  obtain ⟨r, hr⟩ := Int.eq_ofNat_of_zero_le q2.1
  have l1 := K5 (m := m) (by omega)
  have l2 := K5 (m := r) (by omega)
  have l3 := K5 (m := y.nd.toNat) (by have := q3; simp only [qjk, Bool.and_eq_true, decide_eq_true_eq] at this; omega)
  have l4 := K5 (m := y.v.length) (by omega)
  have he : qzu y = enc m ++ (enc r ++ enc y.nd.toNat) ++ qd5 y.v := by simp only [qzu, hm, hr, Int.toNat_natCast]
  simp -implicitDefEqProofs -dsimp only [go_sem, seval, Int.ofNat_lt, hlt, Int.natCast_nonneg, Int.toNat_natCast, ea, e5, vtC, List.cons_append, List.nil_append, hm, q0q (n := m) (by omega), ↓J0 _ _ O4]
  refine cpn (I4 b none m (by omega) (by omega)) ?_
  simp -implicitDefEqProofs -dsimp only [go_sem, seval, hr, ↓J0 _ _ qi8]
  refine cpn (qzt (b ++ enc m) none r y.nd (by simp; omega) (by omega) q3) ?_
  simp -implicitDefEqProofs -dsimp only [go_sem, seval, ↓J0 _ _ q6h]
  refine cpn (qdl (b ++ enc m ++ (enc r ++ enc y.nd.toNat)) none y.v (by simp; omega) (by omega)) ?_
  simp -implicitDefEqProofs -dsimp only [go_sem, seval, hs]
  rw [he] at h2
  refine ih (k + 1) hk' hlt _ ?_ (by simpa only [List.append_assoc] using h2)
  simp only [List.length_append, qd5]; omega
theorem zam {R : G9} (hR : ExtR R) {T : Tab} {xs : List Cf} (hl : xs.length <= 400) (hx : ∀ x ∈ xs, CfG x) : ∀ (us : List Cf) (k : Nat), xs.drop k = us -> k <= xs.length -> ∀ (b : Bs), b.length <= 100000 + 200 * k ->
  R (.exit 3) [(1, bts (b ++ us.flatMap z75) none), (52, .fz xs.length (xs.flatMap cfC) none), (53, .i .i64 xs.length), (54, .i .i64 xs.length), (55, .b false)] [] T ->
  AW prog q3a R [(1, bts b none), (52, .fz xs.length (xs.flatMap cfC) none), (53, .i .i64 xs.length), (54, .i .i64 k)] [] T := by
 intro us
 induction us with
 | nil =>
  intro k hk hle b hb h2
  have hk' := V6 hk hle
  refine V1 hR ?_
  unfold q2p
  simp -implicitDefEqProofs -dsimp only [go_sem, seval, hk', Int.lt_irrefl]
  rw [hk', List.flatMap_nil, List.append_nil] at h2
  exact h2
 | cons y us ih =>
  intro k hk hle b hb h2
  obtain ⟨hlt, hy, hk'⟩ := Y6 hk
  have cl : ∀ c : Cf, (cfC c).length = 5 := fun _ => rfl
  have ea := q08 cl hy
  have e5 : k * 5 + 5 <= (xs.flatMap cfC).length := by rw [Q5 cl]; omega
  have hs : IntKind.i64.wrap ((k : Int) + 1) = ((k + 1 : Nat) : Int) := O8 (by omega)
  have hok := hx y (List.mem_of_getElem? hy)
  rw [List.flatMap_cons, <- List.append_assoc] at h2
  refine Q1 (l := q3a) rfl hR ?_
  unfold q2p
  obtain ⟨q1, q2, q3⟩ := hok
  have lc := qr7 (Cf.ok_of q1 q2)
  have pc := z5z b none y none none (by omega) q3 q2
  rw [if_pos q1] at pc
  simp only [Cf.cells] at pc
  simp -implicitDefEqProofs -dsimp only [go_sem, seval, Int.ofNat_lt, hlt, Int.natCast_nonneg, Int.toNat_natCast, ea, e5, cfC, Cf.cells, List.cons_append, List.nil_append, ↓J0 _ _ qvt]
  refine cpn pc ?_
  simp -implicitDefEqProofs -dsimp only [go_sem, seval, hs]
  refine ih (k + 1) hk' hlt _ ?_ h2
  simp only [List.length_append]; omega
theorem zan {R : G9} (hR : ExtR R) {T : Tab} {xs : List En} (hl : xs.length <= 400) (hx : ∀ x ∈ xs, EnG x) : ∀ (us : List En) (k : Nat), xs.drop k = us -> k <= xs.length -> ∀ (b : Bs), b.length <= 100000 + 2100 * k ->
  R (.exit 5) [(1, bts (b ++ us.flatMap z32) none), (71, .fz xs.length (xs.flatMap enC) none), (72, .i .i64 xs.length), (73, .i .i64 xs.length), (74, .b false)] [] T ->
  AW prog q3b R [(1, bts b none), (71, .fz xs.length (xs.flatMap enC) none), (72, .i .i64 xs.length), (73, .i .i64 k)] [] T := by
 intro us
 induction us with
 | nil =>
  intro k hk hle b hb h2
  have hk' := V6 hk hle
  refine V1 hR ?_
  unfold q2q
  simp -implicitDefEqProofs -dsimp only [go_sem, seval, hk', Int.lt_irrefl]
  rw [hk', List.flatMap_nil, List.append_nil] at h2
  exact h2
 | cons y us ih =>
  intro k hk hle b hb h2
  obtain ⟨hlt, hy, hk'⟩ := Y6 hk
  have cl : ∀ c : En, (enC c).length = 10 := fun _ => rfl
  have ea := q08 cl hy
  have e5 : k * 10 + 10 <= (xs.flatMap enC).length := by rw [Q5 cl]; omega
  have hs : IntKind.i64.wrap ((k : Int) + 1) = ((k + 1 : Nat) : Int) := O8 (by omega)
  have hok := hx y (List.mem_of_getElem? hy)
  rw [List.flatMap_cons, <- List.append_assoc] at h2
  refine Q1 (l := q3b) rfl hR ?_
  unfold q2q
  obtain ⟨q1, q2, q3⟩ := hok
  have lc := qli (En.good_of q1 q3)
  have l4 := K5 (m := (q93 y).length) (by omega)
  have pc := z61 y none none q2 q3
  rw [if_pos q1] at pc
  simp only [En.cells] at pc
  simp -implicitDefEqProofs -dsimp only [go_sem, seval, Int.ofNat_lt, hlt, Int.natCast_nonneg, Int.toNat_natCast, ea, e5, enC, En.cells, List.cons_append, List.nil_append, ↓J0 _ _ qs7]
  refine cpn pc ?_
  have hbl : (K8 (q93 y)).length = (q93 y).length := Y2 _
  generalize hE : q93 y = E at *
  simp -implicitDefEqProofs -dsimp only [go_sem, seval]
  unfold bts
  simp -implicitDefEqProofs -dsimp only [go_sem, seval, hbl, qbo, ↓J0 _ _ q6h]
  refine cpn (qdl b none E (by omega) (by omega)) ?_
  simp -implicitDefEqProofs -dsimp only [go_sem, seval, hs]
  rw [show z32 y = qd5 E by rw [z32, hE]] at h2
  refine ih (k + 1) hk' hlt _ ?_ h2
  simp only [List.length_append, qd5]; omega
def enS (l : Lt Cf) (s : Int) : Bs :=
 if s = 115 then enc l.sh.toNat else
 if s = 101 then enc l.ep.toNat else
 if s = 110 then enc l.n.toNat else
 if s = 109 then enc l.m.toNat else
 if s = 111 then enc l.nd.toNat else
 if s = 102 then enc (if l.fl = true then 1 else 0) else
 if s = 98 then enc l.br.toNat ++ enc l.bn.toNat else
 if s = 118 then enc l.vs.length ++ l.vs.flatMap qzu else
 if s = 99 then enc l.cs.length ++ l.cs.flatMap z75 else
 if s = 108 then enc l.es.length ++ l.es.flatMap z32 else
 if s = 120 then qgv l.t else
 if s = 105 then enc l.cl.toNat ++ enc l.sq.toNat else
 if s = 116 then qd5 l.v else
 if s = 113 then enc l.q.toNat else
 if s = 114 then enc l.co.toNat else []
structure Lt.Rng (l : Lt Cf) : Prop where
 ep : 0 <= l.ep /\ l.ep < 18446744073709551616
 br : 0 <= l.br /\ l.br < 18446744073709551616
 q : 0 <= l.q /\ l.q < 18446744073709551616
 sq : l.sq < 18446744073709551616
 tsq : l.t.sq < 18446744073709551616
 tr : ∀ r ∈ l.t.rs, 0 <= r.n /\ r.n < 18446744073709551616
 vs : ∀ v ∈ l.vs, 0 <= v.rd /\ v.rd < 18446744073709551616
 cs : ∀ c ∈ l.cs, (0 <= c.ep /\ c.ep < 18446744073709551616) /\ Len c.ch.length
 es : ∀ e ∈ l.es, e.t.Fine /\ e.Rng
theorem qoz {l : Lt Cf} (h : qw4 l.vs = true) (hr : l.Rng) : l.vs.length <= 400 /\ ∀ v ∈ l.vs, VtG v := by
 simp only [qw4, Bool.and_eq_true, decide_eq_true_eq, Bool.not_eq_true'] at h
 refine ⟨by omega, fun v hv => ?_⟩
 have h1 : z1w v = false := by
  have := List.any_eq_false.1 h.2 v hv
  simpa using this
 simp only [z1w, Bool.not_eq_false', zb8, qm7, Bool.and_eq_true, decide_eq_true_eq] at h1
 exact ⟨h1.1, hr.vs v hv, h1.2.1, by omega⟩
theorem qp0 {l : Lt Cf} (h : qw5 l.cs = true) (hr : l.Rng) : l.cs.length <= 4 /\ ∀ v ∈ l.cs, CfG v := by
 simp only [qw5, Bool.and_eq_true, decide_eq_true_eq, Bool.not_eq_true'] at h
 refine ⟨by omega, fun v hv => ?_⟩
 have h1 : z1x v = false := by
  have := List.any_eq_false.1 h.2 v hv
  simpa using this
 simp only [z1x, Bool.not_eq_false'] at h1
 exact ⟨h1, (hr.cs v hv).1, (hr.cs v hv).2⟩
theorem qp1 {l : Lt Cf} (h : qw6 l.es = true) (hr : l.Rng) : l.es.length <= 8 /\ ∀ v ∈ l.es, EnG v := by
 simp only [qw6, Bool.and_eq_true, decide_eq_true_eq, Bool.not_eq_true'] at h
 refine ⟨by omega, fun v hv => ?_⟩
 have h1 : z1y v = false := by
  have := List.any_eq_false.1 h.2 v hv
  simpa using this
 simp only [z1y, Bool.not_eq_false'] at h1
 exact ⟨h1, (hr.es v hv).1, (hr.es v hv).2⟩
theorem qhp (l : Lt Cf) (b : Bs) (c : Option Nat) (s : Int) (hb : b.length <= 90000) (hr : l.Rng) (h : (s = 118 /\ qw4 l.vs = true) \/ (s = 99 /\ qw5 l.cs = true) \/ (s = 108 /\ qw6 l.es = true)) :
  PCalls prog q1r [.agg l.cc, bts b c, .i .u8 s] (bts (b ++ enS l s) none) := by
 refine K6 U1 qb5 (by simp) fun T => ?_
 unfold q70
 rcases h with ⟨rfl, h⟩ | ⟨rfl, h⟩ | ⟨rfl, h⟩
 ·obtain ⟨h1, h2⟩ := qoz h hr
  have le := K5 (m := l.vs.length) (by omega)
  simp -implicitDefEqProofs -dsimp only [go_sem, seval, decide_true, decide_false, q0q (n := l.vs.length) (by omega), ↓J0 _ _ O4]
  refine cpn (I4 b c l.vs.length (by omega) (by omega)) ?_
  simp -implicitDefEqProofs -dsimp only [go_sem, seval]
  refine zal (T := T) (by repeat' (first | exact O6 _ _ | assumption | apply O5 | apply N4 | apply V8)) h1 h2 l.vs 0 rfl (Nat.zero_le _) (b ++ enc l.vs.length) (by simp; omega) ?_
  simp -implicitDefEqProofs -dsimp only [go_sem, seval]
  exact J9 (by rw [List.append_assoc]; rfl)
 ·obtain ⟨h1, h2⟩ := qp0 h hr
  have le := K5 (m := l.cs.length) (by omega)
  simp -implicitDefEqProofs -dsimp only [go_sem, seval, decide_true, decide_false, q0q (n := l.cs.length) (by omega), ↓J0 _ _ O4]
  refine cpn (I4 b c l.cs.length (by omega) (by omega)) ?_
  simp -implicitDefEqProofs -dsimp only [go_sem, seval]
  refine zam (T := T) (by repeat' (first | exact O6 _ _ | assumption | apply O5 | apply N4 | apply V8)) (by omega) h2 l.cs 0 rfl (Nat.zero_le _) (b ++ enc l.cs.length) (by simp; omega) ?_
  simp -implicitDefEqProofs -dsimp only [go_sem, seval]
  exact J9 (by rw [List.append_assoc]; rfl)
 ·obtain ⟨h1, h2⟩ := qp1 h hr
  have le := K5 (m := l.es.length) (by omega)
  simp -implicitDefEqProofs -dsimp only [go_sem, seval, decide_true, decide_false, q0q (n := l.es.length) (by omega), ↓J0 _ _ O4]
  refine cpn (I4 b c l.es.length (by omega) (by omega)) ?_
  simp -implicitDefEqProofs -dsimp only [go_sem, seval]
  refine zan (T := T) (by repeat' (first | exact O6 _ _ | assumption | apply O5 | apply N4 | apply V8)) (by omega) h2 l.es 0 rfl (Nat.zero_le _) (b ++ enc l.es.length) (by simp; omega) ?_
  simp -implicitDefEqProofs -dsimp only [go_sem, seval]
  exact J9 (by rw [List.append_assoc]; rfl)
end Go.Aw
