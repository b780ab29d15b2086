import Derived.Test.YtmicojcojlgefaaGreatZ29M17B
import Derived.Test.YtmicojcojlgefaaGreatAwD
namespace Go.Aw
open Go
set_option linter.all false
set_option maxHeartbeats 4000000
abbrev z44 : Ty := .st [.st [.int .i64, .int .u64], .bool, .sl (.st [.str, .int .u64]), .sl (.st [.str, .str, .bool])]
abbrev z1u : Ty := .st [.int .u64, .int .i64, z44, .st [.int .i64, .int .u64], .int .i64]
abbrev z4z : Ty := .st [.int .u64, .int .i64, .sl (.st [.int .i64, .bool]), .int .i64]
abbrev z50 : Ty := .st [.int .i64, .st [.int .u64, .int .i64], .str]
abbrev qxg : Ty := .st [.st [.int .i64, .int .i64], .st [.int .i64, .int .i64], .int .i64, .int .i64, .int .u64, .int .i64, .int .i64, .int .i64, .bool, .st [.int .u64, .int .i64], .sl z50, .sl z4z, .sl z1u, z44, .st [.int .i64, .int .u64], .str, .int .u64, .int .i64]
theorem qak {n : Nat} (h : n <= maxLen) : Len n := by unfold Len; unfold maxLen at h; omega
theorem z51 {p : List AV} (h : q9x (.st [.str, .int .u64]) p) : ∃ r : Rd, p = rdC r /\ (Len r.k.length /\ 0 <= r.n /\ r.n < 18446744073709551616) := by
 simp only [q9x, q2j] at h
 obtain ⟨a, b, rfl, ⟨k, rfl, hk⟩, c, d, rfl, ⟨n, rfl, hn⟩, rfl⟩ := h
 exact ⟨⟨k, n⟩, rfl, qak hk, qk5 hn⟩
theorem z52 {p : List AV} (h : q9x (.st [.str, .str, .bool]) p) : ∃ r : Wt, p = wtC r /\ (Len r.k.length /\ Len r.v.length) := by
 simp only [q9x, q2j] at h
 obtain ⟨a, b, rfl, ⟨k, rfl, hk⟩, c, d, rfl, ⟨v, rfl, hv⟩, e, f, rfl, ⟨g, rfl⟩, rfl⟩ := h
 exact ⟨⟨k, v, g⟩, rfl, qak hk, qak hv⟩
def U64 (n : Int) : Prop := 0 <= n /\ n < 18446744073709551616
structure Tx.Arg (t : Tx) : Prop where
 w : t.Wide
 sq : U64 t.sq
 cl : I64 t.cl
 r : ∀ r ∈ t.rs, U64 r.n
theorem z1v {p : List AV} (h : q9x z44 p) : ∃ (t : Tx) (k1 k2 : Option Nat), p = t.cells k1 k2 /\ t.Arg := by
 simp only [q9x, q2j] at h
 obtain ⟨a1, b1, rfl, ⟨a2, b2, rfl, ⟨cl, rfl, hcl⟩, a3, b3, rfl, ⟨sq, rfl, hsq⟩, rfl⟩, a4, b4, rfl, ⟨pl, rfl⟩, a5, b5, rfl, h5, a6, b6, rfl, h6, rfl⟩ := h
 have h5' : q9x (.sl (.st [.str, .int .u64])) a5 := by simpa only [q9x, q2j] using h5
 have h6' : q9x (.sl (.st [.str, .str, .bool])) a6 := by simpa only [q9x, q2j] using h6
 obtain ⟨rs, k1, rfl, hr, hro⟩ := qc6 (fun p hp => z51 hp) h5'
 obtain ⟨ws, k2, rfl, hw, hwo⟩ := qc6 (fun p hp => z52 hp) h6'
 exact ⟨⟨cl, sq, pl, rs, ws⟩, k1, k2, rfl, ⟨hr, hw, fun r h => (hro r h).1, fun r h => (hwo r h).1, fun r h => (hwo r h).2⟩, qk5 hsq, q8r hcl, fun r h => (hro r h).2⟩
structure En.Arg (e : En) : Prop where
 t : e.t.Arg
 ep : U64 e.ep
 sq : U64 e.sq
 kd : I64 e.kd
 cl : I64 e.cl
 co : I64 e.co
structure EnK where
 e : En
 k1 : Option Nat
 k2 : Option Nat
theorem z1w {p : List AV} (h : q9x z1u p) : ∃ x : EnK, p = x.e.cells x.k1 x.k2 /\ x.e.Arg := by
 simp only [q9x, q2j] at h
 obtain ⟨a1, b1, rfl, ⟨ep, rfl, hep⟩, a2, b2, rfl, ⟨kd, rfl, hkd⟩, a3, b3, rfl, h3, a4, b4, rfl, ⟨a2, b2, rfl, ⟨cl, rfl, hcl⟩, a3', b3', rfl, ⟨sq, rfl, hsq⟩, rfl⟩, a5, b5, rfl, ⟨co, rfl, hco⟩, rfl⟩ := h
 have h3' : q9x z44 a3 := by simpa only [q9x, q2j] using h3
 obtain ⟨t, k1, k2, rfl, ht⟩ := z1v h3'
 exact ⟨⟨⟨ep, kd, t, cl, sq, co⟩, k1, k2⟩, rfl, ht, qk5 hep, qk5 hsq, q8r hkd, q8r hcl, q8r hco⟩
theorem z6w {p : List AV} (h : q9x (.st [.int .i64, .bool]) p) : ∃ m : Int × Bool, p = [.i .i64 m.1, .b m.2] /\ I64 m.1 := by
 simp only [q9x, q2j] at h
 obtain ⟨a, b, rfl, ⟨k, rfl, hk⟩, c, d, rfl, ⟨n, rfl⟩, rfl⟩ := h
 exact ⟨⟨k, n⟩, rfl, q8r hk⟩
structure RfQ where
 c : Rf
 k : Option Nat
structure Rf.Arg (c : Rf) : Prop where
 l : Len c.l.length
 ep : U64 c.ep
 sh : I64 c.sh
 ln : I64 c.ln
 m : ∀ m ∈ c.l, I64 m.1
theorem z45 {p : List AV} (h : q9x z4z p) : ∃ x : RfQ, p = x.c.cells x.k /\ x.c.Arg := by
 simp only [q9x, q2j] at h
 obtain ⟨a1, b1, rfl, ⟨ep, rfl, hep⟩, a2, b2, rfl, ⟨sh, rfl, hsh⟩, a3, b3, rfl, h3, a4, b4, rfl, ⟨ln, rfl, hln⟩, rfl⟩ := h
 have h3' : q9x (.sl (.st [.int .i64, .bool])) a3 := by simpa only [q9x, q2j] using h3
 obtain ⟨l, k, rfl, hl, hm⟩ := qc6 (fun p hp => z6w hp) h3'
 exact ⟨⟨⟨ep, sh, l, ln⟩, k⟩, rfl, hl, qk5 hep, q8r hsh, q8r hln, hm⟩
structure Vt.Arg (v : Vt) : Prop where
 sl : I64 v.sl
 rd : U64 v.rd
 nd : I64 v.nd
 v : Len v.v.length
theorem z46 {p : List AV} (h : q9x z50 p) : ∃ v : Vt, p = vtC v /\ v.Arg := by
 simp only [q9x, q2j] at h
 obtain ⟨a1, b1, rfl, ⟨sl, rfl, hsl⟩, a2, b2, rfl, ⟨a3, b3, rfl, ⟨rd, rfl, hrd⟩, a4, b4, rfl, ⟨nd, rfl, hnd⟩, rfl⟩, a5, b5, rfl, ⟨v, rfl, hv⟩, rfl⟩ := h
 exact ⟨⟨sl, rd, nd, v⟩, rfl, q8r hsl, qk5 hrd, q8r hnd, qak hv⟩
structure Lt.Arg (l : Lt Rf) : Prop where
 fk : I64 l.fk
 fn : I64 l.fn
 tk : I64 l.tk
 tn : I64 l.tn
 k : I64 l.k
 sh : I64 l.sh
 ep : U64 l.ep
 n : I64 l.n
 m : I64 l.m
 nd : I64 l.nd
 br : U64 l.br
 bn : I64 l.bn
 vs : ∀ v ∈ l.vs, v.Arg
 cs : ∀ c ∈ l.cs, c.Arg
 es : ∀ e ∈ l.es, e.Arg
 t : l.t.Arg
 cl : I64 l.cl
 sq : U64 l.sq
 q : U64 l.q
 co : I64 l.co
 wide : l.Wide
theorem qym {p : List AV} (h : q9x qxg p) : ∃ l : Lt Rf, Wks p l.rc /\ l.Arg := by
 simp only [q9x] at h
 unfold q2j at h; obtain ⟨p1, r1, rfl, h1, h⟩ := h
 unfold q2j at h; obtain ⟨p2, r2, rfl, h2, h⟩ := h
 unfold q2j at h; obtain ⟨p3, r3, rfl, h3, h⟩ := h
 unfold q2j at h; obtain ⟨p4, r4, rfl, h4, h⟩ := h
 unfold q2j at h; obtain ⟨p5, r5, rfl, h5, h⟩ := h
 unfold q2j at h; obtain ⟨p6, r6, rfl, h6, h⟩ := h
 unfold q2j at h; obtain ⟨p7, r7, rfl, h7, h⟩ := h
 unfold q2j at h; obtain ⟨p8, r8, rfl, h8, h⟩ := h
 unfold q2j at h; obtain ⟨p9, r9, rfl, h9, h⟩ := h
 unfold q2j at h; obtain ⟨p10, r10, rfl, h10, h⟩ := h
 unfold q2j at h; obtain ⟨p11, r11, rfl, h11, h⟩ := h
 unfold q2j at h; obtain ⟨p12, r12, rfl, h12, h⟩ := h
 unfold q2j at h; obtain ⟨p13, r13, rfl, h13, h⟩ := h
 unfold q2j at h; obtain ⟨p14, r14, rfl, h14, h⟩ := h
 unfold q2j at h; obtain ⟨p15, r15, rfl, h15, h⟩ := h
 unfold q2j at h; obtain ⟨p16, r16, rfl, h16, h⟩ := h
 unfold q2j at h; obtain ⟨p17, r17, rfl, h17, h⟩ := h
 unfold q2j at h; obtain ⟨p18, r18, rfl, h18, h⟩ := h
 unfold q2j at h; subst h
 obtain ⟨vs, kv, rfl, hv, hvo⟩ := qc6 (fun p hp => z46 hp) h11
 obtain ⟨cs, kc, rfl, hc, hco⟩ := qc6 (fun p hp => z45 hp) h12
 obtain ⟨es, ke, rfl, he, heo⟩ := qc6 (fun p hp => z1w hp) h13
 obtain ⟨t, k1, k2, rfl, ht⟩ := z1v h14
 simp only [q9x, q2j] at h1 h2 h3 h4 h5 h6 h7 h8 h9 h10 h15 h16 h17 h18
 obtain ⟨_, _, rfl, ⟨fk, rfl, hfk⟩, _, _, rfl, ⟨fn, rfl, hfn⟩, rfl⟩ := h1
 obtain ⟨_, _, rfl, ⟨tk, rfl, htk⟩, _, _, rfl, ⟨tn, rfl, htn⟩, rfl⟩ := h2
 obtain ⟨k, rfl, hk⟩ := h3
 obtain ⟨sh, rfl, hsh⟩ := h4
 obtain ⟨ep, rfl, hep⟩ := h5
 obtain ⟨n, rfl, hn⟩ := h6
 obtain ⟨m, rfl, hm⟩ := h7
 obtain ⟨nd, rfl, hnd⟩ := h8
 obtain ⟨fl, rfl⟩ := h9
 obtain ⟨_, _, rfl, ⟨br, rfl, hbr⟩, _, _, rfl, ⟨bn, rfl, hbn⟩, rfl⟩ := h10
 obtain ⟨_, _, rfl, ⟨cl, rfl, hcl⟩, _, _, rfl, ⟨sq, rfl, hsq⟩, rfl⟩ := h15
 obtain ⟨v, rfl, hvl⟩ := h16
 obtain ⟨q, rfl, hq⟩ := h17
 obtain ⟨co, rfl, hco'⟩ := h18
 refine ⟨⟨fk, fn, tk, tn, k, sh, ep, n, m, nd, fl, br, bn, vs, cs.map (·.c), es.map (·.e), t, cl, sq, v, q, co⟩, ?_, q8r hfk, q8r hfn, q8r htk, q8r htn, q8r hk, q8r hsh, qk5 hep, q8r hn, q8r hm, q8r hnd, qk5 hbr, q8r hbn, hvo, ?_, ?_, ht, q8r hcl, qk5 hsq, qk5 hq, q8r hco', ?_⟩
 ·have e1 : Wk (.fz cs.length (cs.flatMap fun x => x.c.cells x.k) kc) (.fz (cs.map (·.c)).length ((cs.map (·.c)).flatMap rfL) none) := by
   rw [List.length_map, List.flatMap_map]
   exact Wk.fzs (Wks.flatMap fun x _ => ⟨.refl _, .refl _, .fz, .refl _, trivial⟩)
  have e2 : Wk (.fz es.length (es.flatMap fun x => x.e.cells x.k1 x.k2) ke) (.fz (es.map (·.e)).length ((es.map (·.e)).flatMap enC) none) := by
   rw [List.length_map, List.flatMap_map]
   exact Wk.fzs (Wks.flatMap fun x _ => ⟨.refl _, .refl _, .refl _, .refl _, .refl _, .fz, .fz, .refl _, .refl _, .refl _, trivial⟩)
  exact ⟨.refl _, .refl _, .refl _, .refl _, .refl _, .refl _, .refl _, .refl _, .refl _, .refl _, .refl _, .refl _, .refl _, .fz, e1, e2, .refl _, .refl _, .refl _, .fz, .fz, .refl _, .refl _, .refl _, .refl _, .refl _, trivial⟩
 ·intro c hc'
  obtain ⟨x, hx, rfl⟩ := List.mem_map.1 hc'
  exact hco x hx
 ·intro c hc'
  obtain ⟨x, hx, rfl⟩ := List.mem_map.1 hc'
  exact heo x hx
 ·exact ⟨hv, by rw [List.length_map]; exact hc, by rw [List.length_map]; exact he, fun v h => (hvo v h).v, fun c hc' => by
   obtain ⟨x, hx, rfl⟩ := List.mem_map.1 hc'
   exact (hco x hx).l, fun c hc' => by
   obtain ⟨x, hx, rfl⟩ := List.mem_map.1 hc'
   exact (heo x hx).t.w, ht.w, qak hvl⟩
end Go.Aw
