import Derived.Test.YteiamcnjlpbihaaGreatDoorN17M17B
import Derived.Test.YteiamcnjlpbihaaGreatDoorAwD
import Derived.Test.YteiamcnjlpbihaaGreatDoorN17M17S
import Derived.Test.YteiamcnjlpbihaaGreatDoorN17F04N
namespace Go.Aw
open Go
set_option linter.all false
set_option maxHeartbeats 4000000
abbrev z9w : Ty := .st [.st [.int .i64, .int .u64], .bool, .sl (.st [.str, .int .u64]), .sl (.st [.str, .str, .bool])]
abbrev z79 : Ty := .st [.int .u64, .int .i64, z9w, .st [.int .i64, .int .u64], .int .i64]
abbrev zb0 : Ty := .st [.int .u64, .int .i64, .sl (.st [.int .i64, .bool]), .int .i64]
abbrev zb1 : Ty := .st [.int .i64, .st [.int .u64, .int .i64], .str]
abbrev qo6 : Ty := .st [.st [.int .i64, .int .i64], .st [.int .i64, .int .i64], .int .i64, .int .i64, .int .u64, .int .i64, .int .i64, .int .i64, .bool, .st [.int .u64, .int .i64], .sl zb1, .sl zb0, .sl z79, z9w, .st [.int .i64, .int .u64], .str, .int .u64, .int .i64]
theorem qfk {n : Nat} (h : n <= maxLen) : Len n := by unfold Len; unfold maxLen at h; omega
theorem zht {p : List AV} (h : qav (.st [.str, .int .u64]) p) : ∃ r : Rd, p = rdC r /\ (Len r.k.length /\ 0 <= r.n /\ r.n < 18446744073709551616) := by
 simp only [qav, q6f] at h
 obtain ⟨a, b, rfl, ⟨k, rfl, hk⟩, c, d, rfl, ⟨n, rfl, hn⟩, rfl⟩ := h
 exact ⟨⟨k, n⟩, rfl, qfk hk, qkg hn⟩
theorem zhu {p : List AV} (h : qav (.st [.str, .str, .bool]) p) : ∃ r : Wt, p = wtC r /\ (Len r.k.length /\ Len r.v.length) := by
 simp only [qav, q6f] at h
 obtain ⟨a, b, rfl, ⟨k, rfl, hk⟩, c, d, rfl, ⟨v, rfl, hv⟩, e, f, rfl, ⟨g, rfl⟩, rfl⟩ := h
 exact ⟨⟨k, v, g⟩, rfl, qfk hk, qfk hv⟩
def U64 (n : Int) : Prop := 0 <= n /\ n < 18446744073709551616
structure Tx.Arg (t : Tx) : Prop where
 w : t.Wide
 sq : U64 t.sq
 cl : I64 t.cl
 r : ∀ r ∈ t.rs, U64 r.n
theorem z7a {p : List AV} (h : qav z9w p) : ∃ (t : Tx) (k1 k2 : Option Nat), p = t.cells k1 k2 /\ t.Arg := by
 simp only [qav, q6f] at h
 obtain ⟨a1, b1, rfl, ⟨a2, b2, rfl, ⟨cl, rfl, hcl⟩, a3, b3, rfl, ⟨sq, rfl, hsq⟩, rfl⟩, a4, b4, rfl, ⟨pl, rfl⟩, a5, b5, rfl, h5, a6, b6, rfl, h6, rfl⟩ := h
 have h5' : qav (.sl (.st [.str, .int .u64])) a5 := by simpa only [qav, q6f] using h5
 have h6' : qav (.sl (.st [.str, .str, .bool])) a6 := by simpa only [qav, q6f] using h6
 obtain ⟨rs, k1, rfl, hr, hro⟩ := qfr (fun p hp => zht hp) h5'
 obtain ⟨ws, k2, rfl, hw, hwo⟩ := qfr (fun p hp => zhu hp) h6'
 exact ⟨⟨cl, sq, pl, rs, ws⟩, k1, k2, rfl, ⟨hr, hw, fun r h => (hro r h).1, fun r h => (hwo r h).1, fun r h => (hwo r h).2⟩, qkg hsq, q8k hcl, fun r h => (hro r h).2⟩
structure En.Arg (e : En) : Prop where
 t : e.t.Arg
 ep : U64 e.ep
 sq : U64 e.sq
 kd : I64 e.kd
 cl : I64 e.cl
 co : I64 e.co
structure EnK where
 e : En
 k1 : Option Nat
 k2 : Option Nat
theorem z7b {p : List AV} (h : qav z79 p) : ∃ x : EnK, p = x.e.cells x.k1 x.k2 /\ x.e.Arg := by
 simp only [qav, q6f] at h
 obtain ⟨a1, b1, rfl, ⟨ep, rfl, hep⟩, a2, b2, rfl, ⟨kd, rfl, hkd⟩, a3, b3, rfl, h3, a4, b4, rfl, ⟨a2, b2, rfl, ⟨cl, rfl, hcl⟩, a3', b3', rfl, ⟨sq, rfl, hsq⟩, rfl⟩, a5, b5, rfl, ⟨co, rfl, hco⟩, rfl⟩ := h
 have h3' : qav z9w a3 := by simpa only [qav, q6f] using h3
 obtain ⟨t, k1, k2, rfl, ht⟩ := z7a h3'
 exact ⟨⟨⟨ep, kd, t, cl, sq, co⟩, k1, k2⟩, rfl, ht, qkg hep, qkg hsq, q8k hkd, q8k hcl, q8k hco⟩
theorem zdd {p : List AV} (h : qav (.st [.int .i64, .bool]) p) : ∃ m : Int × Bool, p = [.i .i64 m.1, .b m.2] /\ I64 m.1 := by
 simp only [qav, q6f] at h
 obtain ⟨a, b, rfl, ⟨k, rfl, hk⟩, c, d, rfl, ⟨n, rfl⟩, rfl⟩ := h
 exact ⟨⟨k, n⟩, rfl, q8k hk⟩
structure RfQ where
 c : Rf
 k : Option Nat
structure Rf.Arg (c : Rf) : Prop where
 l : Len c.l.length
 ep : U64 c.ep
 sh : I64 c.sh
 ln : I64 c.ln
 m : ∀ m ∈ c.l, I64 m.1
theorem z9x {p : List AV} (h : qav zb0 p) : ∃ x : RfQ, p = x.c.cells x.k /\ x.c.Arg := by
 simp only [qav, q6f] at h
 obtain ⟨a1, b1, rfl, ⟨ep, rfl, hep⟩, a2, b2, rfl, ⟨sh, rfl, hsh⟩, a3, b3, rfl, h3, a4, b4, rfl, ⟨ln, rfl, hln⟩, rfl⟩ := h
 have h3' : qav (.sl (.st [.int .i64, .bool])) a3 := by simpa only [qav, q6f] using h3
 obtain ⟨l, k, rfl, hl, hm⟩ := qfr (fun p hp => zdd hp) h3'
 exact ⟨⟨⟨ep, sh, l, ln⟩, k⟩, rfl, hl, qkg hep, q8k hsh, q8k hln, hm⟩
structure Vt.Arg (v : Vt) : Prop where
 sl : I64 v.sl
 rd : U64 v.rd
 nd : I64 v.nd
 v : Len v.v.length
theorem z9y {p : List AV} (h : qav zb1 p) : ∃ v : Vt, p = vtC v /\ v.Arg := by
 simp only [qav, q6f] at h
 obtain ⟨a1, b1, rfl, ⟨sl, rfl, hsl⟩, a2, b2, rfl, ⟨a3, b3, rfl, ⟨rd, rfl, hrd⟩, a4, b4, rfl, ⟨nd, rfl, hnd⟩, rfl⟩, a5, b5, rfl, ⟨v, rfl, hv⟩, rfl⟩ := h
 exact ⟨⟨sl, rd, nd, v⟩, rfl, q8k hsl, qkg hrd, q8k hnd, qfk hv⟩
structure Lt.Arg (l : Lt Rf) : Prop where
 fk : I64 l.fk
 fn : I64 l.fn
 tk : I64 l.tk
 tn : I64 l.tn
 k : I64 l.k
 sh : I64 l.sh
 ep : U64 l.ep
 n : I64 l.n
 m : I64 l.m
 nd : I64 l.nd
 br : U64 l.br
 bn : I64 l.bn
 vs : ∀ v ∈ l.vs, v.Arg
 cs : ∀ c ∈ l.cs, c.Arg
 es : ∀ e ∈ l.es, e.Arg
 t : l.t.Arg
 cl : I64 l.cl
 sq : U64 l.sq
 q : U64 l.q
 co : I64 l.co
 wide : l.Wide
theorem z3v {p : List AV} (h : qav qo6 p) : ∃ l : Lt Rf, Wks p l.rc /\ l.Arg := by
 simp only [qav] at h
 unfold q6f at h; obtain ⟨p1, r1, rfl, h1, h⟩ := h
 unfold q6f at h; obtain ⟨p2, r2, rfl, h2, h⟩ := h
 unfold q6f at h; obtain ⟨p3, r3, rfl, h3, h⟩ := h
 unfold q6f at h; obtain ⟨p4, r4, rfl, h4, h⟩ := h
 unfold q6f at h; obtain ⟨p5, r5, rfl, h5, h⟩ := h
 unfold q6f at h; obtain ⟨p6, r6, rfl, h6, h⟩ := h
 unfold q6f at h; obtain ⟨p7, r7, rfl, h7, h⟩ := h
 unfold q6f at h; obtain ⟨p8, r8, rfl, h8, h⟩ := h
 unfold q6f at h; obtain ⟨p9, r9, rfl, h9, h⟩ := h
 unfold q6f at h; obtain ⟨p10, r10, rfl, h10, h⟩ := h
 unfold q6f at h; obtain ⟨p11, r11, rfl, h11, h⟩ := h
 unfold q6f at h; obtain ⟨p12, r12, rfl, h12, h⟩ := h
 unfold q6f at h; obtain ⟨p13, r13, rfl, h13, h⟩ := h
 unfold q6f at h; obtain ⟨p14, r14, rfl, h14, h⟩ := h
 unfold q6f at h; obtain ⟨p15, r15, rfl, h15, h⟩ := h
 unfold q6f at h; obtain ⟨p16, r16, rfl, h16, h⟩ := h
 unfold q6f at h; obtain ⟨p17, r17, rfl, h17, h⟩ := h
 unfold q6f at h; obtain ⟨p18, r18, rfl, h18, h⟩ := h
 unfold q6f at h; subst h
 obtain ⟨vs, kv, rfl, hv, hvo⟩ := qfr (fun p hp => z9y hp) h11
 obtain ⟨cs, kc, rfl, hc, hco⟩ := qfr (fun p hp => z9x hp) h12
 obtain ⟨es, ke, rfl, he, heo⟩ := qfr (fun p hp => z7b hp) h13
 obtain ⟨t, k1, k2, rfl, ht⟩ := z7a h14
 simp only [qav, q6f] at h1 h2 h3 h4 h5 h6 h7 h8 h9 h10 h15 h16 h17 h18
 obtain ⟨_, _, rfl, ⟨fk, rfl, hfk⟩, _, _, rfl, ⟨fn, rfl, hfn⟩, rfl⟩ := h1
 obtain ⟨_, _, rfl, ⟨tk, rfl, htk⟩, _, _, rfl, ⟨tn, rfl, htn⟩, rfl⟩ := h2
 obtain ⟨k, rfl, hk⟩ := h3
 obtain ⟨sh, rfl, hsh⟩ := h4
 obtain ⟨ep, rfl, hep⟩ := h5
 obtain ⟨n, rfl, hn⟩ := h6
 obtain ⟨m, rfl, hm⟩ := h7
 obtain ⟨nd, rfl, hnd⟩ := h8
 obtain ⟨fl, rfl⟩ := h9
 obtain ⟨_, _, rfl, ⟨br, rfl, hbr⟩, _, _, rfl, ⟨bn, rfl, hbn⟩, rfl⟩ := h10
 obtain ⟨_, _, rfl, ⟨cl, rfl, hcl⟩, _, _, rfl, ⟨sq, rfl, hsq⟩, rfl⟩ := h15
 obtain ⟨v, rfl, hvl⟩ := h16
 obtain ⟨q, rfl, hq⟩ := h17
 obtain ⟨co, rfl, hco'⟩ := h18
 refine ⟨⟨fk, fn, tk, tn, k, sh, ep, n, m, nd, fl, br, bn, vs, cs.map (·.c), es.map (·.e), t, cl, sq, v, q, co⟩, ?_, q8k hfk, q8k hfn, q8k htk, q8k htn, q8k hk, q8k hsh, qkg hep, q8k hn, q8k hm, q8k hnd, qkg hbr, q8k hbn, hvo, ?_, ?_, ht, q8k hcl, qkg hsq, qkg hq, q8k hco', ?_⟩
 ·have e1 : Wk (.fz cs.length (cs.flatMap fun x => x.c.cells x.k) kc) (.fz (cs.map (·.c)).length ((cs.map (·.c)).flatMap rfL) none) := by
   rw [List.length_map, List.flatMap_map]
   exact Wk.fzs (Wks.flatMap fun x _ => ⟨.refl _, .refl _, .fz, .refl _, trivial⟩)
  have e2 : Wk (.fz es.length (es.flatMap fun x => x.e.cells x.k1 x.k2) ke) (.fz (es.map (·.e)).length ((es.map (·.e)).flatMap enC) none) := by
   rw [List.length_map, List.flatMap_map]
   exact Wk.fzs (Wks.flatMap fun x _ => ⟨.refl _, .refl _, .refl _, .refl _, .refl _, .fz, .fz, .refl _, .refl _, .refl _, trivial⟩)
  exact ⟨.refl _, .refl _, .refl _, .refl _, .refl _, .refl _, .refl _, .refl _, .refl _, .refl _, .refl _, .refl _, .refl _, .fz, e1, e2, .refl _, .refl _, .refl _, .fz, .fz, .refl _, .refl _, .refl _, .refl _, .refl _, trivial⟩
 ·intro c hc'
  obtain ⟨x, hx, rfl⟩ := List.mem_map.1 hc'
  exact hco x hx
 ·intro c hc'
  obtain ⟨x, hx, rfl⟩ := List.mem_map.1 hc'
  exact heo x hx
 ·exact ⟨hv, by rw [List.length_map]; exact hc, by rw [List.length_map]; exact he, fun v h => (hvo v h).v, fun c hc' => by
   obtain ⟨x, hx, rfl⟩ := List.mem_map.1 hc'
   exact (hco x hx).l, fun c hc' => by
   obtain ⟨x, hx, rfl⟩ := List.mem_map.1 hc'
   exact (heo x hx).t.w, ht.w, qfk hvl⟩
theorem z7c {a : AV} (h : z2y qo6 a) : ∃ l : Lt Rf, Wk a (.agg l.rc) /\ l.Arg := by
 obtain ⟨cells, rfl, h⟩ := h
 have h' : qav qo6 cells := by simp only [qav]; exact h
 obtain ⟨l, h1, h2⟩ := z3v h'
 exact ⟨l, .agg h1, h2⟩
end Go.Aw
namespace Go.Aw
open Go
open Go.Proofs.Tryz (prog)
set_option linter.all false
set_option maxHeartbeats 8000000
set_option maxRecDepth 8000
def qtq : Lt Cf := ⟨3, 0, 1, 1, 3, 0, 0, 0, 0, 0, false, 0, 0, [], [], [], zT, 0, 0, [], 0, 0⟩
theorem z16 : qtq.Small := ⟨(show (0 : Nat) < 9223372036854775808 by decide), (show (0 : Nat) < 9223372036854775808 by decide), (show (0 : Nat) < 9223372036854775808 by decide), (show (0 : Nat) < 9223372036854775808 by decide), (show (0 : Nat) < 9223372036854775808 by decide), fun _ h => (by cases h), fun _ h => (by cases h)⟩
theorem z7d : zT.Fine := ⟨by decide, by decide, fun _ h => (by cases h), fun _ h => (by cases h), fun _ h => (by cases h)⟩
theorem z7e : qtq.Rng := ⟨by decide, by decide, by decide, by decide, by decide, fun _ h => (by cases h), fun _ h => (by cases h), fun _ h => (by cases h), fun _ h => (by cases h)⟩
theorem z17 : lrF qtq = true := by decide +kernel
theorem z9z : qhe qtq = [3, 0, 1, 1, 3] := by
 have e : q6c qtq.k = [] := rfl
 simp only [qhe, e, List.flatMap_nil, List.append_nil]
 simp only [qtq, show (3 : Int).toNat = 3 from rfl, show (1 : Int).toNat = 1 from rfl, show (0 : Int).toNat = 0 from rfl, q06 (show 3 < 128 by decide), q06 (show 0 < 128 by decide), q06 (show 1 < 128 by decide)]
 rfl
theorem qse (p : Bs) : (frm p).length = p.length + 7 := by simp [frm, qen, z6t]
theorem z3w : PCalls prog q2z [] (.b true) := by
 refine K7 U3 qjd (by simp) fun T => ?_
 have pc := z9v qtq z16 z7d z7e
 rw [zdc, if_pos z17] at pc
 have pc2 := PCalls.wk (Wks.one (Wk.agg (Wk.lt0 qtq))) pc
 have hl : (frm (qhe qtq)).length = 12 := by rw [qse, z9z]; rfl
 clear pc
 simp only [qtq] at pc2 hl
 generalize frm (qhe _) = F at pc2 hl
 unfold qbq
 simp -implicitDefEqProofs -dsimp only [go_sem, seval, ↓J0 _ _ qx9]
 refine cpn pc2 ?_
 simp -implicitDefEqProofs -dsimp only [go_sem, seval, qe3, qai, qaj, qak, qal, qam, qvt, hl, decide_true]
 exact J9 rfl
theorem Rf.ours_len (c : Rf) : c.ours.ch.length <= 10 /\ c.ours.fu.length = c.ours.ch.length := by
 simp [Rf.ours, qya, qyb]; omega
theorem qhf {n m : Nat} (h : n <= m) (hm : m < 9223372036854775808 := by decide) : Len n := by unfold Len; omega
theorem Lt.Arg.fine {l : Lt Rf} (h : l.Arg) : l.ours.Fine := by
 obtain ⟨w1, w2, w3, w4, w5, w6, w7, w8⟩ := h.wide
 refine ⟨by simp [Lt.ours]; omega, by simp [Lt.ours]; omega, by simp [Lt.ours]; omega, fun v hv => w4 v (List.mem_of_mem_take hv), fun c hc => ?_, fun e he => ?_, w7.our, w8⟩
 ·obtain ⟨r, hr, rfl⟩ := List.mem_map.1 hc
  have := r.ours_len
  exact ⟨by omega, this.2⟩
 ·obtain ⟨r, hr, rfl⟩ := List.mem_map.1 he
  exact (w6 r (List.mem_of_mem_take hr)).our
theorem Lt.Fine.small {l : Lt Cf} (h : l.Fine) : l.Small := by
 obtain ⟨w1, w2, w3, w4, w5, w6, w7, w8⟩ := h
 exact ⟨qhf w1, qhf w2, qhf w3, qhf (Nat.le_of_lt w7.r), qhf (Nat.le_of_lt w7.w), fun c hc => ⟨qhf (w5 c hc).1, by rw [(w5 c hc).2]; exact qhf (w5 c hc).1⟩, fun e he => w6 e he⟩
theorem Lt.Arg.rng {l : Lt Rf} (h : l.Arg) : l.ours.Rng := by
 refine ⟨h.ep, h.br, h.q, h.sq.2, h.t.sq.2, fun r hr => h.t.r r (List.mem_of_mem_take hr), fun v hv => (h.vs v (List.mem_of_mem_take hv)).rd, fun c hc => ?_, fun e he => ?_⟩
 ·obtain ⟨r, hr, rfl⟩ := List.mem_map.1 hc
  exact ⟨(h.cs r (List.mem_of_mem_take hr)).ep, qhf r.ours_len.1⟩
 ·obtain ⟨r, hr, rfl⟩ := List.mem_map.1 he
  have a := h.es r (List.mem_of_mem_take hr)
  exact ⟨a.t.w.our, a.ep, a.t.sq.2, fun r hr => a.t.r r (List.mem_of_mem_take hr), a.sq.2⟩
theorem Lt.Arg.ref {l : Lt Rf} (h : l.Arg) : l.ours.plain.Ref := by
 have hf := h.fine
 refine ⟨qhf hf.vs, ?_, qhf hf.es, fun c hc => ?_, fun e he => ?_, hf.t, h.t.sq.1, h.sq.1⟩
 ·show Len (l.ours.cs.map Cf.plain).length
  rw [List.length_map]; exact qhf hf.cs
 ·obtain ⟨r, hr, rfl⟩ := List.mem_map.1 hc
  have e : r.plain.l.length = r.ch.length := r.plain_len
  show Len r.plain.l.length
  rw [e]; exact qhf (hf.cl r hr).1
 ·refine ⟨hf.et e he, ?_, ?_⟩ <;>
  ·obtain ⟨r, hr, rfl⟩ := List.mem_map.1 he
   have a := h.es r (List.mem_of_mem_take hr)
   first
    | exact a.t.sq.1
    | exact a.sq.1
end Go.Aw
namespace Go.Aw
open Go
open Go.Proofs.Tryz (prog)
set_option linter.all false
set_option maxHeartbeats 4000000
theorem zhv (a b : Nat) (hb : b < 256) : a * 256 ||| b = a * 256 + b := by
 have := Nat.shiftLeft_add_eq_or_of_lt (a := a) (i := 8) (b := b) (by omega)
 rw [Nat.shiftLeft_eq] at this
 exact this.symm
theorem zn0 (a b : UInt8) : IntKind.i64.wrap ((BitVec.ofInt IntKind.i64.bits (IntKind.i64.wrap ((a.toNat : Int) * 2 ^ (min 8 64 : Nat))) ||| BitVec.ofInt IntKind.i64.bits (b.toNat : Int)).toNat : Int) = ((a.toNat * 256 + b.toNat : Nat) : Int) := by
 have ha := a.toNat_lt
 have hb := b.toNat_lt
 have e : IntKind.i64.wrap ((a.toNat : Int) * 2 ^ (min 8 64 : Nat)) = ((a.toNat * 256 : Nat) : Int) := by
  show IntKind.i64.wrap ((a.toNat : Int) * 256) = _
  rw [q2l (by unfold I64; omega)]; omega
 rw [e]
 show IntKind.i64.wrap (((BitVec.ofInt 64 ((a.toNat * 256 : Nat) : Int) ||| BitVec.ofInt 64 (b.toNat : Int)) : BitVec 64).toNat : Int) = _
 rw [BitVec.ofInt_natCast, BitVec.ofInt_natCast, BitVec.toNat_or, BitVec.toNat_ofNat, BitVec.toNat_ofNat, Nat.mod_eq_of_lt (by omega), Nat.mod_eq_of_lt (by omega), zhv _ _ (by omega)]
 rw [q2l (by unfold I64; omega)]
def bAt (b : List UInt8) (k : Nat) : UInt8 := (b[k]?).getD 0
def qys (b : List UInt8) : Nat := (bAt b 1).toNat * 256 + (bAt b 2).toNat
def nxE (b : List UInt8) : Option (List UInt8 × Int) :=
 if b = [] then some ([101, 110, 100], 6) else if bAt b 0 ≠ 197 then some ([109, 97, 114, 107], 3) else if b.length < 3 then some ([104, 101, 97, 100], 4) else
 if qys b = 0 then some ([115, 105, 122, 101], 3) else if b.length < qys b + 7 then some ([114, 101, 99, 111, 114, 100], 4) else
 if qkp ((b.take (qys b + 7)).drop 1) = false then some ([115, 117, 109], 5) else none
def qkc (b : List UInt8) : List UInt8 := (b.take (qys b + 3)).drop 3
def nxR (b : List UInt8) : AV := match nxE b with
 | some (w, e) => .tup [.fz 0 [] (some 0), .i .i64 0, q85 w (qs9 e)]
 | none => .tup [bts (qkc b) none, .i .i64 (qys b + 7 : Nat), .nilifc]
theorem zm0 : decide (((197 : UInt8).toNat : Int) = 197) = true := by decide
theorem zde (b : List UInt8) (cap : Option Nat) (hl : b.length <= 1000000000) : PCalls prog qdk [bts b cap] (nxR b) := by
 refine K7 U3 qxt (by simp) fun T => ?_
 have fN : ∀ (w : List UInt8) (e : Int), e ≠ 0 -> PCalls prog q13 [.s w, .i .i64 e] (q85 w (qs9 e)) := fun w e h => by
  have := qou w e
  rwa [if_neg h] at this
 unfold qpl
 by_cases h0 : b = []
 ·have e : nxE b = some ([101, 110, 100], 6) := by unfold nxE; rw [if_pos h0]
  have d0 : decide ((b.length : Int) = 0) = true := decide_eq_true (by rw [h0]; rfl)
  simp -implicitDefEqProofs -dsimp only [go_sem, seval, d0, ↓J0 _ _ q0g]
  refine cpn (fN _ 6 (by decide)) ?_
  simp -implicitDefEqProofs -dsimp only [go_sem, seval, q85]
  rw [nxR, e]
  exact J9 rfl
 have hp : 0 < b.length := List.length_pos_iff.2 h0
 have d0 : decide ((b.length : Int) = 0) = false := decide_eq_false (by omega)
 obtain ⟨x, hx⟩ : ∃ x, b[0]? = some x := ⟨_, List.getElem?_eq_getElem hp⟩
 have hx' := z11 hx
 rw [List.drop_zero] at hx'
 have hp' : (0 : Int) < b.length := by omega
 have ex : bAt b 0 = x := by unfold bAt; rw [hx]; rfl
 by_cases h1 : x = 197
 ·subst h1
  by_cases h3 : b.length < 3
  ·have e : nxE b = some ([104, 101, 97, 100], 4) := by unfold nxE; rw [if_neg h0, if_neg (by rw [ex]; simp), if_pos h3]
   have d3 : decide ((b.length : Int) < 3) = true := decide_eq_true (by omega)
   simp -implicitDefEqProofs -dsimp only [go_sem, seval, d0, bts, hp', Int.le_refl, Int.toNat_zero, Nat.zero_mul, List.drop_zero, hx', d3, zm0, ↓J0 _ _ q0g]
   refine cpn (fN _ 4 (by decide)) ?_
   simp -implicitDefEqProofs -dsimp only [go_sem, seval, q85]
   rw [nxR, e]
   exact J9 rfl
  have d3 : decide ((b.length : Int) < 3) = false := decide_eq_false (by omega)
  obtain ⟨y, hy⟩ : ∃ y, b[1]? = some y := ⟨_, List.getElem?_eq_getElem (by omega)⟩
  obtain ⟨z, hz⟩ : ∃ z, b[2]? = some z := ⟨_, List.getElem?_eq_getElem (by omega)⟩
  have hy' := z11 hy
  have hz' := z11 hz
  have ey : bAt b 1 = y := by unfold bAt; rw [hy]; rfl
  have ez : bAt b 2 = z := by unfold bAt; rw [hz]; rfl
  have l1 : (1 : Int) < b.length := by omega
  have l2 : (2 : Int) < b.length := by omega
  have hby := y.toNat_lt
  have hbz := z.toNat_lt
  have c64 : ∀ u : UInt8, IntKind.i64.wrap (u.toNat : Int) = u.toNat := fun u => q2l (by have := u.toNat_lt; unfold I64; omega)
  have es : qys b = y.toNat * 256 + z.toNat := by unfold qys; rw [ey, ez]
  obtain ⟨n, hn⟩ : ∃ n : Nat, n = y.toNat * 256 + z.toNat := ⟨_, rfl⟩
  have hw := zn0 y z
  rw [<- hn] at hw es
  have hn6 : n < 65536 := by omega
  have w3 : IntKind.i64.wrap (3 + (n : Int)) = ((n + 3 : Nat) : Int) := (q2l (by unfold I64; omega)).trans (by omega)
  have w7 : IntKind.i64.wrap (((n + 3 : Nat) : Int) + 4) = ((n + 7 : Nat) : Int) := (q2l (by unfold I64; omega)).trans (by omega)
  simp -implicitDefEqProofs -dsimp only [go_sem, seval, d0, bts, hp', Int.le_refl, Int.toNat_zero, Nat.zero_mul, List.drop_zero, hx', d3, zm0, l1, l2, show (1 : Int).toNat = 1 from rfl, show (2 : Int).toNat = 2 from rfl, Nat.mul_one, hy', hz', c64, hw, w3, w7]
  have nE : nxE b = (if qys b = 0 then some ([115, 105, 122, 101], 3) else if b.length < qys b + 7 then some ([114, 101, 99, 111, 114, 100], 4) else
    if qkp ((b.take (qys b + 7)).drop 1) = false then some ([115, 117, 109], 5) else none) := by
   unfold nxE; rw [if_neg h0, if_neg (by rw [ex]; simp), if_neg h3]
  rw [es] at nE
  by_cases hz0 : n = 0
  ·rw [if_pos hz0] at nE
   have d4 : decide ((n : Int) = 0) = true := decide_eq_true (by omega)
   simp -implicitDefEqProofs -dsimp only [go_sem, seval, d4, ↓J0 _ _ q0g]
   refine cpn (fN _ 3 (by decide)) ?_
   simp -implicitDefEqProofs -dsimp only [go_sem, seval, q85]
   rw [nxR, nE]
   exact J9 rfl
  rw [if_neg hz0] at nE
  have d4 : decide ((n : Int) = 0) = false := decide_eq_false (by omega)
  by_cases h7 : b.length < n + 7
  ·rw [if_pos h7] at nE
   have d5 : decide ((b.length : Int) < ((n + 7 : Nat) : Int)) = true := decide_eq_true (by omega)
   simp -implicitDefEqProofs -dsimp only [go_sem, seval, d4, d5, ↓J0 _ _ q0g]
   refine cpn (fN _ 4 (by decide)) ?_
   simp -implicitDefEqProofs -dsimp only [go_sem, seval, q85]
   rw [nxR, nE]
   exact J9 rfl
  rw [if_neg h7] at nE
  have d5 : decide ((b.length : Int) < ((n + 7 : Nat) : Int)) = false := decide_eq_false (by omega)
  have s1 : (1 : Int) <= ((n + 7 : Nat) : Int) := by omega
  have s2 : ((n + 7 : Nat) : Int) <= b.length := by omega
  have s3 : n + 7 <= b.length := by omega
  have e6 : ((b.drop 1).take (n + 7 - 1)).length = n + 7 - 1 := by rw [List.length_take, List.length_drop]; omega
  have c1 := z9t ((b.drop 1).take (n + 7 - 1)) (Option.map (fun x => x - 1) cap) (by omega)
  have e7 : (b.take (n + 7)).drop 1 = (b.drop 1).take (n + 7 - 1) := by rw [List.drop_take]
  rw [e7] at nE
  simp only [bts, e6] at c1
  simp -implicitDefEqProofs -dsimp only [go_sem, seval, d4, d5, s1, s2, s3, bts, Int.toNat_natCast, Int.natCast_nonneg, Nat.mul_one, qb1, qel, show (1 : Int).toNat = 1 from rfl, Nat.zero_le, ↓J0 _ _ z0b]
  refine cpn c1 ?_
  rcases hwh : qkp ((b.drop 1).take (n + 7 - 1)) with _ | _
  ·rw [if_pos hwh] at nE
   simp -implicitDefEqProofs -dsimp only [go_sem, seval, Bool.not_false, ↓J0 _ _ q0g]
   refine cpn (fN _ 5 (by decide)) ?_
   simp -implicitDefEqProofs -dsimp only [go_sem, seval, q85]
   rw [nxR, nE]
   exact J9 rfl
  rw [if_neg (by rw [hwh]; simp)] at nE
  have s4 : ((3 : Int) <= ((n + 3 : Nat) : Int)) := by omega
  have s5 : n + 3 <= b.length := by omega
  have e8 : ((b.drop 3).take (n + 3 - 3)).length = n + 3 - 3 := by rw [List.length_take, List.length_drop]; omega
  have c2 := z9o ((b.drop 3).take (n + 3 - 3)) (Option.map (fun x => x - 3) cap) (by omega)
  simp only [bts, e8] at c2
  simp -implicitDefEqProofs -dsimp only [go_sem, seval, Bool.not_true, w3, s4, s5, bts, Int.toNat_natCast, Int.natCast_nonneg, Nat.mul_one, qb1, qel, show (3 : Int).toNat = 3 from rfl, Nat.zero_le, ↓J0 _ _ q0m]
  refine cpn c2 ?_
  simp -implicitDefEqProofs -dsimp only [go_sem, seval]
  have e9 : qkc b = (b.drop 3).take (n + 3 - 3) := by unfold qkc; rw [es, List.drop_take]
  rw [nxR, nE, es]
  simp only
  rw [e9, bts, e8]
  exact J9 rfl
 ·have e : nxE b = some ([109, 97, 114, 107], 3) := by unfold nxE; rw [if_neg h0, if_pos (by rw [ex]; exact h1)]
  have d1 : decide ((x.toNat : Int) = 197) = false := decide_eq_false (fun h => h1 (UInt8.toNat_inj.1 (by show x.toNat = 197; omega)))
  simp -implicitDefEqProofs -dsimp only [go_sem, seval, d0, bts, hp', Int.le_refl, Int.toNat_zero, Nat.zero_mul, List.drop_zero, hx', d1, ↓J0 _ _ q0g]
  refine cpn (fN _ 3 (by decide)) ?_
  simp -implicitDefEqProofs -dsimp only [go_sem, seval, q85]
  rw [nxR, e]
  exact J9 rfl
end Go.Aw
namespace Go.Aw
open Go
open Go.Proofs.Tryz (prog)
set_option linter.all false
set_option maxHeartbeats 4000000
def zlc (p : List UInt8 × Int) : Er := .flt p.1 (.num p.2)
def opE (b : List UInt8) : Option Er := match nxE b with
 | some p => some (.flt [111, 112, 101, 110] (zlc p))
 | none => if qys b + 7 < b.length then some (.flt [98, 101, 104, 105, 110, 100] (.num 3)) else none
def opR (b : List UInt8) : AV := match opE b with
 | some e => .tup [.fz 0 [] (some 0), e.av]
 | none => .tup [bts (qkc b) none, .nilifc]
theorem zdf (b : List UInt8) (cap : Option Nat) (hl : b.length <= 1000000000) : PCalls prog qdj [bts b cap] (opR b) := by
 refine K7 U3 qxn (by simp) fun T => ?_
 have h := zde b cap hl
 unfold nxR at h
 unfold qph opR opE
 rcases he : nxE b with _ | ⟨w, e⟩
 ·rw [he] at h
  simp only at h
  simp -implicitDefEqProofs -dsimp only [go_sem, seval, ↓J0 _ _ qpm]
  refine cpn h ?_
  have hn := qou [98, 101, 104, 105, 110, 100] 3
  rw [if_neg (by decide)] at hn
  by_cases h7 : qys b + 7 < b.length
  ·have d : decide (((qys b + 7 : Nat) : Int) < b.length) = true := decide_eq_true (by omega)
   simp -implicitDefEqProofs -dsimp only [go_sem, seval, qts, d, ↓J0 _ _ q0g]
   refine cpn hn ?_
   simp -implicitDefEqProofs -dsimp only [go_sem, seval, q85]
   rw [if_pos h7]
   exact J9 rfl
  ·have d : decide (((qys b + 7 : Nat) : Int) < b.length) = false := decide_eq_false (by omega)
   simp -implicitDefEqProofs -dsimp only [go_sem, seval, qts, d]
   rw [if_neg h7]
   exact J9 rfl
 ·rw [he] at h
  have hi := zax [111, 112, 101, 110] (zlc (w, e))
  simp only [zlc, Er.av, q85] at h hi
  simp -implicitDefEqProofs -dsimp only [go_sem, seval, ↓J0 _ _ qpm]
  refine cpn h ?_
  simp -implicitDefEqProofs -dsimp only [go_sem, seval, qts, q85, ↓J0 _ _ que]
  refine cpn hi ?_
  simp -implicitDefEqProofs -dsimp only [go_sem, seval]
  exact J9 rfl
def zdg (b : List UInt8) : AV := match opE b with
 | some e => .tup [.fz 0 [] (some 0), .i .i64 e.code]
 | none => .tup [bts (qkc b) none, .i .i64 0]
theorem zdh (b : List UInt8) (cap : Option Nat) (hl : b.length <= 1000000000) : PCalls prog qdi [bts b cap] (zdg b) := by
 refine K7 U3 qxj (by simp) fun T => ?_
 have h := zdf b cap hl
 have hc := z0z (opE b)
 unfold opR at h
 unfold qpd zdg
 rcases he : opE b with _ | e
 ·rw [he] at h hc
  simp only [qwj, qe5] at h hc
  simp -implicitDefEqProofs -dsimp only [go_sem, seval, ↓J0 _ _ qpi]
  refine cpn h ?_
  simp -implicitDefEqProofs -dsimp only [go_sem, seval, ↓J0 _ _ qbc]
  refine cpn hc ?_
  simp -implicitDefEqProofs -dsimp only [go_sem, seval]
  exact J9 rfl
 ·rw [he] at h hc
  obtain ⟨t, v, ev⟩ := e.ifc
  simp only [qwj, qe5, ev] at h hc
  simp -implicitDefEqProofs -dsimp only [go_sem, seval, ↓J0 _ _ qpi]
  refine cpn h ?_
  simp -implicitDefEqProofs -dsimp only [go_sem, seval, ↓J0 _ _ qbc]
  refine cpn hc ?_
  simp -implicitDefEqProofs -dsimp only [go_sem, seval]
  exact J9 rfl
end Go.Aw
