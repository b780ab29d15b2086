import Derived.Test.YtchdmofoaokpjaaGreatDoorM30N17M17B
import Derived.Test.YtchdmofoaokpjaaGreatDoorAwD
import Derived.Test.YtchdmofoaokpjaaGreatDoorM30N17M17S
import Derived.Test.YtchdmofoaokpjaaGreatDoorM30N17F04N
namespace Go.Aw
open Go
set_option linter.all false
set_option maxHeartbeats 4000000
abbrev z35 : Ty := .st [.st [.int .i64, .int .u64], .bool, .sl (.st [.str, .int .u64]), .sl (.st [.str, .str, .bool])]
abbrev z01 : Ty := .st [.int .u64, .int .i64, z35, .st [.int .i64, .int .u64], .int .i64]
abbrev z42 : Ty := .st [.int .u64, .int .i64, .sl (.st [.int .i64, .bool]), .int .i64]
abbrev z43 : Ty := .st [.int .i64, .st [.int .u64, .int .i64], .str]
abbrev qjo : Ty := .st [.st [.int .i64, .int .i64], .st [.int .i64, .int .i64], .int .i64, .int .i64, .int .u64, .int .i64, .int .i64, .int .i64, .bool, .st [.int .u64, .int .i64], .sl z43, .sl z42, .sl z01, z35, .st [.int .i64, .int .u64], .str, .int .u64, .int .i64]
theorem qar {n : Nat} (h : n <= maxLen) : Len n := by unfold Len; unfold maxLen at h; omega
theorem zao {p : List AV} (h : q7t (.st [.str, .int .u64]) p) : ∃ r : Rd, p = rdC r /\ (Len r.k.length /\ 0 <= r.n /\ r.n < 18446744073709551616) := by
 simp only [q7t, q47] at h
 obtain ⟨a, b, rfl, ⟨k, rfl, hk⟩, c, d, rfl, ⟨n, rfl, hn⟩, rfl⟩ := h
 exact ⟨⟨k, n⟩, rfl, qar hk, qe9 hn⟩
theorem zap {p : List AV} (h : q7t (.st [.str, .str, .bool]) p) : ∃ r : Wt, p = wtC r /\ (Len r.k.length /\ Len r.v.length) := by
 simp only [q7t, q47] at h
 obtain ⟨a, b, rfl, ⟨k, rfl, hk⟩, c, d, rfl, ⟨v, rfl, hv⟩, e, f, rfl, ⟨g, rfl⟩, rfl⟩ := h
 exact ⟨⟨k, v, g⟩, rfl, qar hk, qar hv⟩
def U64 (n : Int) : Prop := 0 <= n /\ n < 18446744073709551616
structure Tx.Arg (t : Tx) : Prop where
 w : t.Wide
 sq : U64 t.sq
 cl : I64 t.cl
 r : ∀ r ∈ t.rs, U64 r.n
theorem z02 {p : List AV} (h : q7t z35 p) : ∃ (t : Tx) (k1 k2 : Option Nat), p = t.cells k1 k2 /\ t.Arg := by
 simp only [q7t, q47] at h
 obtain ⟨a1, b1, rfl, ⟨a2, b2, rfl, ⟨cl, rfl, hcl⟩, a3, b3, rfl, ⟨sq, rfl, hsq⟩, rfl⟩, a4, b4, rfl, ⟨pl, rfl⟩, a5, b5, rfl, h5, a6, b6, rfl, h6, rfl⟩ := h
 have h5' : q7t (.sl (.st [.str, .int .u64])) a5 := by simpa only [q7t, q47] using h5
 have h6' : q7t (.sl (.st [.str, .str, .bool])) a6 := by simpa only [q7t, q47] using h6
 obtain ⟨rs, k1, rfl, hr, hro⟩ := qax (fun p hp => zao hp) h5'
 obtain ⟨ws, k2, rfl, hw, hwo⟩ := qax (fun p hp => zap hp) h6'
 exact ⟨⟨cl, sq, pl, rs, ws⟩, k1, k2, rfl, ⟨hr, hw, fun r h => (hro r h).1, fun r h => (hwo r h).1, fun r h => (hwo r h).2⟩, qe9 hsq, q5j hcl, fun r h => (hro r h).2⟩
structure En.Arg (e : En) : Prop where
 t : e.t.Arg
 ep : U64 e.ep
 sq : U64 e.sq
 kd : I64 e.kd
 cl : I64 e.cl
 co : I64 e.co
structure EnK where
 e : En
 k1 : Option Nat
 k2 : Option Nat
theorem z03 {p : List AV} (h : q7t z01 p) : ∃ x : EnK, p = x.e.cells x.k1 x.k2 /\ x.e.Arg := by
 simp only [q7t, q47] at h
 obtain ⟨a1, b1, rfl, ⟨ep, rfl, hep⟩, a2, b2, rfl, ⟨kd, rfl, hkd⟩, a3, b3, rfl, h3, a4, b4, rfl, ⟨a2, b2, rfl, ⟨cl, rfl, hcl⟩, a3', b3', rfl, ⟨sq, rfl, hsq⟩, rfl⟩, a5, b5, rfl, ⟨co, rfl, hco⟩, rfl⟩ := h
 have h3' : q7t z35 a3 := by simpa only [q7t, q47] using h3
 obtain ⟨t, k1, k2, rfl, ht⟩ := z02 h3'
 exact ⟨⟨⟨ep, kd, t, cl, sq, co⟩, k1, k2⟩, rfl, ht, qe9 hep, qe9 hsq, q5j hkd, q5j hcl, q5j hco⟩
theorem z6c {p : List AV} (h : q7t (.st [.int .i64, .bool]) p) : ∃ m : Int × Bool, p = [.i .i64 m.1, .b m.2] /\ I64 m.1 := by
 simp only [q7t, q47] at h
 obtain ⟨a, b, rfl, ⟨k, rfl, hk⟩, c, d, rfl, ⟨n, rfl⟩, rfl⟩ := h
 exact ⟨⟨k, n⟩, rfl, q5j hk⟩
structure RfQ where
 c : Rf
 k : Option Nat
structure Rf.Arg (c : Rf) : Prop where
 l : Len c.l.length
 ep : U64 c.ep
 sh : I64 c.sh
 ln : I64 c.ln
 m : ∀ m ∈ c.l, I64 m.1
theorem z36 {p : List AV} (h : q7t z42 p) : ∃ x : RfQ, p = x.c.cells x.k /\ x.c.Arg := by
 simp only [q7t, q47] at h
 obtain ⟨a1, b1, rfl, ⟨ep, rfl, hep⟩, a2, b2, rfl, ⟨sh, rfl, hsh⟩, a3, b3, rfl, h3, a4, b4, rfl, ⟨ln, rfl, hln⟩, rfl⟩ := h
 have h3' : q7t (.sl (.st [.int .i64, .bool])) a3 := by simpa only [q7t, q47] using h3
 obtain ⟨l, k, rfl, hl, hm⟩ := qax (fun p hp => z6c hp) h3'
 exact ⟨⟨⟨ep, sh, l, ln⟩, k⟩, rfl, hl, qe9 hep, q5j hsh, q5j hln, hm⟩
structure Vt.Arg (v : Vt) : Prop where
 sl : I64 v.sl
 rd : U64 v.rd
 nd : I64 v.nd
 v : Len v.v.length
theorem z37 {p : List AV} (h : q7t z43 p) : ∃ v : Vt, p = vtC v /\ v.Arg := by
 simp only [q7t, q47] at h
 obtain ⟨a1, b1, rfl, ⟨sl, rfl, hsl⟩, a2, b2, rfl, ⟨a3, b3, rfl, ⟨rd, rfl, hrd⟩, a4, b4, rfl, ⟨nd, rfl, hnd⟩, rfl⟩, a5, b5, rfl, ⟨v, rfl, hv⟩, rfl⟩ := h
 exact ⟨⟨sl, rd, nd, v⟩, rfl, q5j hsl, qe9 hrd, q5j hnd, qar hv⟩
structure Lt.Arg (l : Lt Rf) : Prop where
 fk : I64 l.fk
 fn : I64 l.fn
 tk : I64 l.tk
 tn : I64 l.tn
 k : I64 l.k
 sh : I64 l.sh
 ep : U64 l.ep
 n : I64 l.n
 m : I64 l.m
 nd : I64 l.nd
 br : U64 l.br
 bn : I64 l.bn
 vs : ∀ v ∈ l.vs, v.Arg
 cs : ∀ c ∈ l.cs, c.Arg
 es : ∀ e ∈ l.es, e.Arg
 t : l.t.Arg
 cl : I64 l.cl
 sq : U64 l.sq
 q : U64 l.q
 co : I64 l.co
 wide : l.Wide
theorem qwj {p : List AV} (h : q7t qjo p) : ∃ l : Lt Rf, Wks p l.rc /\ l.Arg := by
 simp only [q7t] at h
 unfold q47 at h; obtain ⟨p1, r1, rfl, h1, h⟩ := h
 unfold q47 at h; obtain ⟨p2, r2, rfl, h2, h⟩ := h
 unfold q47 at h; obtain ⟨p3, r3, rfl, h3, h⟩ := h
 unfold q47 at h; obtain ⟨p4, r4, rfl, h4, h⟩ := h
 unfold q47 at h; obtain ⟨p5, r5, rfl, h5, h⟩ := h
 unfold q47 at h; obtain ⟨p6, r6, rfl, h6, h⟩ := h
 unfold q47 at h; obtain ⟨p7, r7, rfl, h7, h⟩ := h
 unfold q47 at h; obtain ⟨p8, r8, rfl, h8, h⟩ := h
 unfold q47 at h; obtain ⟨p9, r9, rfl, h9, h⟩ := h
 unfold q47 at h; obtain ⟨p10, r10, rfl, h10, h⟩ := h
 unfold q47 at h; obtain ⟨p11, r11, rfl, h11, h⟩ := h
 unfold q47 at h; obtain ⟨p12, r12, rfl, h12, h⟩ := h
 unfold q47 at h; obtain ⟨p13, r13, rfl, h13, h⟩ := h
 unfold q47 at h; obtain ⟨p14, r14, rfl, h14, h⟩ := h
 unfold q47 at h; obtain ⟨p15, r15, rfl, h15, h⟩ := h
 unfold q47 at h; obtain ⟨p16, r16, rfl, h16, h⟩ := h
 unfold q47 at h; obtain ⟨p17, r17, rfl, h17, h⟩ := h
 unfold q47 at h; obtain ⟨p18, r18, rfl, h18, h⟩ := h
 unfold q47 at h; subst h
 obtain ⟨vs, kv, rfl, hv, hvo⟩ := qax (fun p hp => z37 hp) h11
 obtain ⟨cs, kc, rfl, hc, hco⟩ := qax (fun p hp => z36 hp) h12
 obtain ⟨es, ke, rfl, he, heo⟩ := qax (fun p hp => z03 hp) h13
 obtain ⟨t, k1, k2, rfl, ht⟩ := z02 h14
 simp only [q7t, q47] at h1 h2 h3 h4 h5 h6 h7 h8 h9 h10 h15 h16 h17 h18
 obtain ⟨_, _, rfl, ⟨fk, rfl, hfk⟩, _, _, rfl, ⟨fn, rfl, hfn⟩, rfl⟩ := h1
 obtain ⟨_, _, rfl, ⟨tk, rfl, htk⟩, _, _, rfl, ⟨tn, rfl, htn⟩, rfl⟩ := h2
 obtain ⟨k, rfl, hk⟩ := h3
 obtain ⟨sh, rfl, hsh⟩ := h4
 obtain ⟨ep, rfl, hep⟩ := h5
 obtain ⟨n, rfl, hn⟩ := h6
 obtain ⟨m, rfl, hm⟩ := h7
 obtain ⟨nd, rfl, hnd⟩ := h8
 obtain ⟨fl, rfl⟩ := h9
 obtain ⟨_, _, rfl, ⟨br, rfl, hbr⟩, _, _, rfl, ⟨bn, rfl, hbn⟩, rfl⟩ := h10
 obtain ⟨_, _, rfl, ⟨cl, rfl, hcl⟩, _, _, rfl, ⟨sq, rfl, hsq⟩, rfl⟩ := h15
 obtain ⟨v, rfl, hvl⟩ := h16
 obtain ⟨q, rfl, hq⟩ := h17
 obtain ⟨co, rfl, hco'⟩ := h18
 refine ⟨⟨fk, fn, tk, tn, k, sh, ep, n, m, nd, fl, br, bn, vs, cs.map (·.c), es.map (·.e), t, cl, sq, v, q, co⟩, ?_, q5j hfk, q5j hfn, q5j htk, q5j htn, q5j hk, q5j hsh, qe9 hep, q5j hn, q5j hm, q5j hnd, qe9 hbr, q5j hbn, hvo, ?_, ?_, ht, q5j hcl, qe9 hsq, qe9 hq, q5j hco', ?_⟩
 ·have e1 : Wk (.fz cs.length (cs.flatMap fun x => x.c.cells x.k) kc) (.fz (cs.map (·.c)).length ((cs.map (·.c)).flatMap rfL) none) := by
   rw [List.length_map, List.flatMap_map]
   exact Wk.fzs (Wks.flatMap fun x _ => ⟨.refl _, .refl _, .fz, .refl _, trivial⟩)
  have e2 : Wk (.fz es.length (es.flatMap fun x => x.e.cells x.k1 x.k2) ke) (.fz (es.map (·.e)).length ((es.map (·.e)).flatMap enC) none) := by
   rw [List.length_map, List.flatMap_map]
   exact Wk.fzs (Wks.flatMap fun x _ => ⟨.refl _, .refl _, .refl _, .refl _, .refl _, .fz, .fz, .refl _, .refl _, .refl _, trivial⟩)
  exact ⟨.refl _, .refl _, .refl _, .refl _, .refl _, .refl _, .refl _, .refl _, .refl _, .refl _, .refl _, .refl _, .refl _, .fz, e1, e2, .refl _, .refl _, .refl _, .fz, .fz, .refl _, .refl _, .refl _, .refl _, .refl _, trivial⟩
 ·intro c hc'
  obtain ⟨x, hx, rfl⟩ := List.mem_map.1 hc'
  exact hco x hx
 ·intro c hc'
  obtain ⟨x, hx, rfl⟩ := List.mem_map.1 hc'
  exact heo x hx
 ·exact ⟨hv, by rw [List.length_map]; exact hc, by rw [List.length_map]; exact he, fun v h => (hvo v h).v, fun c hc' => by
   obtain ⟨x, hx, rfl⟩ := List.mem_map.1 hc'
   exact (hco x hx).l, fun c hc' => by
   obtain ⟨x, hx, rfl⟩ := List.mem_map.1 hc'
   exact (heo x hx).t.w, ht.w, qar hvl⟩
end Go.Aw
namespace Go.Aw
open Go
open Go.Proofs.Tryz (prog)
set_option linter.all false
set_option maxHeartbeats 8000000
set_option maxRecDepth 8000
theorem z6d : zT.Fine := ⟨by decide, by decide, fun _ h => (by cases h), fun _ h => (by cases h), fun _ h => (by cases h)⟩
theorem qfj (p : Bs) : (frm p).length = p.length + 7 := by simp [frm, q6a, z3y]
theorem Rf.ours_len (c : Rf) : c.ours.ch.length <= 10 /\ c.ours.fu.length = c.ours.ch.length := by
 simp [Rf.ours, qqp, qqq]; omega
theorem qmq {n m : Nat} (h : n <= m) (hm : m < 9223372036854775808 := by decide) : Len n := by unfold Len; omega
theorem Lt.Arg.fine {l : Lt Rf} (h : l.Arg) : l.ours.Fine := by
 obtain ⟨w1, w2, w3, w4, w5, w6, w7, w8⟩ := h.wide
 refine ⟨by simp [Lt.ours]; omega, by simp [Lt.ours]; omega, by simp [Lt.ours]; omega, fun v hv => w4 v (List.mem_of_mem_take hv), fun c hc => ?_, fun e he => ?_, w7.our, w8⟩
 ·obtain ⟨r, hr, rfl⟩ := List.mem_map.1 hc
  have := r.ours_len
  exact ⟨by omega, this.2⟩
 ·obtain ⟨r, hr, rfl⟩ := List.mem_map.1 he
  exact (w6 r (List.mem_of_mem_take hr)).our
theorem Lt.Fine.small {l : Lt Cf} (h : l.Fine) : l.Small := by
 obtain ⟨w1, w2, w3, w4, w5, w6, w7, w8⟩ := h
 exact ⟨qmq w1, qmq w2, qmq w3, qmq (Nat.le_of_lt w7.r), qmq (Nat.le_of_lt w7.w), fun c hc => ⟨qmq (w5 c hc).1, by rw [(w5 c hc).2]; exact qmq (w5 c hc).1⟩, fun e he => w6 e he⟩
theorem Lt.Arg.rng {l : Lt Rf} (h : l.Arg) : l.ours.Rng := by
 refine ⟨h.ep, h.br, h.q, h.sq.2, h.t.sq.2, fun r hr => h.t.r r (List.mem_of_mem_take hr), fun v hv => (h.vs v (List.mem_of_mem_take hv)).rd, fun c hc => ?_, fun e he => ?_⟩
 ·obtain ⟨r, hr, rfl⟩ := List.mem_map.1 hc
  exact ⟨(h.cs r (List.mem_of_mem_take hr)).ep, qmq r.ours_len.1⟩
 ·obtain ⟨r, hr, rfl⟩ := List.mem_map.1 he
  have a := h.es r (List.mem_of_mem_take hr)
  exact ⟨a.t.w.our, a.ep, a.t.sq.2, fun r hr => a.t.r r (List.mem_of_mem_take hr), a.sq.2⟩
end Go.Aw
namespace Go.Aw
open Go
open Go.Proofs.Tryz (prog)
set_option linter.all false
set_option maxHeartbeats 4000000
theorem zaq (a b : Nat) (hb : b < 256) : a * 256 ||| b = a * 256 + b := by
 have := Nat.shiftLeft_add_eq_or_of_lt (a := a) (i := 8) (b := b) (by omega)
 rw [Nat.shiftLeft_eq] at this
 exact this.symm
theorem zfo (a b : UInt8) : IntKind.i64.wrap ((BitVec.ofInt IntKind.i64.bits (IntKind.i64.wrap ((a.toNat : Int) * 2 ^ (min 8 64 : Nat))) ||| BitVec.ofInt IntKind.i64.bits (b.toNat : Int)).toNat : Int) = ((a.toNat * 256 + b.toNat : Nat) : Int) := by
 have ha := a.toNat_lt
 have hb := b.toNat_lt
 have e : IntKind.i64.wrap ((a.toNat : Int) * 2 ^ (min 8 64 : Nat)) = ((a.toNat * 256 : Nat) : Int) := by
  show IntKind.i64.wrap ((a.toNat : Int) * 256) = _
  rw [q0c (by unfold I64; omega)]; omega
 rw [e]
 show IntKind.i64.wrap (((BitVec.ofInt 64 ((a.toNat * 256 : Nat) : Int) ||| BitVec.ofInt 64 (b.toNat : Int)) : BitVec 64).toNat : Int) = _
 rw [BitVec.ofInt_natCast, BitVec.ofInt_natCast, BitVec.toNat_or, BitVec.toNat_ofNat, BitVec.toNat_ofNat, Nat.mod_eq_of_lt (by omega), Nat.mod_eq_of_lt (by omega), zaq _ _ (by omega)]
 rw [q0c (by unfold I64; omega)]
def bAt (b : List UInt8) (k : Nat) : UInt8 := (b[k]?).getD 0
def qr8 (b : List UInt8) : Nat := (bAt b 1).toNat * 256 + (bAt b 2).toNat
def nxE (b : List UInt8) : Option (List UInt8 × Int) :=
 if b = [] then some ([101, 110, 100], 6) else if bAt b 0 ≠ 197 then some ([109, 97, 114, 107], 3) else if b.length < 3 then some ([104, 101, 97, 100], 4) else
 if qr8 b = 0 then some ([115, 105, 122, 101], 3) else if b.length < qr8 b + 7 then some ([114, 101, 99, 111, 114, 100], 4) else
 if qda ((b.take (qr8 b + 7)).drop 1) = false then some ([115, 117, 109], 5) else none
def qh2 (b : List UInt8) : List UInt8 := (b.take (qr8 b + 3)).drop 3
def nxR (b : List UInt8) : AV := match nxE b with
 | some (w, e) => .tup [.fz 0 [] (some 0), .i .i64 0, q56 w (qlg e)]
 | none => .tup [bts (qh2 b) none, .i .i64 (qr8 b + 7 : Nat), .nilifc]
theorem zeq : decide (((197 : UInt8).toNat : Int) = 197) = true := by decide
theorem z6e (b : List UInt8) (cap : Option Nat) (hl : b.length <= 1000000000) : PCalls prog q9d [bts b cap] (nxR b) := by
 refine K6 U1 qq8 (by simp) fun T => ?_
 have fN : ∀ (w : List UInt8) (e : Int), e ≠ 0 -> PCalls prog q0d [.s w, .i .i64 e] (q56 w (qlg e)) := fun w e h => by
  have := qhn w e
  rwa [if_neg h] at this
 unfold qie
 by_cases h0 : b = []
 ·have e : nxE b = some ([101, 110, 100], 6) := by unfold nxE; rw [if_pos h0]
  have d0 : decide ((b.length : Int) = 0) = true := decide_eq_true (by rw [h0]; rfl)
  simp -implicitDefEqProofs -dsimp only [go_sem, seval, d0, ↓J0 _ _ I3]
  refine cpn (fN _ 6 (by decide)) ?_
  simp -implicitDefEqProofs -dsimp only [go_sem, seval, q56]
  rw [nxR, e]
  exact J9 rfl
 have hp : 0 < b.length := List.length_pos_iff.2 h0
 have d0 : decide ((b.length : Int) = 0) = false := decide_eq_false (by omega)
 obtain ⟨x, hx⟩ : ∃ x, b[0]? = some x := ⟨_, List.getElem?_eq_getElem hp⟩
 have hx' := qwh hx
 rw [List.drop_zero] at hx'
 have hp' : (0 : Int) < b.length := by omega
 have ex : bAt b 0 = x := by unfold bAt; rw [hx]; rfl
 by_cases h1 : x = 197
 ·subst h1
  by_cases h3 : b.length < 3
  ·have e : nxE b = some ([104, 101, 97, 100], 4) := by unfold nxE; rw [if_neg h0, if_neg (by rw [ex]; simp), if_pos h3]
   have d3 : decide ((b.length : Int) < 3) = true := decide_eq_true (by omega)
   simp -implicitDefEqProofs -dsimp only [go_sem, seval, d0, bts, hp', Int.le_refl, Int.toNat_zero, Nat.zero_mul, List.drop_zero, hx', d3, zeq, ↓J0 _ _ I3]
   refine cpn (fN _ 4 (by decide)) ?_
   simp -implicitDefEqProofs -dsimp only [go_sem, seval, q56]
   rw [nxR, e]
   exact J9 rfl
  have d3 : decide ((b.length : Int) < 3) = false := decide_eq_false (by omega)
  obtain ⟨y, hy⟩ : ∃ y, b[1]? = some y := ⟨_, List.getElem?_eq_getElem (by omega)⟩
  obtain ⟨z, hz⟩ : ∃ z, b[2]? = some z := ⟨_, List.getElem?_eq_getElem (by omega)⟩
  have hy' := qwh hy
  have hz' := qwh hz
  have ey : bAt b 1 = y := by unfold bAt; rw [hy]; rfl
  have ez : bAt b 2 = z := by unfold bAt; rw [hz]; rfl
  have l1 : (1 : Int) < b.length := by omega
  have l2 : (2 : Int) < b.length := by omega
  have hby := y.toNat_lt
  have hbz := z.toNat_lt
  have c64 : ∀ u : UInt8, IntKind.i64.wrap (u.toNat : Int) = u.toNat := fun u => q0c (by have := u.toNat_lt; unfold I64; omega)
  have es : qr8 b = y.toNat * 256 + z.toNat := by unfold qr8; rw [ey, ez]
  obtain ⟨n, hn⟩ : ∃ n : Nat, n = y.toNat * 256 + z.toNat := ⟨_, rfl⟩
  have hw := zfo y z
  rw [<- hn] at hw es
  have hn6 : n < 65536 := by omega
  have w3 : IntKind.i64.wrap (3 + (n : Int)) = ((n + 3 : Nat) : Int) := (q0c (by unfold I64; omega)).trans (by omega)
  have w7 : IntKind.i64.wrap (((n + 3 : Nat) : Int) + 4) = ((n + 7 : Nat) : Int) := (q0c (by unfold I64; omega)).trans (by omega)
  simp -implicitDefEqProofs -dsimp only [go_sem, seval, d0, bts, hp', Int.le_refl, Int.toNat_zero, Nat.zero_mul, List.drop_zero, hx', d3, zeq, l1, l2, show (1 : Int).toNat = 1 from rfl, show (2 : Int).toNat = 2 from rfl, Nat.mul_one, hy', hz', c64, hw, w3, w7]
  have nE : nxE b = (if qr8 b = 0 then some ([115, 105, 122, 101], 3) else if b.length < qr8 b + 7 then some ([114, 101, 99, 111, 114, 100], 4) else
    if qda ((b.take (qr8 b + 7)).drop 1) = false then some ([115, 117, 109], 5) else none) := by
   unfold nxE; rw [if_neg h0, if_neg (by rw [ex]; simp), if_neg h3]
  rw [es] at nE
  by_cases hz0 : n = 0
  ·rw [if_pos hz0] at nE
   have d4 : decide ((n : Int) = 0) = true := decide_eq_true (by omega)
   simp -implicitDefEqProofs -dsimp only [go_sem, seval, d4, ↓J0 _ _ I3]
   refine cpn (fN _ 3 (by decide)) ?_
   simp -implicitDefEqProofs -dsimp only [go_sem, seval, q56]
   rw [nxR, nE]
   exact J9 rfl
  rw [if_neg hz0] at nE
  have d4 : decide ((n : Int) = 0) = false := decide_eq_false (by omega)
  by_cases h7 : b.length < n + 7
  ·rw [if_pos h7] at nE
   have d5 : decide ((b.length : Int) < ((n + 7 : Nat) : Int)) = true := decide_eq_true (by omega)
   simp -implicitDefEqProofs -dsimp only [go_sem, seval, d4, d5, ↓J0 _ _ I3]
   refine cpn (fN _ 4 (by decide)) ?_
   simp -implicitDefEqProofs -dsimp only [go_sem, seval, q56]
   rw [nxR, nE]
   exact J9 rfl
  rw [if_neg h7] at nE
  have d5 : decide ((b.length : Int) < ((n + 7 : Nat) : Int)) = false := decide_eq_false (by omega)
  have s1 : (1 : Int) <= ((n + 7 : Nat) : Int) := by omega
  have s2 : ((n + 7 : Nat) : Int) <= b.length := by omega
  have s3 : n + 7 <= b.length := by omega
  have e6 : ((b.drop 1).take (n + 7 - 1)).length = n + 7 - 1 := by rw [List.length_take, List.length_drop]; omega
  have c1 := z2z ((b.drop 1).take (n + 7 - 1)) (Option.map (fun x => x - 1) cap) (by omega)
  have e7 : (b.take (n + 7)).drop 1 = (b.drop 1).take (n + 7 - 1) := by rw [List.drop_take]
  rw [e7] at nE
  simp only [bts, e6] at c1
  simp -implicitDefEqProofs -dsimp only [go_sem, seval, d4, d5, s1, s2, s3, bts, Int.toNat_natCast, Int.natCast_nonneg, Nat.mul_one, q7h, q9z, show (1 : Int).toNat = 1 from rfl, Nat.zero_le, ↓J0 _ _ qsg]
  refine cpn c1 ?_
  rcases hwh : qda ((b.drop 1).take (n + 7 - 1)) with _ | _
  ·rw [if_pos hwh] at nE
   simp -implicitDefEqProofs -dsimp only [go_sem, seval, Bool.not_false, ↓J0 _ _ I3]
   refine cpn (fN _ 5 (by decide)) ?_
   simp -implicitDefEqProofs -dsimp only [go_sem, seval, q56]
   rw [nxR, nE]
   exact J9 rfl
  rw [if_neg (by rw [hwh]; simp)] at nE
  have s4 : ((3 : Int) <= ((n + 3 : Nat) : Int)) := by omega
  have s5 : n + 3 <= b.length := by omega
  have e8 : ((b.drop 3).take (n + 3 - 3)).length = n + 3 - 3 := by rw [List.length_take, List.length_drop]; omega
  have c2 := z2u ((b.drop 3).take (n + 3 - 3)) (Option.map (fun x => x - 3) cap) (by omega)
  simp only [bts, e8] at c2
  simp -implicitDefEqProofs -dsimp only [go_sem, seval, Bool.not_true, w3, s4, s5, bts, Int.toNat_natCast, Int.natCast_nonneg, Nat.mul_one, q7h, q9z, show (3 : Int).toNat = 3 from rfl, Nat.zero_le, ↓J0 _ _ Z5]
  refine cpn c2 ?_
  simp -implicitDefEqProofs -dsimp only [go_sem, seval]
  have e9 : qh2 b = (b.drop 3).take (n + 3 - 3) := by unfold qh2; rw [es, List.drop_take]
  rw [nxR, nE, es]
  simp only
  rw [e9, bts, e8]
  exact J9 rfl
 ·have e : nxE b = some ([109, 97, 114, 107], 3) := by unfold nxE; rw [if_neg h0, if_pos (by rw [ex]; exact h1)]
  have d1 : decide ((x.toNat : Int) = 197) = false := decide_eq_false (fun h => h1 (UInt8.toNat_inj.1 (by show x.toNat = 197; omega)))
  simp -implicitDefEqProofs -dsimp only [go_sem, seval, d0, bts, hp', Int.le_refl, Int.toNat_zero, Nat.zero_mul, List.drop_zero, hx', d1, ↓J0 _ _ I3]
  refine cpn (fN _ 3 (by decide)) ?_
  simp -implicitDefEqProofs -dsimp only [go_sem, seval, q56]
  rw [nxR, e]
  exact J9 rfl
end Go.Aw
namespace Go.Aw
open Go
open Go.Proofs.Tryz (prog)
set_option linter.all false
set_option maxHeartbeats 4000000
def ze8 (p : List UInt8 × Int) : Er := .flt p.1 (.num p.2)
def opE (b : List UInt8) : Option Er := match nxE b with
 | some p => some (.flt [111, 112, 101, 110] (ze8 p))
 | none => if qr8 b + 7 < b.length then some (.flt [98, 101, 104, 105, 110, 100] (.num 3)) else none
def opR (b : List UInt8) : AV := match opE b with
 | some e => .tup [.fz 0 [] (some 0), e.av]
 | none => .tup [bts (qh2 b) none, .nilifc]
theorem z6f (b : List UInt8) (cap : Option Nat) (hl : b.length <= 1000000000) : PCalls prog q9c [bts b cap] (opR b) := by
 refine K6 U1 qq4 (by simp) fun T => ?_
 have h := z6e b cap hl
 unfold nxR at h
 unfold qia opR opE
 rcases he : nxE b with _ | ⟨w, e⟩
 ·rw [he] at h
  simp only at h
  simp -implicitDefEqProofs -dsimp only [go_sem, seval, ↓J0 _ _ qif]
  refine cpn h ?_
  have hn := qhn [98, 101, 104, 105, 110, 100] 3
  rw [if_neg (by decide)] at hn
  by_cases h7 : qr8 b + 7 < b.length
  ·have d : decide (((qr8 b + 7 : Nat) : Int) < b.length) = true := decide_eq_true (by omega)
   simp -implicitDefEqProofs -dsimp only [go_sem, seval, qm1, d, ↓J0 _ _ I3]
   refine cpn hn ?_
   simp -implicitDefEqProofs -dsimp only [go_sem, seval, q56]
   rw [if_pos h7]
   exact J9 rfl
  ·have d : decide (((qr8 b + 7 : Nat) : Int) < b.length) = false := decide_eq_false (by omega)
   simp -implicitDefEqProofs -dsimp only [go_sem, seval, qm1, d]
   rw [if_neg h7]
   exact J9 rfl
 ·rw [he] at h
  have hi := z3w [111, 112, 101, 110] (ze8 (w, e))
  simp only [ze8, Er.av, q56] at h hi
  simp -implicitDefEqProofs -dsimp only [go_sem, seval, ↓J0 _ _ qif]
  refine cpn h ?_
  simp -implicitDefEqProofs -dsimp only [go_sem, seval, qm1, q56, ↓J0 _ _ qnf]
  refine cpn hi ?_
  simp -implicitDefEqProofs -dsimp only [go_sem, seval]
  exact J9 rfl
def z6g (b : List UInt8) : AV := match opE b with
 | some e => .tup [.fz 0 [] (some 0), .i .i64 e.code]
 | none => .tup [bts (qh2 b) none, .i .i64 0]
theorem z6h (b : List UInt8) (cap : Option Nat) (hl : b.length <= 1000000000) : PCalls prog q9b [bts b cap] (z6g b) := by
 refine K6 U1 qpy (by simp) fun T => ?_
 have h := z6f b cap hl
 have hc := qt1 (opE b)
 unfold opR at h
 unfold qi5 z6g
 rcases he : opE b with _ | e
 ·rw [he] at h hc
  simp only [qp6, q57] at h hc
  simp -implicitDefEqProofs -dsimp only [go_sem, seval, ↓J0 _ _ qib]
  refine cpn h ?_
  simp -implicitDefEqProofs -dsimp only [go_sem, seval, ↓J0 _ _ q7p]
  refine cpn hc ?_
  simp -implicitDefEqProofs -dsimp only [go_sem, seval]
  exact J9 rfl
 ·rw [he] at h hc
  obtain ⟨t, v, ev⟩ := e.ifc
  simp only [qp6, q57, ev] at h hc
  simp -implicitDefEqProofs -dsimp only [go_sem, seval, ↓J0 _ _ qib]
  refine cpn h ?_
  simp -implicitDefEqProofs -dsimp only [go_sem, seval, ↓J0 _ _ q7p]
  refine cpn hc ?_
  simp -implicitDefEqProofs -dsimp only [go_sem, seval]
  exact J9 rfl
end Go.Aw
