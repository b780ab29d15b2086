import Derived.Test.YtchdmofoaokpjaaGreatDoorM30N17M17B
import Derived.Test.YtchdmofoaokpjaaGreatDoorAwD
import Derived.Test.YtchdmofoaokpjaaGreatDoorM30N17M17S
import Derived.Test.YtchdmofoaokpjaaGreatDoorM30N17F04N
namespace Go.Aw
open Go
set_option linter.all false
set_option maxHeartbeats 4000000
abbrev z2n : Ty := .st [.st [.int .i64, .int .u64], .bool, .sl (.st [.str, .int .u64]), .sl (.st [.str, .str, .bool])]
abbrev qzt : Ty := .st [.int .u64, .int .i64, z2n, .st [.int .i64, .int .u64], .int .i64]
abbrev z3j : Ty := .st [.int .u64, .int .i64, .sl (.st [.int .i64, .bool]), .int .i64]
abbrev z3k : Ty := .st [.int .i64, .st [.int .u64, .int .i64], .str]
abbrev qup : Ty := .st [.st [.int .i64, .int .i64], .st [.int .i64, .int .i64], .int .i64, .int .i64, .int .u64, .int .i64, .int .i64, .int .i64, .bool, .st [.int .u64, .int .i64], .sl z3k, .sl z3j, .sl qzt, z2n, .st [.int .i64, .int .u64], .str, .int .u64, .int .i64]
theorem qag {n : Nat} (h : n <= maxLen) : Len n := by unfold Len; unfold maxLen at h; omega
theorem za5 {p : List AV} (h : q79 (.st [.str, .int .u64]) p) : ∃ r : Rd, p = rdC r /\ (Len r.k.length /\ 0 <= r.n /\ r.n < 18446744073709551616) := by
 simp only [q79, q2j] at h
 obtain ⟨a, b, rfl, ⟨k, rfl, hk⟩, c, d, rfl, ⟨n, rfl, hn⟩, rfl⟩ := h
 exact ⟨⟨k, n⟩, rfl, qag hk, qe7 hn⟩
theorem za6 {p : List AV} (h : q79 (.st [.str, .str, .bool]) p) : ∃ r : Wt, p = wtC r /\ (Len r.k.length /\ Len r.v.length) := by
 simp only [q79, q2j] at h
 obtain ⟨a, b, rfl, ⟨k, rfl, hk⟩, c, d, rfl, ⟨v, rfl, hv⟩, e, f, rfl, ⟨g, rfl⟩, rfl⟩ := h
 exact ⟨⟨k, v, g⟩, rfl, qag hk, qag hv⟩
def U64 (n : Int) : Prop := 0 <= n /\ n < 18446744073709551616
structure Tx.Arg (t : Tx) : Prop where
 w : t.Wide
 sq : U64 t.sq
 cl : I64 t.cl
 r : ∀ r ∈ t.rs, U64 r.n
theorem qzu {p : List AV} (h : q79 z2n p) : ∃ (t : Tx) (k1 k2 : Option Nat), p = t.cells k1 k2 /\ t.Arg := by
 simp only [q79, q2j] at h
 obtain ⟨a1, b1, rfl, ⟨a2, b2, rfl, ⟨cl, rfl, hcl⟩, a3, b3, rfl, ⟨sq, rfl, hsq⟩, rfl⟩, a4, b4, rfl, ⟨pl, rfl⟩, a5, b5, rfl, h5, a6, b6, rfl, h6, rfl⟩ := h
 have h5' : q79 (.sl (.st [.str, .int .u64])) a5 := by simpa only [q79, q2j] using h5
 have h6' : q79 (.sl (.st [.str, .str, .bool])) a6 := by simpa only [q79, q2j] using h6
 obtain ⟨rs, k1, rfl, hr, hro⟩ := qde (fun p hp => za5 hp) h5'
 obtain ⟨ws, k2, rfl, hw, hwo⟩ := qde (fun p hp => za6 hp) h6'
 exact ⟨⟨cl, sq, pl, rs, ws⟩, k1, k2, rfl, ⟨hr, hw, fun r h => (hro r h).1, fun r h => (hwo r h).1, fun r h => (hwo r h).2⟩, qe7 hsq, q59 hcl, fun r h => (hro r h).2⟩
structure En.Arg (e : En) : Prop where
 t : e.t.Arg
 ep : U64 e.ep
 sq : U64 e.sq
 kd : I64 e.kd
 cl : I64 e.cl
 co : I64 e.co
structure EnK where
 e : En
 k1 : Option Nat
 k2 : Option Nat
theorem qzv {p : List AV} (h : q79 qzt p) : ∃ x : EnK, p = x.e.cells x.k1 x.k2 /\ x.e.Arg := by
 simp only [q79, q2j] at h
 obtain ⟨a1, b1, rfl, ⟨ep, rfl, hep⟩, a2, b2, rfl, ⟨kd, rfl, hkd⟩, a3, b3, rfl, h3, a4, b4, rfl, ⟨a2, b2, rfl, ⟨cl, rfl, hcl⟩, a3', b3', rfl, ⟨sq, rfl, hsq⟩, rfl⟩, a5, b5, rfl, ⟨co, rfl, hco⟩, rfl⟩ := h
 have h3' : q79 z2n a3 := by simpa only [q79, q2j] using h3
 obtain ⟨t, k1, k2, rfl, ht⟩ := qzu h3'
 exact ⟨⟨⟨ep, kd, t, cl, sq, co⟩, k1, k2⟩, rfl, ht, qe7 hep, qe7 hsq, q59 hkd, q59 hcl, q59 hco⟩
theorem z5t {p : List AV} (h : q79 (.st [.int .i64, .bool]) p) : ∃ m : Int × Bool, p = [.i .i64 m.1, .b m.2] /\ I64 m.1 := by
 simp only [q79, q2j] at h
 obtain ⟨a, b, rfl, ⟨k, rfl, hk⟩, c, d, rfl, ⟨n, rfl⟩, rfl⟩ := h
 exact ⟨⟨k, n⟩, rfl, q59 hk⟩
structure RfQ where
 c : Rf
 k : Option Nat
structure Rf.Arg (c : Rf) : Prop where
 l : Len c.l.length
 ep : U64 c.ep
 sh : I64 c.sh
 ln : I64 c.ln
 m : ∀ m ∈ c.l, I64 m.1
theorem z2o {p : List AV} (h : q79 z3j p) : ∃ x : RfQ, p = x.c.cells x.k /\ x.c.Arg := by
 simp only [q79, q2j] at h
 obtain ⟨a1, b1, rfl, ⟨ep, rfl, hep⟩, a2, b2, rfl, ⟨sh, rfl, hsh⟩, a3, b3, rfl, h3, a4, b4, rfl, ⟨ln, rfl, hln⟩, rfl⟩ := h
 have h3' : q79 (.sl (.st [.int .i64, .bool])) a3 := by simpa only [q79, q2j] using h3
 obtain ⟨l, k, rfl, hl, hm⟩ := qde (fun p hp => z5t hp) h3'
 exact ⟨⟨⟨ep, sh, l, ln⟩, k⟩, rfl, hl, qe7 hep, q59 hsh, q59 hln, hm⟩
structure Vt.Arg (v : Vt) : Prop where
 sl : I64 v.sl
 rd : U64 v.rd
 nd : I64 v.nd
 v : Len v.v.length
theorem z2p {p : List AV} (h : q79 z3k p) : ∃ v : Vt, p = vtC v /\ v.Arg := by
 simp only [q79, q2j] at h
 obtain ⟨a1, b1, rfl, ⟨sl, rfl, hsl⟩, a2, b2, rfl, ⟨a3, b3, rfl, ⟨rd, rfl, hrd⟩, a4, b4, rfl, ⟨nd, rfl, hnd⟩, rfl⟩, a5, b5, rfl, ⟨v, rfl, hv⟩, rfl⟩ := h
 exact ⟨⟨sl, rd, nd, v⟩, rfl, q59 hsl, qe7 hrd, q59 hnd, qag hv⟩
structure Lt.Arg (l : Lt Rf) : Prop where
 fk : I64 l.fk
 fn : I64 l.fn
 tk : I64 l.tk
 tn : I64 l.tn
 k : I64 l.k
 sh : I64 l.sh
 ep : U64 l.ep
 n : I64 l.n
 m : I64 l.m
 nd : I64 l.nd
 br : U64 l.br
 bn : I64 l.bn
 vs : ∀ v ∈ l.vs, v.Arg
 cs : ∀ c ∈ l.cs, c.Arg
 es : ∀ e ∈ l.es, e.Arg
 t : l.t.Arg
 cl : I64 l.cl
 sq : U64 l.sq
 q : U64 l.q
 co : I64 l.co
 wide : l.Wide
theorem qwf {p : List AV} (h : q79 qup p) : ∃ l : Lt Rf, Wks p l.rc /\ l.Arg := by
 simp only [q79] at h
 unfold q2j at h; obtain ⟨p1, r1, rfl, h1, h⟩ := h
 unfold q2j at h; obtain ⟨p2, r2, rfl, h2, h⟩ := h
 unfold q2j at h; obtain ⟨p3, r3, rfl, h3, h⟩ := h
 unfold q2j at h; obtain ⟨p4, r4, rfl, h4, h⟩ := h
 unfold q2j at h; obtain ⟨p5, r5, rfl, h5, h⟩ := h
 unfold q2j at h; obtain ⟨p6, r6, rfl, h6, h⟩ := h
 unfold q2j at h; obtain ⟨p7, r7, rfl, h7, h⟩ := h
 unfold q2j at h; obtain ⟨p8, r8, rfl, h8, h⟩ := h
 unfold q2j at h; obtain ⟨p9, r9, rfl, h9, h⟩ := h
 unfold q2j at h; obtain ⟨p10, r10, rfl, h10, h⟩ := h
 unfold q2j at h; obtain ⟨p11, r11, rfl, h11, h⟩ := h
 unfold q2j at h; obtain ⟨p12, r12, rfl, h12, h⟩ := h
 unfold q2j at h; obtain ⟨p13, r13, rfl, h13, h⟩ := h
 unfold q2j at h; obtain ⟨p14, r14, rfl, h14, h⟩ := h
 unfold q2j at h; obtain ⟨p15, r15, rfl, h15, h⟩ := h
 unfold q2j at h; obtain ⟨p16, r16, rfl, h16, h⟩ := h
 unfold q2j at h; obtain ⟨p17, r17, rfl, h17, h⟩ := h
 unfold q2j at h; obtain ⟨p18, r18, rfl, h18, h⟩ := h
 unfold q2j at h; subst h
 obtain ⟨vs, kv, rfl, hv, hvo⟩ := qde (fun p hp => z2p hp) h11
 obtain ⟨cs, kc, rfl, hc, hco⟩ := qde (fun p hp => z2o hp) h12
 obtain ⟨es, ke, rfl, he, heo⟩ := qde (fun p hp => qzv hp) h13
 obtain ⟨t, k1, k2, rfl, ht⟩ := qzu h14
 simp only [q79, q2j] at h1 h2 h3 h4 h5 h6 h7 h8 h9 h10 h15 h16 h17 h18
 obtain ⟨_, _, rfl, ⟨fk, rfl, hfk⟩, _, _, rfl, ⟨fn, rfl, hfn⟩, rfl⟩ := h1
 obtain ⟨_, _, rfl, ⟨tk, rfl, htk⟩, _, _, rfl, ⟨tn, rfl, htn⟩, rfl⟩ := h2
 obtain ⟨k, rfl, hk⟩ := h3
 obtain ⟨sh, rfl, hsh⟩ := h4
 obtain ⟨ep, rfl, hep⟩ := h5
 obtain ⟨n, rfl, hn⟩ := h6
 obtain ⟨m, rfl, hm⟩ := h7
 obtain ⟨nd, rfl, hnd⟩ := h8
 obtain ⟨fl, rfl⟩ := h9
 obtain ⟨_, _, rfl, ⟨br, rfl, hbr⟩, _, _, rfl, ⟨bn, rfl, hbn⟩, rfl⟩ := h10
 obtain ⟨_, _, rfl, ⟨cl, rfl, hcl⟩, _, _, rfl, ⟨sq, rfl, hsq⟩, rfl⟩ := h15
 obtain ⟨v, rfl, hvl⟩ := h16
 obtain ⟨q, rfl, hq⟩ := h17
 obtain ⟨co, rfl, hco'⟩ := h18
 refine ⟨⟨fk, fn, tk, tn, k, sh, ep, n, m, nd, fl, br, bn, vs, cs.map (·.c), es.map (·.e), t, cl, sq, v, q, co⟩, ?_, q59 hfk, q59 hfn, q59 htk, q59 htn, q59 hk, q59 hsh, qe7 hep, q59 hn, q59 hm, q59 hnd, qe7 hbr, q59 hbn, hvo, ?_, ?_, ht, q59 hcl, qe7 hsq, qe7 hq, q59 hco', ?_⟩
 ·have e1 : Wk (.fz cs.length (cs.flatMap fun x => x.c.cells x.k) kc) (.fz (cs.map (·.c)).length ((cs.map (·.c)).flatMap rfL) none) := by
   rw [List.length_map, List.flatMap_map]
   exact Wk.fzs (Wks.flatMap fun x _ => ⟨.refl _, .refl _, .fz, .refl _, trivial⟩)
  have e2 : Wk (.fz es.length (es.flatMap fun x => x.e.cells x.k1 x.k2) ke) (.fz (es.map (·.e)).length ((es.map (·.e)).flatMap enC) none) := by
   rw [List.length_map, List.flatMap_map]
   exact Wk.fzs (Wks.flatMap fun x _ => ⟨.refl _, .refl _, .refl _, .refl _, .refl _, .fz, .fz, .refl _, .refl _, .refl _, trivial⟩)
  exact ⟨.refl _, .refl _, .refl _, .refl _, .refl _, .refl _, .refl _, .refl _, .refl _, .refl _, .refl _, .refl _, .refl _, .fz, e1, e2, .refl _, .refl _, .refl _, .fz, .fz, .refl _, .refl _, .refl _, .refl _, .refl _, trivial⟩
 ·intro c hc'
  obtain ⟨x, hx, rfl⟩ := List.mem_map.1 hc'
  exact hco x hx
 ·intro c hc'
  obtain ⟨x, hx, rfl⟩ := List.mem_map.1 hc'
  exact heo x hx
 ·exact ⟨hv, by rw [List.length_map]; exact hc, by rw [List.length_map]; exact he, fun v h => (hvo v h).v, fun c hc' => by
   obtain ⟨x, hx, rfl⟩ := List.mem_map.1 hc'
   exact (hco x hx).l, fun c hc' => by
   obtain ⟨x, hx, rfl⟩ := List.mem_map.1 hc'
   exact (heo x hx).t.w, ht.w, qag hvl⟩
end Go.Aw
namespace Go.Aw
open Go
open Go.Proofs.Tryz (prog)
set_option linter.all false
set_option maxHeartbeats 8000000
set_option maxRecDepth 8000
theorem z5u : zT.Fine := ⟨by decide, by decide, fun _ h => (by cases h), fun _ h => (by cases h), fun _ h => (by cases h)⟩
theorem qhp (p : Bs) : (frm p).length = p.length + 7 := by simp [frm, q5z, z3g]
theorem Rf.ours_len (c : Rf) : c.ours.ch.length <= 10 /\ c.ours.fu.length = c.ours.ch.length := by
 simp [Rf.ours, qqm, qqn]; omega
theorem qmk {n m : Nat} (h : n <= m) (hm : m < 9223372036854775808 := by decide) : Len n := by unfold Len; omega
theorem Lt.Arg.fine {l : Lt Rf} (h : l.Arg) : l.ours.Fine := by
 obtain ⟨w1, w2, w3, w4, w5, w6, w7, w8⟩ := h.wide
 refine ⟨by simp [Lt.ours]; omega, by simp [Lt.ours]; omega, by simp [Lt.ours]; omega, fun v hv => w4 v (List.mem_of_mem_take hv), fun c hc => ?_, fun e he => ?_, w7.our, w8⟩
 ·obtain ⟨r, hr, rfl⟩ := List.mem_map.1 hc
  have := r.ours_len
  exact ⟨by omega, this.2⟩
 ·obtain ⟨r, hr, rfl⟩ := List.mem_map.1 he
  exact (w6 r (List.mem_of_mem_take hr)).our
theorem Lt.Fine.small {l : Lt Cf} (h : l.Fine) : l.Small := by
 obtain ⟨w1, w2, w3, w4, w5, w6, w7, w8⟩ := h
 exact ⟨qmk w1, qmk w2, qmk w3, qmk (Nat.le_of_lt w7.r), qmk (Nat.le_of_lt w7.w), fun c hc => ⟨qmk (w5 c hc).1, by rw [(w5 c hc).2]; exact qmk (w5 c hc).1⟩, fun e he => w6 e he⟩
theorem Lt.Arg.rng {l : Lt Rf} (h : l.Arg) : l.ours.Rng := by
 refine ⟨h.ep, h.br, h.q, h.sq.2, h.t.sq.2, fun r hr => h.t.r r (List.mem_of_mem_take hr), fun v hv => (h.vs v (List.mem_of_mem_take hv)).rd, fun c hc => ?_, fun e he => ?_⟩
 ·obtain ⟨r, hr, rfl⟩ := List.mem_map.1 hc
  exact ⟨(h.cs r (List.mem_of_mem_take hr)).ep, qmk r.ours_len.1⟩
 ·obtain ⟨r, hr, rfl⟩ := List.mem_map.1 he
  have a := h.es r (List.mem_of_mem_take hr)
  exact ⟨a.t.w.our, a.ep, a.t.sq.2, fun r hr => a.t.r r (List.mem_of_mem_take hr), a.sq.2⟩
end Go.Aw
namespace Go.Aw
open Go
open Go.Proofs.Tryz (prog)
set_option linter.all false
set_option maxHeartbeats 4000000
theorem za7 (a b : Nat) (hb : b < 256) : a * 256 ||| b = a * 256 + b := by
 have := Nat.shiftLeft_add_eq_or_of_lt (a := a) (i := 8) (b := b) (by omega)
 rw [Nat.shiftLeft_eq] at this
 exact this.symm
theorem zf5 (a b : UInt8) : IntKind.i64.wrap ((BitVec.ofInt IntKind.i64.bits (IntKind.i64.wrap ((a.toNat : Int) * 2 ^ (min 8 64 : Nat))) ||| BitVec.ofInt IntKind.i64.bits (b.toNat : Int)).toNat : Int) = ((a.toNat * 256 + b.toNat : Nat) : Int) := by
 have ha := a.toNat_lt
 have hb := b.toNat_lt
 have e : IntKind.i64.wrap ((a.toNat : Int) * 2 ^ (min 8 64 : Nat)) = ((a.toNat * 256 : Nat) : Int) := by
  show IntKind.i64.wrap ((a.toNat : Int) * 256) = _
  rw [q2d (by unfold I64; omega)]; omega
 rw [e]
 show IntKind.i64.wrap (((BitVec.ofInt 64 ((a.toNat * 256 : Nat) : Int) ||| BitVec.ofInt 64 (b.toNat : Int)) : BitVec 64).toNat : Int) = _
 rw [BitVec.ofInt_natCast, BitVec.ofInt_natCast, BitVec.toNat_or, BitVec.toNat_ofNat, BitVec.toNat_ofNat, Nat.mod_eq_of_lt (by omega), Nat.mod_eq_of_lt (by omega), za7 _ _ (by omega)]
 rw [q2d (by unfold I64; omega)]
def bAt (b : List UInt8) (k : Nat) : UInt8 := (b[k]?).getD 0
def qr5 (b : List UInt8) : Nat := (bAt b 1).toNat * 256 + (bAt b 2).toNat
def nxE (b : List UInt8) : Option (List UInt8 × Int) :=
 if b = [] then some ([101, 110, 100], 6) else if bAt b 0 ≠ 197 then some ([109, 97, 114, 107], 3) else if b.length < 3 then some ([104, 101, 97, 100], 4) else
 if qr5 b = 0 then some ([115, 105, 122, 101], 3) else if b.length < qr5 b + 7 then some ([114, 101, 99, 111, 114, 100], 4) else
 if qd2 ((b.take (qr5 b + 7)).drop 1) = false then some ([115, 117, 109], 5) else none
def qh2 (b : List UInt8) : List UInt8 := (b.take (qr5 b + 3)).drop 3
def nxR (b : List UInt8) : AV := match nxE b with
 | some (w, e) => .tup [.fz 0 [] (some 0), .i .i64 0, q4z w (qla e)]
 | none => .tup [bts (qh2 b) none, .i .i64 (qr5 b + 7 : Nat), .nilifc]
theorem ze6 : decide (((197 : UInt8).toNat : Int) = 197) = true := by decide
theorem z5v (b : List UInt8) (cap : Option Nat) (hl : b.length <= 1000000000) : PCalls prog q96 [bts b cap] (nxR b) := by
 refine K5 Q9 qq5 (by simp) fun T => ?_
 have fN : ∀ (w : List UInt8) (e : Int), e ≠ 0 -> PCalls prog q0c [.s w, .i .i64 e] (q4z w (qla e)) := fun w e h => by
  have := qhm w e
  rwa [if_neg h] at this
 unfold qif
 by_cases h0 : b = []
 ·have e : nxE b = some ([101, 110, 100], 6) := by unfold nxE; rw [if_pos h0]
  have d0 : decide ((b.length : Int) = 0) = true := decide_eq_true (by rw [h0]; rfl)
  simp -implicitDefEqProofs -dsimp only [go_sem, seval, d0, ↓J0 _ _ I0]
  refine cpn (fN _ 6 (by decide)) ?_
  simp -implicitDefEqProofs -dsimp only [go_sem, seval, q4z]
  rw [nxR, e]
  exact J9 rfl
 have hp : 0 < b.length := List.length_pos_iff.2 h0
 have d0 : decide ((b.length : Int) = 0) = false := decide_eq_false (by omega)
 obtain ⟨x, hx⟩ : ∃ x, b[0]? = some x := ⟨_, List.getElem?_eq_getElem hp⟩
 have hx' := qwd hx
 rw [List.drop_zero] at hx'
 have hp' : (0 : Int) < b.length := by omega
 have ex : bAt b 0 = x := by unfold bAt; rw [hx]; rfl
 by_cases h1 : x = 197
 ·subst h1
  by_cases h3 : b.length < 3
  ·have e : nxE b = some ([104, 101, 97, 100], 4) := by unfold nxE; rw [if_neg h0, if_neg (by rw [ex]; simp), if_pos h3]
   have d3 : decide ((b.length : Int) < 3) = true := decide_eq_true (by omega)
   simp -implicitDefEqProofs -dsimp only [go_sem, seval, d0, bts, hp', Int.le_refl, Int.toNat_zero, Nat.zero_mul, List.drop_zero, hx', d3, ze6, ↓J0 _ _ I0]
   refine cpn (fN _ 4 (by decide)) ?_
   simp -implicitDefEqProofs -dsimp only [go_sem, seval, q4z]
   rw [nxR, e]
   exact J9 rfl
  have d3 : decide ((b.length : Int) < 3) = false := decide_eq_false (by omega)
  obtain ⟨y, hy⟩ : ∃ y, b[1]? = some y := ⟨_, List.getElem?_eq_getElem (by omega)⟩
  obtain ⟨z, hz⟩ : ∃ z, b[2]? = some z := ⟨_, List.getElem?_eq_getElem (by omega)⟩
  have hy' := qwd hy
  have hz' := qwd hz
  have ey : bAt b 1 = y := by unfold bAt; rw [hy]; rfl
  have ez : bAt b 2 = z := by unfold bAt; rw [hz]; rfl
  have l1 : (1 : Int) < b.length := by omega
  have l2 : (2 : Int) < b.length := by omega
  have hby := y.toNat_lt
  have hbz := z.toNat_lt
  have c64 : ∀ u : UInt8, IntKind.i64.wrap (u.toNat : Int) = u.toNat := fun u => q2d (by have := u.toNat_lt; unfold I64; omega)
  have es : qr5 b = y.toNat * 256 + z.toNat := by unfold qr5; rw [ey, ez]
  obtain ⟨n, hn⟩ : ∃ n : Nat, n = y.toNat * 256 + z.toNat := ⟨_, rfl⟩
  have hw := zf5 y z
  rw [<- hn] at hw es
  have hn6 : n < 65536 := by omega
  have w3 : IntKind.i64.wrap (3 + (n : Int)) = ((n + 3 : Nat) : Int) := (q2d (by unfold I64; omega)).trans (by omega)
  have w7 : IntKind.i64.wrap (((n + 3 : Nat) : Int) + 4) = ((n + 7 : Nat) : Int) := (q2d (by unfold I64; omega)).trans (by omega)
  simp -implicitDefEqProofs -dsimp only [go_sem, seval, d0, bts, hp', Int.le_refl, Int.toNat_zero, Nat.zero_mul, List.drop_zero, hx', d3, ze6, l1, l2, show (1 : Int).toNat = 1 from rfl, show (2 : Int).toNat = 2 from rfl, Nat.mul_one, hy', hz', c64, hw, w3, w7]
  have nE : nxE b = (if qr5 b = 0 then some ([115, 105, 122, 101], 3) else if b.length < qr5 b + 7 then some ([114, 101, 99, 111, 114, 100], 4) else
    if qd2 ((b.take (qr5 b + 7)).drop 1) = false then some ([115, 117, 109], 5) else none) := by
   unfold nxE; rw [if_neg h0, if_neg (by rw [ex]; simp), if_neg h3]
  rw [es] at nE
  by_cases hz0 : n = 0
  ·rw [if_pos hz0] at nE
   have d4 : decide ((n : Int) = 0) = true := decide_eq_true (by omega)
   simp -implicitDefEqProofs -dsimp only [go_sem, seval, d4, ↓J0 _ _ I0]
   refine cpn (fN _ 3 (by decide)) ?_
   simp -implicitDefEqProofs -dsimp only [go_sem, seval, q4z]
   rw [nxR, nE]
   exact J9 rfl
  rw [if_neg hz0] at nE
  have d4 : decide ((n : Int) = 0) = false := decide_eq_false (by omega)
  by_cases h7 : b.length < n + 7
  ·rw [if_pos h7] at nE
   have d5 : decide ((b.length : Int) < ((n + 7 : Nat) : Int)) = true := decide_eq_true (by omega)
   simp -implicitDefEqProofs -dsimp only [go_sem, seval, d4, d5, ↓J0 _ _ I0]
   refine cpn (fN _ 4 (by decide)) ?_
   simp -implicitDefEqProofs -dsimp only [go_sem, seval, q4z]
   rw [nxR, nE]
   exact J9 rfl
  rw [if_neg h7] at nE
  have d5 : decide ((b.length : Int) < ((n + 7 : Nat) : Int)) = false := decide_eq_false (by omega)
  have s1 : (1 : Int) <= ((n + 7 : Nat) : Int) := by omega
  have s2 : ((n + 7 : Nat) : Int) <= b.length := by omega
  have s3 : n + 7 <= b.length := by omega
  have e6 : ((b.drop 1).take (n + 7 - 1)).length = n + 7 - 1 := by rw [List.length_take, List.length_drop]; omega
  have c1 := z2i ((b.drop 1).take (n + 7 - 1)) (Option.map (fun x => x - 1) cap) (by omega)
  have e7 : (b.take (n + 7)).drop 1 = (b.drop 1).take (n + 7 - 1) := by rw [List.drop_take]
  rw [e7] at nE
  simp only [bts, e6] at c1
  simp -implicitDefEqProofs -dsimp only [go_sem, seval, d4, d5, s1, s2, s3, bts, Int.toNat_natCast, Int.natCast_nonneg, Nat.mul_one, q78, q9q, show (1 : Int).toNat = 1 from rfl, Nat.zero_le, ↓J0 _ _ qsd]
  refine cpn c1 ?_
  rcases hwh : qd2 ((b.drop 1).take (n + 7 - 1)) with _ | _
  ·rw [if_pos hwh] at nE
   simp -implicitDefEqProofs -dsimp only [go_sem, seval, Bool.not_false, ↓J0 _ _ I0]
   refine cpn (fN _ 5 (by decide)) ?_
   simp -implicitDefEqProofs -dsimp only [go_sem, seval, q4z]
   rw [nxR, nE]
   exact J9 rfl
  rw [if_neg (by rw [hwh]; simp)] at nE
  have s4 : ((3 : Int) <= ((n + 3 : Nat) : Int)) := by omega
  have s5 : n + 3 <= b.length := by omega
  have e8 : ((b.drop 3).take (n + 3 - 3)).length = n + 3 - 3 := by rw [List.length_take, List.length_drop]; omega
  have c2 := z2d ((b.drop 3).take (n + 3 - 3)) (Option.map (fun x => x - 3) cap) (by omega)
  simp only [bts, e8] at c2
  simp -implicitDefEqProofs -dsimp only [go_sem, seval, Bool.not_true, w3, s4, s5, bts, Int.toNat_natCast, Int.natCast_nonneg, Nat.mul_one, q78, q9q, show (3 : Int).toNat = 3 from rfl, Nat.zero_le, ↓J0 _ _ Z4]
  refine cpn c2 ?_
  simp -implicitDefEqProofs -dsimp only [go_sem, seval]
  have e9 : qh2 b = (b.drop 3).take (n + 3 - 3) := by unfold qh2; rw [es, List.drop_take]
  rw [nxR, nE, es]
  simp only
  rw [e9, bts, e8]
  exact J9 rfl
 ·have e : nxE b = some ([109, 97, 114, 107], 3) := by unfold nxE; rw [if_neg h0, if_pos (by rw [ex]; exact h1)]
  have d1 : decide ((x.toNat : Int) = 197) = false := decide_eq_false (fun h => h1 (UInt8.toNat_inj.1 (by show x.toNat = 197; omega)))
  simp -implicitDefEqProofs -dsimp only [go_sem, seval, d0, bts, hp', Int.le_refl, Int.toNat_zero, Nat.zero_mul, List.drop_zero, hx', d1, ↓J0 _ _ I0]
  refine cpn (fN _ 3 (by decide)) ?_
  simp -implicitDefEqProofs -dsimp only [go_sem, seval, q4z]
  rw [nxR, e]
  exact J9 rfl
end Go.Aw
namespace Go.Aw
open Go
open Go.Proofs.Tryz (prog)
set_option linter.all false
set_option maxHeartbeats 4000000
def zdp (p : List UInt8 × Int) : Er := .flt p.1 (.num p.2)
def opE (b : List UInt8) : Option Er := match nxE b with
 | some p => some (.flt [111, 112, 101, 110] (zdp p))
 | none => if qr5 b + 7 < b.length then some (.flt [98, 101, 104, 105, 110, 100] (.num 3)) else none
def opR (b : List UInt8) : AV := match opE b with
 | some e => .tup [.fz 0 [] (some 0), e.av]
 | none => .tup [bts (qh2 b) none, .nilifc]
theorem z5w (b : List UInt8) (cap : Option Nat) (hl : b.length <= 1000000000) : PCalls prog q95 [bts b cap] (opR b) := by
 refine K5 Q9 qq1 (by simp) fun T => ?_
 have h := z5v b cap hl
 unfold nxR at h
 unfold qib opR opE
 rcases he : nxE b with _ | ⟨w, e⟩
 ·rw [he] at h
  simp only at h
  simp -implicitDefEqProofs -dsimp only [go_sem, seval, ↓J0 _ _ qig]
  refine cpn h ?_
  have hn := qhm [98, 101, 104, 105, 110, 100] 3
  rw [if_neg (by decide)] at hn
  by_cases h7 : qr5 b + 7 < b.length
  ·have d : decide (((qr5 b + 7 : Nat) : Int) < b.length) = true := decide_eq_true (by omega)
   simp -implicitDefEqProofs -dsimp only [go_sem, seval, qmm, d, ↓J0 _ _ I0]
   refine cpn hn ?_
   simp -implicitDefEqProofs -dsimp only [go_sem, seval, q4z]
   rw [if_pos h7]
   exact J9 rfl
  ·have d : decide (((qr5 b + 7 : Nat) : Int) < b.length) = false := decide_eq_false (by omega)
   simp -implicitDefEqProofs -dsimp only [go_sem, seval, qmm, d]
   rw [if_neg h7]
   exact J9 rfl
 ·rw [he] at h
  have hi := z3e [111, 112, 101, 110] (zdp (w, e))
  simp only [zdp, Er.av, q4z] at h hi
  simp -implicitDefEqProofs -dsimp only [go_sem, seval, ↓J0 _ _ qig]
  refine cpn h ?_
  simp -implicitDefEqProofs -dsimp only [go_sem, seval, qmm, q4z, ↓J0 _ _ qn9]
  refine cpn hi ?_
  simp -implicitDefEqProofs -dsimp only [go_sem, seval]
  exact J9 rfl
def z5x (b : List UInt8) : AV := match opE b with
 | some e => .tup [.fz 0 [] (some 0), .i .i64 e.code]
 | none => .tup [bts (qh2 b) none, .i .i64 0]
theorem z5y (b : List UInt8) (cap : Option Nat) (hl : b.length <= 1000000000) : PCalls prog q94 [bts b cap] (z5x b) := by
 refine K5 Q9 qpv (by simp) fun T => ?_
 have h := z5w b cap hl
 have hc := qsy (opE b)
 unfold opR at h
 unfold qi6 z5x
 rcases he : opE b with _ | e
 ·rw [he] at h hc
  simp only [qp3, qbp] at h hc
  simp -implicitDefEqProofs -dsimp only [go_sem, seval, ↓J0 _ _ qic]
  refine cpn h ?_
  simp -implicitDefEqProofs -dsimp only [go_sem, seval, ↓J0 _ _ q7h]
  refine cpn hc ?_
  simp -implicitDefEqProofs -dsimp only [go_sem, seval]
  exact J9 rfl
 ·rw [he] at h hc
  obtain ⟨t, v, ev⟩ := e.ifc
  simp only [qp3, qbp, ev] at h hc
  simp -implicitDefEqProofs -dsimp only [go_sem, seval, ↓J0 _ _ qic]
  refine cpn h ?_
  simp -implicitDefEqProofs -dsimp only [go_sem, seval, ↓J0 _ _ q7h]
  refine cpn hc ?_
  simp -implicitDefEqProofs -dsimp only [go_sem, seval]
  exact J9 rfl
end Go.Aw
