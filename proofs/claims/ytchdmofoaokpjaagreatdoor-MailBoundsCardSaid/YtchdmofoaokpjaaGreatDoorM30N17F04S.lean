import Derived.Test.YtchdmofoaokpjaaGreatDoorM30N17M17B
import Derived.Test.YtchdmofoaokpjaaGreatDoorAwD
import Derived.Test.YtchdmofoaokpjaaGreatDoorM30N17M17S
import Derived.Test.YtchdmofoaokpjaaGreatDoorM30N17F04N
namespace Go.Aw
open Go
set_option linter.all false
set_option maxHeartbeats 4000000
def U64 (n : Int) : Prop := 0 <= n /\ n < 18446744073709551616
structure Tx.Arg (t : Tx) : Prop where
 w : t.Wide
 sq : U64 t.sq
 cl : I64 t.cl
 r : ∀ r ∈ t.rs, U64 r.n
structure En.Arg (e : En) : Prop where
 t : e.t.Arg
 ep : U64 e.ep
 sq : U64 e.sq
 kd : I64 e.kd
 cl : I64 e.cl
 co : I64 e.co
structure EnK where
 e : En
 k1 : Option Nat
 k2 : Option Nat
structure RfQ where
 c : Rf
 k : Option Nat
structure Rf.Arg (c : Rf) : Prop where
 l : Len c.l.length
 ep : U64 c.ep
 sh : I64 c.sh
 ln : I64 c.ln
 m : ∀ m ∈ c.l, I64 m.1
structure Vt.Arg (v : Vt) : Prop where
 sl : I64 v.sl
 rd : U64 v.rd
 nd : I64 v.nd
 v : Len v.v.length
structure Lt.Arg (l : Lt Rf) : Prop where
 fk : I64 l.fk
 fn : I64 l.fn
 tk : I64 l.tk
 tn : I64 l.tn
 k : I64 l.k
 sh : I64 l.sh
 ep : U64 l.ep
 n : I64 l.n
 m : I64 l.m
 nd : I64 l.nd
 br : U64 l.br
 bn : I64 l.bn
 vs : ∀ v ∈ l.vs, v.Arg
 cs : ∀ c ∈ l.cs, c.Arg
 es : ∀ e ∈ l.es, e.Arg
 t : l.t.Arg
 cl : I64 l.cl
 sq : U64 l.sq
 q : U64 l.q
 co : I64 l.co
 wide : l.Wide
end Go.Aw
namespace Go.Aw
open Go
open Go.Proofs.Tryz (prog)
set_option linter.all false
set_option maxHeartbeats 8000000
set_option maxRecDepth 8000
theorem z3w : zT.Fine := ⟨by decide, by decide, fun _ h => (by cases h), fun _ h => (by cases h), fun _ h => (by cases h)⟩
theorem qga (p : Bs) : (frm p).length = p.length + 7 := by simp [frm, q5l, z1n]
theorem Rf.ours_len (c : Rf) : c.ours.ch.length <= 10 /\ c.ours.fu.length = c.ours.ch.length := by
 simp [Rf.ours, z7i, z7j]; omega
theorem qla {n m : Nat} (h : n <= m) (hm : m < 9223372036854775808 := by decide) : Len n := by unfold Len; omega
theorem Lt.Arg.fine {l : Lt Rf} (h : l.Arg) : l.ours.Fine := by
 obtain ⟨w1, w2, w3, w4, w5, w6, w7, w8⟩ := h.wide
 refine ⟨by simp [Lt.ours]; omega, by simp [Lt.ours]; omega, by simp [Lt.ours]; omega, fun v hv => w4 v (List.mem_of_mem_take hv), fun c hc => ?_, fun e he => ?_, w7.our, w8⟩
 ·obtain ⟨r, hr, rfl⟩ := List.mem_map.1 hc
  have := r.ours_len
  exact ⟨by omega, this.2⟩
 ·obtain ⟨r, hr, rfl⟩ := List.mem_map.1 he
  exact (w6 r (List.mem_of_mem_take hr)).our
theorem Lt.Fine.small {l : Lt Cf} (h : l.Fine) : l.Small := by
 obtain ⟨w1, w2, w3, w4, w5, w6, w7, w8⟩ := h
 exact ⟨qla w1, qla w2, qla w3, qla (Nat.le_of_lt w7.r), qla (Nat.le_of_lt w7.w), fun c hc => ⟨qla (w5 c hc).1, by rw [(w5 c hc).2]; exact qla (w5 c hc).1⟩, fun e he => w6 e he⟩
theorem Lt.Arg.rng {l : Lt Rf} (h : l.Arg) : l.ours.Rng := by
 refine ⟨h.ep, h.br, h.q, h.sq.2, h.t.sq.2, fun r hr => h.t.r r (List.mem_of_mem_take hr), fun v hv => (h.vs v (List.mem_of_mem_take hv)).rd, fun c hc => ?_, fun e he => ?_⟩
 ·obtain ⟨r, hr, rfl⟩ := List.mem_map.1 hc
  exact ⟨(h.cs r (List.mem_of_mem_take hr)).ep, qla r.ours_len.1⟩
 ·obtain ⟨r, hr, rfl⟩ := List.mem_map.1 he
  have a := h.es r (List.mem_of_mem_take hr)
  exact ⟨a.t.w.our, a.ep, a.t.sq.2, fun r hr => a.t.r r (List.mem_of_mem_take hr), a.sq.2⟩
end Go.Aw
namespace Go.Aw
open Go
open Go.Proofs.Tryz (prog)
set_option linter.all false
set_option maxHeartbeats 4000000
theorem z87 (a b : Nat) (hb : b < 256) : a * 256 ||| b = a * 256 + b := by
 have := Nat.shiftLeft_add_eq_or_of_lt (a := a) (i := 8) (b := b) (by omega)
 rw [Nat.shiftLeft_eq] at this
 exact this.symm
theorem zcv (a b : UInt8) : IntKind.i64.wrap ((BitVec.ofInt IntKind.i64.bits (IntKind.i64.wrap ((a.toNat : Int) * 2 ^ (min 8 64 : Nat))) ||| BitVec.ofInt IntKind.i64.bits (b.toNat : Int)).toNat : Int) = ((a.toNat * 256 + b.toNat : Nat) : Int) := by
 have ha := a.toNat_lt
 have hb := b.toNat_lt
 have e : IntKind.i64.wrap ((a.toNat : Int) * 2 ^ (min 8 64 : Nat)) = ((a.toNat * 256 : Nat) : Int) := by
  show IntKind.i64.wrap ((a.toNat : Int) * 256) = _
  rw [q1m (by unfold I64; omega)]; omega
 rw [e]
 show IntKind.i64.wrap (((BitVec.ofInt 64 ((a.toNat * 256 : Nat) : Int) ||| BitVec.ofInt 64 (b.toNat : Int)) : BitVec 64).toNat : Int) = _
 rw [BitVec.ofInt_natCast, BitVec.ofInt_natCast, BitVec.toNat_or, BitVec.toNat_ofNat, BitVec.toNat_ofNat, Nat.mod_eq_of_lt (by omega), Nat.mod_eq_of_lt (by omega), z87 _ _ (by omega)]
 rw [q1m (by unfold I64; omega)]
def bAt (b : List UInt8) (k : Nat) : UInt8 := (b[k]?).getD 0
def qpv (b : List UInt8) : Nat := (bAt b 1).toNat * 256 + (bAt b 2).toNat
def nxE (b : List UInt8) : Option (List UInt8 × Int) :=
 if b = [] then some ([101, 110, 100], 6) else if bAt b 0 ≠ 197 then some ([109, 97, 114, 107], 3) else if b.length < 3 then some ([104, 101, 97, 100], 4) else
 if qpv b = 0 then some ([115, 105, 122, 101], 3) else if b.length < qpv b + 7 then some ([114, 101, 99, 111, 114, 100], 4) else
 if qc2 ((b.take (qpv b + 7)).drop 1) = false then some ([115, 117, 109], 5) else none
def qfn (b : List UInt8) : List UInt8 := (b.take (qpv b + 3)).drop 3
def nxR (b : List UInt8) : AV := match nxE b with
 | some (w, e) => .tup [.fz 0 [] (some 0), .i .i64 0, q4k w (qk3 e)]
 | none => .tup [bts (qfn b) none, .i .i64 (qpv b + 7 : Nat), .nilifc]
theorem zbw : decide (((197 : UInt8).toNat : Int) = 197) = true := by decide
theorem z3x (b : List UInt8) (cap : Option Nat) (hl : b.length <= 1000000000) : PCalls prog q8c [bts b cap] (nxR b) := by
 refine K6 U1 qoy (by simp) fun T => ?_
 have fN : ∀ (w : List UInt8) (e : Int), e ≠ 0 -> PCalls prog q0b [.s w, .i .i64 e] (q4k w (qk3 e)) := fun w e h => by
  have := qg7 w e
  rwa [if_neg h] at this
 unfold qh0
 by_cases h0 : b = []
 ·have e : nxE b = some ([101, 110, 100], 6) := by unfold nxE; rw [if_pos h0]
  have d0 : decide ((b.length : Int) = 0) = true := decide_eq_true (by rw [h0]; rfl)
  simp -implicitDefEqProofs -dsimp only [go_sem, seval, d0, ↓J0 _ _ G9]
  refine cpn (fN _ 6 (by decide)) ?_
  simp -implicitDefEqProofs -dsimp only [go_sem, seval, q4k]
  rw [nxR, e]
  exact J9 rfl
 have hp : 0 < b.length := List.length_pos_iff.2 h0
 have d0 : decide ((b.length : Int) = 0) = false := decide_eq_false (by omega)
 obtain ⟨x, hx⟩ : ∃ x, b[0]? = some x := ⟨_, List.getElem?_eq_getElem hp⟩
 have hx' := quw hx
 rw [List.drop_zero] at hx'
 have hp' : (0 : Int) < b.length := by omega
 have ex : bAt b 0 = x := by unfold bAt; rw [hx]; rfl
 by_cases h1 : x = 197
 ·subst h1
  by_cases h3 : b.length < 3
  ·have e : nxE b = some ([104, 101, 97, 100], 4) := by unfold nxE; rw [if_neg h0, if_neg (by rw [ex]; simp), if_pos h3]
   have d3 : decide ((b.length : Int) < 3) = true := decide_eq_true (by omega)
   simp -implicitDefEqProofs -dsimp only [go_sem, seval, d0, bts, hp', Int.le_refl, Int.toNat_zero, Nat.zero_mul, List.drop_zero, hx', d3, zbw, ↓J0 _ _ G9]
   refine cpn (fN _ 4 (by decide)) ?_
   simp -implicitDefEqProofs -dsimp only [go_sem, seval, q4k]
   rw [nxR, e]
   exact J9 rfl
  have d3 : decide ((b.length : Int) < 3) = false := decide_eq_false (by omega)
  obtain ⟨y, hy⟩ : ∃ y, b[1]? = some y := ⟨_, List.getElem?_eq_getElem (by omega)⟩
  obtain ⟨z, hz⟩ : ∃ z, b[2]? = some z := ⟨_, List.getElem?_eq_getElem (by omega)⟩
  have hy' := quw hy
  have hz' := quw hz
  have ey : bAt b 1 = y := by unfold bAt; rw [hy]; rfl
  have ez : bAt b 2 = z := by unfold bAt; rw [hz]; rfl
  have l1 : (1 : Int) < b.length := by omega
  have l2 : (2 : Int) < b.length := by omega
  have hby := y.toNat_lt
  have hbz := z.toNat_lt
  have c64 : ∀ u : UInt8, IntKind.i64.wrap (u.toNat : Int) = u.toNat := fun u => q1m (by have := u.toNat_lt; unfold I64; omega)
  have es : qpv b = y.toNat * 256 + z.toNat := by unfold qpv; rw [ey, ez]
  obtain ⟨n, hn⟩ : ∃ n : Nat, n = y.toNat * 256 + z.toNat := ⟨_, rfl⟩
  have hw := zcv y z
  rw [<- hn] at hw es
  have hn6 : n < 65536 := by omega
  have w3 : IntKind.i64.wrap (3 + (n : Int)) = ((n + 3 : Nat) : Int) := (q1m (by unfold I64; omega)).trans (by omega)
  have w7 : IntKind.i64.wrap (((n + 3 : Nat) : Int) + 4) = ((n + 7 : Nat) : Int) := (q1m (by unfold I64; omega)).trans (by omega)
  simp -implicitDefEqProofs -dsimp only [go_sem, seval, d0, bts, hp', Int.le_refl, Int.toNat_zero, Nat.zero_mul, List.drop_zero, hx', d3, zbw, l1, l2, show (1 : Int).toNat = 1 from rfl, show (2 : Int).toNat = 2 from rfl, Nat.mul_one, hy', hz', c64, hw, w3, w7]
  have nE : nxE b = (if qpv b = 0 then some ([115, 105, 122, 101], 3) else if b.length < qpv b + 7 then some ([114, 101, 99, 111, 114, 100], 4) else
    if qc2 ((b.take (qpv b + 7)).drop 1) = false then some ([115, 117, 109], 5) else none) := by
   unfold nxE; rw [if_neg h0, if_neg (by rw [ex]; simp), if_neg h3]
  rw [es] at nE
  by_cases hz0 : n = 0
  ·rw [if_pos hz0] at nE
   have d4 : decide ((n : Int) = 0) = true := decide_eq_true (by omega)
   simp -implicitDefEqProofs -dsimp only [go_sem, seval, d4, ↓J0 _ _ G9]
   refine cpn (fN _ 3 (by decide)) ?_
   simp -implicitDefEqProofs -dsimp only [go_sem, seval, q4k]
   rw [nxR, nE]
   exact J9 rfl
  rw [if_neg hz0] at nE
  have d4 : decide ((n : Int) = 0) = false := decide_eq_false (by omega)
  by_cases h7 : b.length < n + 7
  ·rw [if_pos h7] at nE
   have d5 : decide ((b.length : Int) < ((n + 7 : Nat) : Int)) = true := decide_eq_true (by omega)
   simp -implicitDefEqProofs -dsimp only [go_sem, seval, d4, d5, ↓J0 _ _ G9]
   refine cpn (fN _ 4 (by decide)) ?_
   simp -implicitDefEqProofs -dsimp only [go_sem, seval, q4k]
   rw [nxR, nE]
   exact J9 rfl
  rw [if_neg h7] at nE
  have d5 : decide ((b.length : Int) < ((n + 7 : Nat) : Int)) = false := decide_eq_false (by omega)
  have s1 : (1 : Int) <= ((n + 7 : Nat) : Int) := by omega
  have s2 : ((n + 7 : Nat) : Int) <= b.length := by omega
  have s3 : n + 7 <= b.length := by omega
  have e6 : ((b.drop 1).take (n + 7 - 1)).length = n + 7 - 1 := by rw [List.length_take, List.length_drop]; omega
  have c1 := z0q ((b.drop 1).take (n + 7 - 1)) (Option.map (fun x => x - 1) cap) (by omega)
  have e7 : (b.take (n + 7)).drop 1 = (b.drop 1).take (n + 7 - 1) := by rw [List.drop_take]
  rw [e7] at nE
  simp only [bts, e6] at c1
  simp -implicitDefEqProofs -dsimp only [go_sem, seval, d4, d5, s1, s2, s3, bts, Int.toNat_natCast, Int.natCast_nonneg, Nat.mul_one, q6p, q8y, show (1 : Int).toNat = 1 from rfl, Nat.zero_le, ↓J0 _ _ qr3]
  refine cpn c1 ?_
  rcases hwh : qc2 ((b.drop 1).take (n + 7 - 1)) with _ | _
  ·rw [if_pos hwh] at nE
   simp -implicitDefEqProofs -dsimp only [go_sem, seval, Bool.not_false, ↓J0 _ _ G9]
   refine cpn (fN _ 5 (by decide)) ?_
   simp -implicitDefEqProofs -dsimp only [go_sem, seval, q4k]
   rw [nxR, nE]
   exact J9 rfl
  rw [if_neg (by rw [hwh]; simp)] at nE
  have s4 : ((3 : Int) <= ((n + 3 : Nat) : Int)) := by omega
  have s5 : n + 3 <= b.length := by omega
  have e8 : ((b.drop 3).take (n + 3 - 3)).length = n + 3 - 3 := by rw [List.length_take, List.length_drop]; omega
  have c2 := z0l ((b.drop 3).take (n + 3 - 3)) (Option.map (fun x => x - 3) cap) (by omega)
  simp only [bts, e8] at c2
  simp -implicitDefEqProofs -dsimp only [go_sem, seval, Bool.not_true, w3, s4, s5, bts, Int.toNat_natCast, Int.natCast_nonneg, Nat.mul_one, q6p, q8y, show (3 : Int).toNat = 3 from rfl, Nat.zero_le, ↓J0 _ _ Z1]
  refine cpn c2 ?_
  simp -implicitDefEqProofs -dsimp only [go_sem, seval]
  have e9 : qfn b = (b.drop 3).take (n + 3 - 3) := by unfold qfn; rw [es, List.drop_take]
  rw [nxR, nE, es]
  simp only
  rw [e9, bts, e8]
  exact J9 rfl
 ·have e : nxE b = some ([109, 97, 114, 107], 3) := by unfold nxE; rw [if_neg h0, if_pos (by rw [ex]; exact h1)]
  have d1 : decide ((x.toNat : Int) = 197) = false := decide_eq_false (fun h => h1 (UInt8.toNat_inj.1 (by show x.toNat = 197; omega)))
  simp -implicitDefEqProofs -dsimp only [go_sem, seval, d0, bts, hp', Int.le_refl, Int.toNat_zero, Nat.zero_mul, List.drop_zero, hx', d1, ↓J0 _ _ G9]
  refine cpn (fN _ 3 (by decide)) ?_
  simp -implicitDefEqProofs -dsimp only [go_sem, seval, q4k]
  rw [nxR, e]
  exact J9 rfl
end Go.Aw
namespace Go.Aw
open Go
open Go.Proofs.Tryz (prog)
set_option linter.all false
set_option maxHeartbeats 4000000
def zbf (p : List UInt8 × Int) : Er := .flt p.1 (.num p.2)
def opE (b : List UInt8) : Option Er := match nxE b with
 | some p => some (.flt [111, 112, 101, 110] (zbf p))
 | none => if qpv b + 7 < b.length then some (.flt [98, 101, 104, 105, 110, 100] (.num 3)) else none
def opR (b : List UInt8) : AV := match opE b with
 | some e => .tup [.fz 0 [] (some 0), e.av]
 | none => .tup [bts (qfn b) none, .nilifc]
theorem z3y (b : List UInt8) (cap : Option Nat) (hl : b.length <= 1000000000) : PCalls prog q8b [bts b cap] (opR b) := by
 refine K6 U1 qou (by simp) fun T => ?_
 have h := z3x b cap hl
 unfold nxR at h
 unfold qgw opR opE
 rcases he : nxE b with _ | ⟨w, e⟩
 ·rw [he] at h
  simp only at h
  simp -implicitDefEqProofs -dsimp only [go_sem, seval, ↓J0 _ _ qh1]
  refine cpn h ?_
  have hn := qg7 [98, 101, 104, 105, 110, 100] 3
  rw [if_neg (by decide)] at hn
  by_cases h7 : qpv b + 7 < b.length
  ·have d : decide (((qpv b + 7 : Nat) : Int) < b.length) = true := decide_eq_true (by omega)
   simp -implicitDefEqProofs -dsimp only [go_sem, seval, qkm, d, ↓J0 _ _ G9]
   refine cpn hn ?_
   simp -implicitDefEqProofs -dsimp only [go_sem, seval, q4k]
   rw [if_pos h7]
   exact J9 rfl
  ·have d : decide (((qpv b + 7 : Nat) : Int) < b.length) = false := decide_eq_false (by omega)
   simp -implicitDefEqProofs -dsimp only [go_sem, seval, qkm, d]
   rw [if_neg h7]
   exact J9 rfl
 ·rw [he] at h
  have hi := z1l [111, 112, 101, 110] (zbf (w, e))
  simp only [zbf, Er.av, q4k] at h hi
  simp -implicitDefEqProofs -dsimp only [go_sem, seval, ↓J0 _ _ qh1]
  refine cpn h ?_
  simp -implicitDefEqProofs -dsimp only [go_sem, seval, qkm, q4k, ↓J0 _ _ qlz]
  refine cpn hi ?_
  simp -implicitDefEqProofs -dsimp only [go_sem, seval]
  exact J9 rfl
def z3z (b : List UInt8) : AV := match opE b with
 | some e => .tup [.fz 0 [] (some 0), .i .i64 e.code]
 | none => .tup [bts (qfn b) none, .i .i64 0]
theorem z40 (b : List UInt8) (cap : Option Nat) (hl : b.length <= 1000000000) : PCalls prog q8a [bts b cap] (z3z b) := by
 refine K6 U1 qoo (by simp) fun T => ?_
 have h := z3y b cap hl
 have hc := qro (opE b)
 unfold opR at h
 unfold qgr z3z
 rcases he : opE b with _ | e
 ·rw [he] at h hc
  simp only [qnx, qav] at h hc
  simp -implicitDefEqProofs -dsimp only [go_sem, seval, ↓J0 _ _ qgx]
  refine cpn h ?_
  simp -implicitDefEqProofs -dsimp only [go_sem, seval, ↓J0 _ _ q6v]
  refine cpn hc ?_
  simp -implicitDefEqProofs -dsimp only [go_sem, seval]
  exact J9 rfl
 ·rw [he] at h hc
  obtain ⟨t, v, ev⟩ := e.ifc
  simp only [qnx, qav, ev] at h hc
  simp -implicitDefEqProofs -dsimp only [go_sem, seval, ↓J0 _ _ qgx]
  refine cpn h ?_
  simp -implicitDefEqProofs -dsimp only [go_sem, seval, ↓J0 _ _ q6v]
  refine cpn hc ?_
  simp -implicitDefEqProofs -dsimp only [go_sem, seval]
  exact J9 rfl
end Go.Aw
