import Derived.Test.YtpbnmegmhhkloaaDoorW06F04N
namespace Go.Aw
open Go
open Go.Proofs.Tryd (prog)
set_option linter.all false
set_option maxHeartbeats 4000000
theorem qsl (a b : Nat) (hb : b < 256) : a * 256 ||| b = a * 256 + b := by
 have := Nat.shiftLeft_add_eq_or_of_lt (a := a) (i := 8) (b := b) (by omega)
 rw [Nat.shiftLeft_eq] at this
 exact this.symm
theorem qw7 (a b : UInt8) : IntKind.i64.wrap ((BitVec.ofInt IntKind.i64.bits (IntKind.i64.wrap ((a.toNat : Int) * 2 ^ (min 8 64 : Nat))) ||| BitVec.ofInt IntKind.i64.bits (b.toNat : Int)).toNat : Int) = ((a.toNat * 256 + b.toNat : Nat) : Int) := by
 have ha := a.toNat_lt
 have hb := b.toNat_lt
 have e : IntKind.i64.wrap ((a.toNat : Int) * 2 ^ (min 8 64 : Nat)) = ((a.toNat * 256 : Nat) : Int) := by
  show IntKind.i64.wrap ((a.toNat : Int) * 256) = _
  rw [K8 (by unfold I64; omega)]; omega
 rw [e]
 show IntKind.i64.wrap (((BitVec.ofInt 64 ((a.toNat * 256 : Nat) : Int) ||| BitVec.ofInt 64 (b.toNat : Int)) : BitVec 64).toNat : Int) = _
 rw [BitVec.ofInt_natCast, BitVec.ofInt_natCast, BitVec.toNat_or, BitVec.toNat_ofNat, BitVec.toNat_ofNat, Nat.mod_eq_of_lt (by omega), Nat.mod_eq_of_lt (by omega), qsl _ _ (by omega)]
 rw [K8 (by unfold I64; omega)]
def bAt (b : List UInt8) (k : Nat) : UInt8 := (b[k]?).getD 0
def q5z (b : List UInt8) : Nat := (bAt b 1).toNat * 256 + (bAt b 2).toNat
def nxE (b : List UInt8) : Option (List UInt8 × Int) :=
 if b = [] then some ([101, 110, 100], 6) else if bAt b 0 ≠ 197 then some ([109, 97, 114, 107], 3) else if b.length < 3 then some ([104, 101, 97, 100], 4) else
 if q5z b = 0 then some ([115, 105, 122, 101], 3) else if b.length < q5z b + 7 then some ([114, 101, 99, 111, 114, 100], 4) else
 if q2v ((b.take (q5z b + 7)).drop 1) = false then some ([115, 117, 109], 5) else none
def q70 (b : List UInt8) : List UInt8 := (b.take (q5z b + 3)).drop 3
def nxR (b : List UInt8) : AV := match nxE b with
 | some (w, e) => .tup [.fz 0 [] (some 0), .i .i64 0, q2w w (qes e)]
 | none => .tup [bts (q70 b) none, .i .i64 (q5z b + 7 : Nat), .nilifc]
theorem qvn : decide (((197 : UInt8).toNat : Int) = 197) = true := by decide
theorem qoi (b : List UInt8) (cap : Option Nat) (hl : b.length <= 1000000000) : PCalls prog q21 [bts b cap] (nxR b) := by
 refine K7 O5 qdg (by simp) fun T => ?_
 have fN : ∀ (w : List UInt8) (e : Int), e ≠ 0 -> PCalls prog O2 [.s w, .i .i64 e] (q2w w (qes e)) := fun w e h => by
  have := qjv w e
  rwa [if_neg h] at this
 unfold q84
 by_cases h0 : b = []
 ·have e : nxE b = some ([101, 110, 100], 6) := by unfold nxE; rw [if_pos h0]
  have d0 : decide ((b.length : Int) = 0) = true := decide_eq_true (by rw [h0]; rfl)
  simp -implicitDefEqProofs -dsimp only [go_sem, seval, d0, ↓J2 _ _ Y0]
  refine cpn (fN _ 6 (by decide)) ?_
  simp -implicitDefEqProofs -dsimp only [go_sem, seval, q2w]
  rw [nxR, e]
  exact J8 rfl
 have hp : 0 < b.length := List.length_pos_iff.2 h0
 have d0 : decide ((b.length : Int) = 0) = false := decide_eq_false (by omega)
 obtain ⟨x, hx⟩ : ∃ x, b[0]? = some x := ⟨_, List.getElem?_eq_getElem hp⟩
 have hx' := qh0 hx
 rw [List.drop_zero] at hx'
 have hp' : (0 : Int) < b.length := by omega
 have ex : bAt b 0 = x := by unfold bAt; rw [hx]; rfl
 by_cases h1 : x = 197
 ·subst h1
  by_cases h3 : b.length < 3
  ·have e : nxE b = some ([104, 101, 97, 100], 4) := by unfold nxE; rw [if_neg h0, if_neg (by rw [ex]; simp), if_pos h3]
   have d3 : decide ((b.length : Int) < 3) = true := decide_eq_true (by omega)
   simp -implicitDefEqProofs -dsimp only [go_sem, seval, d0, bts, hp', Int.le_refl, Int.toNat_zero, Nat.zero_mul, List.drop_zero, hx', d3, qvn, ↓J2 _ _ Y0]
   refine cpn (fN _ 4 (by decide)) ?_
   simp -implicitDefEqProofs -dsimp only [go_sem, seval, q2w]
   rw [nxR, e]
   exact J8 rfl
  have d3 : decide ((b.length : Int) < 3) = false := decide_eq_false (by omega)
  obtain ⟨y, hy⟩ : ∃ y, b[1]? = some y := ⟨_, List.getElem?_eq_getElem (by omega)⟩
  obtain ⟨z, hz⟩ : ∃ z, b[2]? = some z := ⟨_, List.getElem?_eq_getElem (by omega)⟩
  have hy' := qh0 hy
  have hz' := qh0 hz
  have ey : bAt b 1 = y := by unfold bAt; rw [hy]; rfl
  have ez : bAt b 2 = z := by unfold bAt; rw [hz]; rfl
  have l1 : (1 : Int) < b.length := by omega
  have l2 : (2 : Int) < b.length := by omega
  have hby := y.toNat_lt
  have hbz := z.toNat_lt
  have c64 : ∀ u : UInt8, IntKind.i64.wrap (u.toNat : Int) = u.toNat := fun u => K8 (by have := u.toNat_lt; unfold I64; omega)
  have es : q5z b = y.toNat * 256 + z.toNat := by unfold q5z; rw [ey, ez]
  obtain ⟨n, hn⟩ : ∃ n : Nat, n = y.toNat * 256 + z.toNat := ⟨_, rfl⟩
  have hw := qw7 y z
  rw [<- hn] at hw es
  have hn6 : n < 65536 := by omega
  have w3 : IntKind.i64.wrap (3 + (n : Int)) = ((n + 3 : Nat) : Int) := (K8 (by unfold I64; omega)).trans (by omega)
  have w7 : IntKind.i64.wrap (((n + 3 : Nat) : Int) + 4) = ((n + 7 : Nat) : Int) := (K8 (by unfold I64; omega)).trans (by omega)
  simp -implicitDefEqProofs -dsimp only [go_sem, seval, d0, bts, hp', Int.le_refl, Int.toNat_zero, Nat.zero_mul, List.drop_zero, hx', d3, qvn, l1, l2, show (1 : Int).toNat = 1 from rfl, show (2 : Int).toNat = 2 from rfl, Nat.mul_one, hy', hz', c64, hw, w3, w7]
  have nE : nxE b = (if q5z b = 0 then some ([115, 105, 122, 101], 3) else if b.length < q5z b + 7 then some ([114, 101, 99, 111, 114, 100], 4) else
    if q2v ((b.take (q5z b + 7)).drop 1) = false then some ([115, 117, 109], 5) else none) := by
   unfold nxE; rw [if_neg h0, if_neg (by rw [ex]; simp), if_neg h3]
  rw [es] at nE
  by_cases hz0 : n = 0
  ·rw [if_pos hz0] at nE
   have d4 : decide ((n : Int) = 0) = true := decide_eq_true (by omega)
   simp -implicitDefEqProofs -dsimp only [go_sem, seval, d4, ↓J2 _ _ Y0]
   refine cpn (fN _ 3 (by decide)) ?_
   simp -implicitDefEqProofs -dsimp only [go_sem, seval, q2w]
   rw [nxR, nE]
   exact J8 rfl
  rw [if_neg hz0] at nE
  have d4 : decide ((n : Int) = 0) = false := decide_eq_false (by omega)
  by_cases h7 : b.length < n + 7
  ·rw [if_pos h7] at nE
   have d5 : decide ((b.length : Int) < ((n + 7 : Nat) : Int)) = true := decide_eq_true (by omega)
   simp -implicitDefEqProofs -dsimp only [go_sem, seval, d4, d5, ↓J2 _ _ Y0]
   refine cpn (fN _ 4 (by decide)) ?_
   simp -implicitDefEqProofs -dsimp only [go_sem, seval, q2w]
   rw [nxR, nE]
   exact J8 rfl
  rw [if_neg h7] at nE
  have d5 : decide ((b.length : Int) < ((n + 7 : Nat) : Int)) = false := decide_eq_false (by omega)
  have s1 : (1 : Int) <= ((n + 7 : Nat) : Int) := by omega
  have s2 : ((n + 7 : Nat) : Int) <= b.length := by omega
  have s3 : n + 7 <= b.length := by omega
  have e6 : ((b.drop 1).take (n + 7 - 1)).length = n + 7 - 1 := by rw [List.length_take, List.length_drop]; omega
  have c1 := qm8 ((b.drop 1).take (n + 7 - 1)) (Option.map (fun x => x - 1) cap) (by omega)
  have e7 : (b.take (n + 7)).drop 1 = (b.drop 1).take (n + 7 - 1) := by rw [List.drop_take]
  rw [e7] at nE
  simp only [bts, e6] at c1
  simp -implicitDefEqProofs -dsimp only [go_sem, seval, d4, d5, s1, s2, s3, bts, Int.toNat_natCast, Int.natCast_nonneg, Nat.mul_one, O1, q13, show (1 : Int).toNat = 1 from rfl, Nat.zero_le, ↓J2 _ _ qep]
  refine cpn c1 ?_
  rcases hwh : q2v ((b.drop 1).take (n + 7 - 1)) with _ | _
  ·rw [if_pos hwh] at nE
   simp -implicitDefEqProofs -dsimp only [go_sem, seval, Bool.not_false, ↓J2 _ _ Y0]
   refine cpn (fN _ 5 (by decide)) ?_
   simp -implicitDefEqProofs -dsimp only [go_sem, seval, q2w]
   rw [nxR, nE]
   exact J8 rfl
  rw [if_neg (by rw [hwh]; simp)] at nE
  have s4 : ((3 : Int) <= ((n + 3 : Nat) : Int)) := by omega
  have s5 : n + 3 <= b.length := by omega
  have e8 : ((b.drop 3).take (n + 3 - 3)).length = n + 3 - 3 := by rw [List.length_take, List.length_drop]; omega
  have c2 := q4x ((b.drop 3).take (n + 3 - 3)) (Option.map (fun x => x - 3) cap) (by omega)
  simp only [bts, e8] at c2
  simp -implicitDefEqProofs -dsimp only [go_sem, seval, Bool.not_true, w3, s4, s5, bts, Int.toNat_natCast, Int.natCast_nonneg, Nat.mul_one, O1, q13, show (3 : Int).toNat = 3 from rfl, Nat.zero_le, ↓J2 _ _ J9]
  refine cpn c2 ?_
  simp -implicitDefEqProofs -dsimp only [go_sem, seval]
  have e9 : q70 b = (b.drop 3).take (n + 3 - 3) := by unfold q70; rw [es, List.drop_take]
  rw [nxR, nE, es]
  simp only
  rw [e9, bts, e8]
  exact J8 rfl
 ·have e : nxE b = some ([109, 97, 114, 107], 3) := by unfold nxE; rw [if_neg h0, if_pos (by rw [ex]; exact h1)]
  have d1 : decide ((x.toNat : Int) = 197) = false := decide_eq_false (fun h => h1 (UInt8.toNat_inj.1 (by show x.toNat = 197; omega)))
  simp -implicitDefEqProofs -dsimp only [go_sem, seval, d0, bts, hp', Int.le_refl, Int.toNat_zero, Nat.zero_mul, List.drop_zero, hx', d1, ↓J2 _ _ Y0]
  refine cpn (fN _ 3 (by decide)) ?_
  simp -implicitDefEqProofs -dsimp only [go_sem, seval, q2w]
  rw [nxR, e]
  exact J8 rfl
end Go.Aw
