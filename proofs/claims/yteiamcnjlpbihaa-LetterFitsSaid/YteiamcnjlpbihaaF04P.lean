import Derived.Test.YteiamcnjlpbihaaL17E12G
import Derived.Test.YteiamcnjlpbihaaL17S12H
import GoSem.Claim
namespace Go.Aw
open Go
open Go.Proofs.Try (prog)
set_option linter.all false
set_option maxHeartbeats 4000000

theorem encTx_len' {t : Tx} (h : t.Good) : (encTx t).length ≤ 2000 := encTx_len h
theorem pc_ePut (e : En) (k1 k2 : Option Nat) (hf : e.t.Fine) (hr : e.Rng) : PCalls prog f_entry_Put [.agg (e.cells k1 k2)] (if enOk e = true then .tup [bts (encEn e) none, .i .i64 0] else .tup [.fz 0 [] (some 0), .i .i64 1]) := by
  refine pcalls_of mixed t_entry_Put (by simp) fun T => ?_
  have h := pc_enRight e k1 k2 hf
  simp only [En.cells] at h
  unfold s_entry_Put
  simp -implicitDefEqProofs -dsimp only [go_sem, seval, En.cells, ↓g_call _ _ c_entry_Right]
  refine CallK.pure h (aft_nil ?_)
  rcases hok : enOk e with _ | _
  · simp -implicitDefEqProofs -dsimp only [go_sem, seval, hok]
    exact finL_pure rfl
  obtain ⟨hep, hkd⟩ := En.good_of hok hr
  obtain ⟨ep, hepm⟩ := Int.eq_ofNat_of_zero_le (show 0 ≤ e.ep by omega)
  have l1 := enc_len10 (m := ep) (by omega)
  rcases hkd with ⟨h3, h4, h5, h6, h7, h8⟩ | ⟨h3, h4, h5, h6, h7⟩
  · have u1 : IntKind.u64.wrap 1 = ((1 : Nat) : Int) := by decide +kernel
    have l2 := enc_len10 (m := 1) (by omega)
    have c := pc_tBytes e.t k1 k2 ([] ++ enc ep ++ enc 1) none h4 (by simp; omega)
    simp only [Tx.cells] at c
    simp -implicitDefEqProofs -dsimp only [go_sem, seval, hok, hepm, h3, u1, ↓g_call _ _ c_octet_Put]
    refine CallK.pure (pc_oPut [] (some 0) ep (by decide) (by omega)) (aft_nil ?_)
    simp -implicitDefEqProofs -dsimp only [go_sem, seval, ↓g_call _ _ c_octet_Put]
    refine CallK.pure (pc_oPut ([] ++ enc ep) none 1 (by simp; omega) (by omega)) (aft_nil ?_)
    simp -implicitDefEqProofs -dsimp only [go_sem, seval, decide_true, ↓g_call _ _ c_entry_Txn_Bytes]
    refine CallK.pure c (aft_nil ?_)
    simp -implicitDefEqProofs -dsimp only [go_sem, seval]
    have e1 : [] ++ enc ep ++ enc 1 ++ encTx e.t = encEn e := by simp [encEn, h3, hepm]
    refine finL_pure ?_
    rw [← e1]; simp
  · have u1 : IntKind.u64.wrap 2 = ((2 : Nat) : Int) := by decide +kernel
    obtain ⟨cl, hcl⟩ := Int.eq_ofNat_of_zero_le h5.1
    obtain ⟨sq, hsq⟩ := Int.eq_ofNat_of_zero_le (show 0 ≤ e.sq by omega)
    obtain ⟨co, hco⟩ := Int.eq_ofNat_of_zero_le (show 0 ≤ e.co by omega)
    have l2 := enc_len10 (m := 2) (by omega)
    have l3 := enc_len10 (m := cl) (by omega)
    have l4 := enc_len10 (m := sq) (by omega)
    simp -implicitDefEqProofs -dsimp only [go_sem, seval, hok, hepm, h3, u1, ↓g_call _ _ c_octet_Put]
    refine CallK.pure (pc_oPut [] (some 0) ep (by decide) (by omega)) (aft_nil ?_)
    simp -implicitDefEqProofs -dsimp only [go_sem, seval, ↓g_call _ _ c_octet_Put]
    refine CallK.pure (pc_oPut ([] ++ enc ep) none 2 (by simp; omega) (by omega)) (aft_nil ?_)
    simp -implicitDefEqProofs -dsimp only [go_sem, seval, decide_false, hcl, hsq, hco, wrap_u64n (n := co) (by omega), ↓g_call _ _ c_entry_putID]
    refine CallK.pure (pc_putID ([] ++ enc ep ++ enc 2) none cl sq (by simp; omega) (by omega) (by omega)) (aft_nil ?_)
    simp -implicitDefEqProofs -dsimp only [go_sem, seval, ↓g_call _ _ c_octet_Put]
    refine CallK.pure (pc_oPut _ none co (by simp; omega) (by omega)) (aft_nil ?_)
    simp -implicitDefEqProofs -dsimp only [go_sem, seval]
    have e1 : [] ++ enc ep ++ enc 2 ++ enc cl ++ enc sq ++ enc co = encEn e := by simp [encEn, h3, hepm, hcl, hsq, hco]
    refine finL_pure ?_
    rw [← e1]; simp

theorem rEn_fine (s : RS) : (rEn s).1.t.Fine := by
  have hz : zeroTx.Fine := ⟨by decide, by decide, fun r hr => (by cases hr), fun r hr => (by cases hr), fun r hr => (by cases hr)⟩
  unfold rEn
  simp only
  split
  · simp only [rTxAns]
    split
    · exact rTx_fine _
    · exact hz
  · split <;> exact hz
theorem rEn_len (s : RS) : (rEn s).2.1.length ≤ s.1.length := by
  have h1 := rMost_len 18446744073709551615 s
  have h2 := rMost_len 2 (rMost 18446744073709551615 s).2
  unfold rEn
  simp only
  split
  · have : (rTx (rMost 2 (rMost 18446744073709551615 s).2).2).2.1.length ≤ (rMost 2 (rMost 18446744073709551615 s).2).2.1.length :=
      Nat.le_trans (rList_len rWt_len _ _) (Nat.le_trans (rMost_len _ _) (Nat.le_trans (rList_len rRd_len _ _) (Nat.le_trans (rMost_len _ _) (Nat.le_trans (rMost_len _ _) (rID_len _)))))
    simp only; omega
  · split
    · have h3 := rMost_len 99 (rID (rMost 2 (rMost 18446744073709551615 s).2).2).2
      have h4 := rID_len (rMost 2 (rMost 18446744073709551615 s).2).2
      simp only; omega
    · simp only; omega

end Go.Aw

namespace Go.Aw
open Go
set_option linter.all false

/-! The sum's plain law: a shift register over bits. -/
abbrev W := BitVec 32
def poly : W := 3988292384#32
def bit1 (x : W) : W := (x >>> 1) ^^^ (poly &&& -(x &&& 1#32))
def bits8 (x : W) : W := bit1 (bit1 (bit1 (bit1 (bit1 (bit1 (bit1 (bit1 x)))))))
def byte1 (x : W) (b : UInt8) : W := bits8 (x ^^^ BitVec.ofNat 32 b.toNat)
def more (x : W) (l : List UInt8) : W := l.foldl byte1 x
def crcOf (l : List UInt8) : W := ~~~ more 4294967295#32 l
def byteN (x : W) (k : Nat) : UInt8 := UInt8.ofNat ((x.toNat / 256 ^ k) % 256)
def four (x : W) : List UInt8 := [byteN x 0, byteN x 1, byteN x 2, byteN x 3]
def sealL (l : List UInt8) : List UInt8 := l ++ four (crcOf l)

theorem neg_and1 (x : W) : -(x &&& 1#32) = if x.getLsbD 0 then BitVec.allOnes 32 else 0#32 := by
  have h : x &&& 1#32 = if x.getLsbD 0 then 1#32 else 0#32 := by
    apply BitVec.eq_of_getLsbD_eq
    intro i hi
    rw [BitVec.getLsbD_and]
    by_cases h0 : i = 0
    · subst h0
      cases hx : x.getLsbD 0 <;> simp
    · have : (1#32 : W).getLsbD i = false := by
        rw [BitVec.getLsbD_one]; simp [h0]
      rw [this, Bool.and_false]
      cases hx : x.getLsbD 0
      · simp
      · simp only [if_true]; rw [this]
  rw [h]
  cases x.getLsbD 0
  · simp
  · simp only [if_true]; decide
theorem bit1_eq (x : W) : bit1 x = (x >>> 1) ^^^ (if x.getLsbD 0 then poly else 0#32) := by
  rw [bit1, neg_and1]
  cases x.getLsbD 0
  · simp
  · simp only [if_true]; rw [BitVec.and_allOnes]
theorem bit1_xor (x y : W) : bit1 (x ^^^ y) = bit1 x ^^^ bit1 y := by
  simp only [bit1_eq, BitVec.getLsbD_xor, BitVec.ushiftRight_xor_distrib]
  cases x.getLsbD 0 <;> cases y.getLsbD 0 <;> simp only [Bool.false_xor, Bool.xor_false, Bool.xor_true, Bool.not_true, Bool.not_false, Bool.false_eq_true, if_true, if_false, BitVec.xor_zero]
  · ac_rfl
  · ac_rfl
  · rw [show x >>> 1 ^^^ poly ^^^ (y >>> 1 ^^^ poly) = (x >>> 1 ^^^ y >>> 1) ^^^ (poly ^^^ poly) by ac_rfl, BitVec.xor_self, BitVec.xor_zero]
theorem bit1_zero : bit1 0#32 = 0#32 := by decide
theorem bit1_inj0 {x : W} (h : bit1 x = 0#32) : x = 0#32 := by
  rw [bit1_eq] at h
  cases hx : x.getLsbD 0
  · rw [hx] at h
    simp only [Bool.false_eq_true, if_false, BitVec.xor_zero] at h
    apply BitVec.eq_of_getLsbD_eq
    intro i hi
    by_cases h0 : i = 0
    · subst h0; rw [hx]; simp
    · have := congrArg (fun v : W => v.getLsbD (i - 1)) h
      simp only [BitVec.getLsbD_ushiftRight] at this
      rw [show 1 + (i - 1) = i by omega] at this
      rw [this]; simp
  · rw [hx] at h
    have := congrArg (fun v : W => v.getLsbD 31) h
    simp only [if_true, BitVec.getLsbD_xor, BitVec.getLsbD_ushiftRight] at this
    rw [BitVec.getLsbD_of_ge x 32 (by omega)] at this
    exact absurd this (by decide)
theorem bit1_inj {x y : W} (h : bit1 x = bit1 y) : x = y := by
  have : bit1 (x ^^^ y) = 0#32 := by rw [bit1_xor, h, BitVec.xor_self]
  have := bit1_inj0 this
  exact BitVec.xor_eq_zero_iff.1 this
end Go.Aw
