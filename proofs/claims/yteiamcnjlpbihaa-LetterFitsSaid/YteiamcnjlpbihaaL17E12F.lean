import Derived.Test.YteiamcnjlpbihaaL17O16B
import Derived.Test.YteiamcnjlpbihaaL17S12C
import Derived.Test.YteiamcnjlpbihaaAwD
import Derived.Test.YteiamcnjlpbihaaL17S12X
namespace Go.Aw
open Go
open Go.Proofs.Try (prog)
set_option linter.all false
set_option maxHeartbeats 4000000

theorem encM_len {m : Int × Bool} (h : 0 ≤ m.1 ∧ m.1 < 8) : (encM m).length ≤ 11 := by
  have := enc_len10 (m := m.1.toNat) (by omega)
  simp only [encM, List.length_append, List.length_cons, List.length_nil]; omega

theorem lp_cPut {R : RPost} (hR : ExtR R) {T : Tab} {c : Cf} {k1 k2 : Option Nat} (h : c.Ok) : ∀ (ys : List (Int × Bool)) (k : Nat), c.plain.l.drop k = ys → k ≤ c.ch.length → ∀ (b : List UInt8) (q : Option Nat), b.length ≤ 1001000 + 100 * k →
    (∀ q, R (.exit 0) [(3, .lp 3 0), (5, bts (b ++ ys.flatMap encM) q), (31, .fz c.ch.length (ints c.ch) k1), (32, .i .i64 c.ch.length), (33, .i .i64 c.ch.length), (34, .b false)] [(3, c.cells k1 k2)] T) →
    AW prog conf_Put_l0 R [(3, .lp 3 0), (5, bts b q), (31, .fz c.ch.length (ints c.ch) k1), (32, .i .i64 c.ch.length), (33, .i .i64 k)] [(3, c.cells k1 k2)] T := by
  obtain ⟨hep, hsh, hch, hfu, hms, hln⟩ := h
  have hl : c.plain.l.length = c.ch.length := c.plain_len
  intro ys
  induction ys with
  | nil =>
    intro k hk hle b q hb h2
    have hk' := drop_nil hk (by omega)
    rw [hl] at hk'
    refine AW_loop hR ?_
    unfold conf_Put_l0b
    simp -implicitDefEqProofs -dsimp only [go_sem, seval, hk', Int.lt_irrefl]
    rw [hk'] at h2
    simpa only [List.flatMap_nil, List.append_nil] using h2 q
  | cons y ys ih =>
    intro k hk hle b q hb h2
    obtain ⟨hlt, hy, hk'⟩ := drop_lt hk
    rw [hl] at hlt
    have hy1 : c.ch[k]? = some y.1 := by
      have := congrArg (fun l : List Int => l[k]?) c.plain_fst
      simp only [List.getElem?_map, hy, Option.map_some] at this
      exact this.symm
    have hy2 : c.fu[k]? = some y.2 := by
      have := congrArg (fun l : List Bool => l[k]?) (show c.plain.l.map (·.2) = c.fu from plainF_snd c.fu c.ch 0 (by omega))
      simp only [List.getElem?_map, hy, Option.map_some] at this
      exact this.symm
    have hm := hms y.1 (List.mem_of_getElem? hy1)
    obtain ⟨m, hmm⟩ := Int.eq_ofNat_of_zero_le hm.1
    have h1 := enc_len10 (m := m) (by omega)
    have hkf : k < c.fu.length := by omega
    have e : ∀ x, b ++ enc m ++ [bitB y.2] = x → b ++ encM y = x := fun x hx => by rw [← hx]; simp [encM, hmm]
    have fin : ∀ q, AW prog conf_Put_l0 R [(3, .lp 3 0), (5, bts (b ++ enc m ++ [bitB y.2]) q), (31, .fz c.ch.length (ints c.ch) k1), (32, .i .i64 c.ch.length), (33, .i .i64 ((k + 1 : Nat) : Int))] [(3, c.cells k1 k2)] T := fun q => by
      rw [← e _ rfl]
      refine ih (k + 1) hk' hlt _ q (by have := encM_len hm; simp; omega) fun q => ?_
      simpa only [List.flatMap_cons, List.append_assoc] using h2 q
    obtain ⟨n, f⟩ := y
    simp only at hmm hm hy1 hy2 e fin
    refine AW_loopD (l := conf_Put_l0) rfl hR ?_
    unfold conf_Put_l0b
    simp only [Cf.cells] at fin ⊢
    cases f
    all_goals
      simp -implicitDefEqProofs -dsimp only [go_sem, seval, Int.ofNat_lt, hlt, hkf, Int.natCast_nonneg, Int.toNat_natCast, ints_at, bools_at, hy1, hy2, hmm, wrap_u64n (n := m) (by omega), ↓g_call _ _ c_octet_Put]
      refine CallK.pure (pc_oPut b q m (by omega) (by omega)) (aft_nil ?_)
      simp -implicitDefEqProofs -dsimp only [go_sem, seval, ↓g_call _ _ c_octet_Put]
    · refine CallK.pure (pc_oPut (b ++ enc m) none 0 (by simp; omega) (by omega)) (aft_nil ?_)
      simp -implicitDefEqProofs -dsimp only [go_sem, seval]
      rw [wrap_succ (by omega), show enc 0 = [bitB false] from (enc_bit false).symm]
      exact fin none
    · refine CallK.pure (pc_oPut (b ++ enc m) none 1 (by simp; omega) (by omega)) (aft_nil ?_)
      simp -implicitDefEqProofs -dsimp only [go_sem, seval]
      rw [wrap_succ (by omega), show enc 1 = [bitB true] from (enc_bit true).symm]
      exact fin none

theorem pc_cPut (b : List UInt8) (q : Option Nat) (c : Cf) (k1 k2 : Option Nat) (hb : b.length ≤ 1000000) (hl : Len c.ch.length) (he : 0 ≤ c.ep ∧ c.ep < 18446744073709551616) : PCalls prog f_conf_Put [bts b q, .agg (c.cells k1 k2)] (bts (if c.right = true then b ++ encRf c.plain else b) none) := by
  refine pcalls_of mixed t_conf_Put (by simp) fun T => ?_
  have c1 := pc_conf_Right c k1 k2 hl
  simp only [Cf.cells] at c1
  unfold s_conf_Put
  simp -implicitDefEqProofs -dsimp only [go_sem, seval, Cf.cells, ↓g_call _ _ c_slices_Clone_byte_byte]
  refine CallK.pure (pc_Clone_byte b q (by omega)) (aft_nil ?_)
  simp -implicitDefEqProofs -dsimp only [go_sem, seval, ↓g_call _ _ c_conf_Right]
  refine CallK.pure c1 (aft_nil ?_)
  rcases hr : c.right with _ | _
  · simp -implicitDefEqProofs -dsimp only [go_sem, seval, hr]
    exact finL_pure rfl
  have hok := Cf.ok_of hr he
  obtain ⟨ep, hep⟩ := Int.eq_ofNat_of_zero_le hok.ep.1
  obtain ⟨sh, hsh⟩ := Int.eq_ofNat_of_zero_le hok.sh.1
  have x1 := hok.ep
  have x2 := hok.sh
  have x3 := hok.ch
  have x4 := hok.ln
  have l1 := enc_len10 (m := ep) (by omega)
  have l2 := enc_len10 (m := sh) (by omega)
  have l3 := enc_len10 (m := c.ch.length) (by omega)
  have hpl : c.plain.l.length = c.ch.length := c.plain_len
  have hmem : ∀ m ∈ c.plain.l, 0 ≤ m.1 ∧ m.1 < 8 := fun m hm => by
    have : m.1 ∈ c.ch := by rw [← c.plain_fst]; exact List.mem_map_of_mem hm
    exact hok.ms _ this
  have l5 := flatB_len (g := encM) c.plain.l fun m hm => encM_len (hmem m hm)
  simp -implicitDefEqProofs -dsimp only [go_sem, seval, hr, hep, hsh, wrap_u64n (n := sh) (by omega), ↓g_call _ _ c_octet_Put]
  refine CallK.pure (pc_oPut b none ep (by omega) (by omega)) (aft_nil ?_)
  simp -implicitDefEqProofs -dsimp only [go_sem, seval, ↓g_call _ _ c_octet_Put]
  refine CallK.pure (pc_oPut (b ++ enc ep) none sh (by simp; omega) (by omega)) (aft_nil ?_)
  simp -implicitDefEqProofs -dsimp only [go_sem, seval, wrap_u64n (n := c.ch.length) (by omega), ↓g_call _ _ c_octet_Put]
  refine CallK.pure (pc_oPut (b ++ enc ep ++ enc sh) none c.ch.length (by simp; omega) (by omega)) (aft_nil ?_)
  rw [← hep, ← hsh]
  simp -implicitDefEqProofs -dsimp only [go_sem, seval]
  refine lp_cPut (T := T) (k1 := k1) (k2 := k2) (by repeat' (first | exact finX_ext _ _ | assumption | apply blkR_ext | apply thenR_ext | apply AW_ext)) hok c.plain.l 0 rfl (by omega) _ none (by simp; omega) (fun q => ?_)
  have e9 : b ++ enc ep ++ enc sh ++ enc c.ch.length ++ c.plain.l.flatMap encM ++ enc (lnN c.ln) = b ++ encRf c.plain := by
    have : encRf c.plain = enc c.ep.toNat ++ enc c.sh.toNat ++ enc c.plain.l.length ++ c.plain.l.flatMap encM ++ enc (lnN c.ln) := rfl
    rw [this, hpl, hep, hsh]; simp
  rcases hn : decide (c.ln = -1) with _ | _
  · have hn' := of_decide_eq_false hn
    obtain ⟨ln, hln⟩ := Int.eq_ofNat_of_zero_le (show 0 ≤ c.ln by omega)
    have e8 : lnN c.ln = ln := by unfold lnN; rw [if_neg (by omega)]; omega
    simp -implicitDefEqProofs -dsimp only [go_sem, seval, Cf.cells, hn]
    rw [hln]
    simp -implicitDefEqProofs -dsimp only [go_sem, seval, wrap_u64n (n := ln) (by omega), ↓g_call _ _ c_octet_Put]
    refine CallK.pure (pc_oPut _ q ln (by simp only [List.length_append]; omega) (by omega)) (aft_nil ?_)
    simp -implicitDefEqProofs -dsimp only [go_sem, seval]
    rw [← e8, e9]
    exact finL_pure rfl
  · have hn' := of_decide_eq_true hn
    have e8 : lnN c.ln = 8 := by unfold lnN; rw [if_pos (by omega)]
    have u8 : IntKind.u64.wrap 8 = ((8 : Nat) : Int) := by decide +kernel
    simp -implicitDefEqProofs -dsimp only [go_sem, seval, Cf.cells, hn, u8, ↓g_call _ _ c_octet_Put]
    refine CallK.pure (pc_oPut _ q 8 (by simp only [List.length_append]; omega) (by omega)) (aft_nil ?_)
    simp -implicitDefEqProofs -dsimp only [go_sem, seval]
    rw [← e8, e9]
    exact finL_pure rfl
end Go.Aw

namespace Go.Aw
open Go
open Go.Proofs.Try (prog)
set_option linter.all false
set_option maxHeartbeats 4000000

theorem rID_len (s : RS) : (rID s).2.1.length ≤ s.1.length := Nat.le_trans (rMost_len _ _) (rMost_len _ _)
theorem rRd_len (s : RS) : (rRd s).2.1.length ≤ s.1.length := Nat.le_trans (rMost_len _ _) (rText_len _ _)
theorem rWt_len (s : RS) : (rWt s).2.1.length ≤ s.1.length := Nat.le_trans (rMost_len _ _) (Nat.le_trans (rText_len _ _) (rText_len _ _))
theorem rText_key (s : RS) : (rText 32 s).1.length ≤ 32 := rText_le 32 s
theorem rTx_fine (s : RS) : (rTx s).1.Fine := by
  refine ⟨?_, ?_, ?_, ?_, ?_⟩
  · have h1 := rList_le (f := rRd) (rMost 8 (rMost 1 (rID s).2).2).1 (rMost 8 (rMost 1 (rID s).2).2).2
    have h2 := rMost_le 8 (rMost 1 (rID s).2).2
    show (rList rRd _ _).1.length < _; omega
  · have h1 := rList_le (f := rWt) (rMost 8 (rList rRd (rMost 8 (rMost 1 (rID s).2).2).1 (rMost 8 (rMost 1 (rID s).2).2).2).2).1 (rMost 8 (rList rRd (rMost 8 (rMost 1 (rID s).2).2).1 (rMost 8 (rMost 1 (rID s).2).2).2).2).2
    have h2 := rMost_le 8 (rList rRd (rMost 8 (rMost 1 (rID s).2).2).1 (rMost 8 (rMost 1 (rID s).2).2).2).2
    show (rList rWt _ _).1.length < _; omega
  · exact rList_all (p := fun r : Rd => Len r.k.length) (fun s => by have := rText_key s; show Len (rText 32 s).1.length; unfold Len; omega) _ _
  · exact rList_all (p := fun r : Wt => Len r.k.length) (fun s => by have := rText_key s; show Len (rText 32 s).1.length; unfold Len; omega) _ _
  · exact rList_all (p := fun r : Wt => Len r.v.length) (fun s => by have := rText_le 64 (rText 32 s).2; show Len (rText 64 (rText 32 s).2).1.length; unfold Len; omega) _ _

def zeroTx : Tx := ⟨0, 0, false, [], []⟩
/-- What reading a transaction answers. -/
def rTxOk (s : RS) : Bool := !(rTx s).2.2 && txOk (rTx s).1
def rTxAns (s : RS) : Tx × AV := if rTxOk s = true then ((rTx s).1, .nilifc) else (zeroTx, fault [116, 120, 110] (errno 3))

end Go.Aw

namespace Go.Aw
open Go
open Go.Proofs.Try (prog)
set_option linter.all false
set_option maxHeartbeats 4000000

theorem once_keys : ∀ (l seen : List Bs), onceF seen l = true → ∀ k ∈ l, keyOk k = true
  | [], _, _, k, hk => by cases hk
  | x :: l, seen, h, k, hk => by
    simp only [onceF, Bool.and_eq_true] at h
    rcases List.mem_cons.1 hk with rfl | hk
    · exact h.1.1
    · exact once_keys l _ h.2 k hk
theorem key_len {k : Bs} (h : keyOk k = true) : k.length ≤ 32 := by
  simp only [keyOk, Bool.and_eq_true, decide_eq_true_eq] at h; omega
theorem good_of_ok {t : Tx} (h : txOk t = true) (hs : t.sq < 18446744073709551616) (hr : ∀ r ∈ t.rs, 0 ≤ r.n ∧ r.n < 18446744073709551616) : t.Good := by
  simp only [txOk, idOk, Bool.and_eq_true, decide_eq_true_eq, Bool.not_eq_true', decide_eq_false_iff_not] at h
  obtain ⟨⟨⟨⟨⟨h1, h2⟩, h3⟩, h4⟩, h5⟩, ⟨h6, h7⟩, h8⟩ := h
  refine ⟨⟨h1.1.1, h1.1.2⟩, ⟨h1.2, hs⟩, by omega, by omega, fun r hm => ⟨key_len (once_keys _ _ h6 _ (List.mem_map_of_mem hm)), hr r hm⟩, fun w hm => ⟨key_len (once_keys _ _ h7 _ (List.mem_map_of_mem hm)), ?_⟩⟩
  have := List.all_eq_true.1 h8 w hm
  simp only [wOk, valOk, Bool.and_eq_true, decide_eq_true_eq] at this
  omega

theorem byteCells_full (l : List UInt8) : (byteCells l).take l.length = byteCells l := by rw [List.take_of_length_le]; rw [byteCells_length]; exact Nat.le_refl _
theorem encTx_len {t : Tx} (h : t.Good) : (encTx t).length ≤ 2000 := by
  obtain ⟨hcl, hsq, hr, hw, hrr, hww⟩ := h
  have l1 := enc_len10 (m := t.cl.toNat) (by omega)
  have l2 := enc_len10 (m := t.sq.toNat) (by omega)
  have l3 := enc_len10 (m := t.rs.length) (by omega)
  have l4 := enc_len10 (m := t.ws.length) (by omega)
  have l5 := flatB_len (g := encRd) t.rs fun r hr => encRd_len (hrr r hr)
  have l6 := flatB_len (g := encWt) t.ws fun r hr => encWt_len (hww r hr)
  simp only [encTx, List.length_append, List.length_cons, List.length_nil]; omega
theorem fz_bts {n : Nat} {l : List UInt8} {c : Option Nat} (h : l.length = n) : AV.fz n (byteCells l) c = bts l c := by subst h; rfl
theorem rTxOk_put {t : Tx} (h : t.Good) (hok : txOk t = true) (rest : List UInt8) : rTxOk (encTx t ++ rest, false) = true := by
  unfold rTxOk; rw [rTx_put h]; simp [hok]

end Go.Aw
