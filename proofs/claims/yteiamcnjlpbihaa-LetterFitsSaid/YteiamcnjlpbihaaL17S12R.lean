import Derived.Test.YteiamcnjlpbihaaAwD
import Derived.Test.YteiamcnjlpbihaaT17Txt
namespace Go.Aw
open Go
open Go.Proofs.Try (prog)
set_option linter.all false
set_option maxHeartbeats 4000000

/-! Numbers and texts as bytes. -/
def bts (b : List UInt8) (c : Option Nat) : AV := .fz b.length (byteCells b) c
theorem pl_bts {b : List UInt8} {c : Option Nat} : AV.plain (bts b c) = true := rfl
theorem lpq_bts {b : List UInt8} {c : Option Nat} : AV.isLp (bts b c) = false := rfl
theorem one_bts {b : List UInt8} {c : Option Nat} : AV.isOne (bts b c) = true := rfl
theorem sto_bts {b : List UInt8} {c : Option Nat} : AV.sto (bts b c) = true := rfl
theorem cel_bts {b : List UInt8} {c : Option Nat} : AV.cells (bts b c) = [bts b c] := rfl
theorem off_bts {b : List UInt8} {c : Option Nat} (j : Nat) : AV.offLp j (bts b c) = bts b c := rfl
theorem len_bts {b : List UInt8} {c : Option Nat} : lenAv false (bts b c) = some (.i .i64 b.length) := rfl
attribute [go_sem] pl_bts lpq_bts one_bts sto_bts cel_bts off_bts
attribute [go_sem ↓] len_bts
theorem byteCells_length (l : List UInt8) : (byteCells l).length = l.length := by simp [byteCells]
theorem byteCells_append (l m : List UInt8) : byteCells l ++ byteCells m = byteCells (l ++ m) := by simp [byteCells]
theorem byteCells_one (b : UInt8) : [AV.i .u8 b.toNat] = byteCells [b] := rfl

theorem ac_Clone_byte {T : Tab} {n : Nat} {xs : List AV} {cap : Option Nat} (hx : xs.length = n) (hn : n ≤ 1000000000) : ACalls prog f_slices_Clone_byte_byte [.fz n xs cap] T (fun v T' => Own T 1 v n xs T') := by
  refine acalls_of mixed t_slices_Clone_byte_byte (by simp) ?_
  unfold s_slices_Clone_byte_byte
  have main : ∀ K : AV → Tab → Prop, (∀ v T', Own T 1 v n xs T' → K v T') → appStep 1 1 T (.fz 0 [] (some 0)) (.fz n xs cap) K := fun K hK =>
    (Own.nil T 1).app (m := n) (news := xs) (by simp [slCells, hx]) rfl (by omega) (by omega) (by simpa using hK)
  simp -implicitDefEqProofs -dsimp only [go_sem, seval, snl_fz]
  split
  · refine main _ fun v T' h => ?_
    refine aft_nil ?_
    obtain ⟨q1, q2, q3, q4, q5, q6⟩ := h.form
    simp -implicitDefEqProofs -dsimp only [go_sem, seval, q1]
    exact h.fin (fun _ _ h => h)
  · rename_i h0
    have e : n = 0 := by omega
    subst e
    have e : xs = [] := by simpa using hx
    subst e
    intro b
    refine br_split (fun h => ?_) (fun h => ?_) <;> simp -implicitDefEqProofs -dsimp only [go_sem, seval]
    · exact (Own.nil T 1).fin (fun _ _ h => h)
    · refine main _ fun v T' h => ?_
      refine aft_nil ?_
      obtain ⟨q1, q2, q3, q4, q5, q6⟩ := h.form
      simp -implicitDefEqProofs -dsimp only [go_sem, seval, q1]
      exact h.fin (fun _ _ h => h)

theorem shr7 (m : Nat) : Int.fdiv (m : Int) (2 ^ min 7 64) = ((m / 128 : Nat) : Int) := by
  rw [show (2 : Int) ^ min 7 64 = 128 from rfl, Int.fdiv_eq_ediv_of_nonneg _ (by decide)]
  omega

theorem lp_oPut {R : RPost} (hR : ExtR R) {T : Tab} : ∀ (j m : Nat), m < 128 ^ (j + 1) → m < 18446744073709551616 → ∀ (xs : List UInt8) (v : AV) (T1 : Tab), xs.length + j ≤ 1000000100 →
    Own T 1 v xs.length (byteCells xs) T1 →
    (∀ (xs' : List UInt8) (n : Nat) v T1, n < 128 → xs' ++ [UInt8.ofNat n] = xs ++ enc m → Own T 1 v xs'.length (byteCells xs') T1 → R (.exit 0) [(1, .i .u64 n), (5, v), (9, .b false)] [] T1) →
    AW prog octet_Put_l0 R [(1, .i .u64 m), (5, v)] [] T1 := by
  intro j
  induction j with
  | zero =>
    intro m hm hm2 xs v T1 hx ho h2
    obtain ⟨p1, p2, p3, p4, p5, p6⟩ := ho.form
    have d : decide ((128 : Int) ≤ m) = false := decide_eq_false (by omega)
    refine AW_loopD (l := octet_Put_l0) rfl hR ?_
    unfold octet_Put_l0b
    simp -implicitDefEqProofs -dsimp only [go_sem, seval, d, p1, p2, p3, p4, p5, p6]
    exact h2 xs m v T1 (by omega) (by rw [enc_small (by omega)]) ho
  | succ j ih =>
    intro m hm hm2 xs v T1 hx ho h2
    obtain ⟨p1, p2, p3, p4, p5, p6⟩ := ho.form
    by_cases hs : m < 128
    · have d : decide ((128 : Int) ≤ m) = false := decide_eq_false (by omega)
      refine AW_loopD (l := octet_Put_l0) rfl hR ?_
      unfold octet_Put_l0b
      simp -implicitDefEqProofs -dsimp only [go_sem, seval, d, p1, p2, p3, p4, p5, p6]
      exact h2 xs m v T1 hs (by rw [enc_small hs]) ho
    · have d : decide ((128 : Int) ≤ m) = true := decide_eq_true (by omega)
      have hor : IntKind.u8.wrap ((BitVec.ofInt IntKind.u8.bits (IntKind.u8.wrap (m : Int)) ||| BitVec.ofInt IntKind.u8.bits 128).toNat : Nat) = ((m % 128 + 128 : Nat) : Int) := or_more m
      have e8 : ((m % 128 + 128 : Nat) : Int) = ((UInt8.ofNat (m % 128 + 128)).toNat : Int) := by
        rw [UInt8.toNat_ofNat_of_lt' (by show m % 128 + 128 < 256; omega)]
      refine AW_loopD (l := octet_Put_l0) rfl hR ?_
      unfold octet_Put_l0b
      simp -implicitDefEqProofs -dsimp only [go_sem, seval, d, hor, p1, p2, p3, p4, p5, p6]
      refine ho.app (m := 1) (news := byteCells [UInt8.ofNat (m % 128 + 128)]) (by rw [e8]; rfl) rfl (by omega) (by omega) fun v2 T2 ho => aft_nil ?_
      obtain ⟨p1, p2, p3, p4, p5, p6⟩ := ho.form
      simp -implicitDefEqProofs -dsimp only [go_sem, seval, p1, p2, p3, p4, p5, p6]
      rw [shr7]
      have hp : m / 128 < 128 ^ (j + 1) := by rw [Nat.div_lt_iff_lt_mul (by decide)]; rw [Nat.pow_succ] at hm; omega
      refine ih (m / 128) hp (by omega) (xs ++ [UInt8.ofNat (m % 128 + 128)]) v2 T2 (by simp; omega) (by rw [List.length_append, ← byteCells_append]; exact ho) (fun xs' n v T1 hn he ho => ?_)
      exact h2 xs' n v T1 hn (by rw [he, enc_big hs, List.append_assoc]; rfl) ho

theorem ofNat_u8 {n : Nat} (h : n < 256) : ((UInt8.ofNat n).toNat : Int) = n := by rw [UInt8.toNat_ofNat_of_lt' h]

theorem ac_oPut {T : Tab} (b : List UInt8) (c : Option Nat) (m : Nat) (hb : b.length ≤ 1000000000) (hm : m < 18446744073709551616) : ACalls prog f_octet_Put [bts b c, .i .u64 m] T (fun v T' => Own T 1 v (b ++ enc m).length (byteCells (b ++ enc m)) T') := by
  refine acalls_of mixed t_octet_Put (by simp) ?_
  unfold s_octet_Put
  simp -implicitDefEqProofs -dsimp only [go_sem, seval, bts, ↓g_call _ _ c_slices_Clone_byte_byte]
  refine CallK.of (ac_Clone_byte (byteCells_length b) hb) (fun v T1 ho => aft_nil ?_)
  obtain ⟨p1, p2, p3, p4, p5, p6⟩ := ho.form
  simp -implicitDefEqProofs -dsimp only [go_sem, seval, p1, p2, p3, p4, p5, p6]
  refine lp_oPut (T := T) (by repeat' (first | exact finX_ext _ _ | assumption | apply blkR_ext | apply thenR_ext | apply AW_ext)) 9 m (by omega) hm b v T1 (by omega) ho (fun xs' n v T2 hn he ho => ?_)
  obtain ⟨p1, p2, p3, p4, p5, p6⟩ := ho.form
  have hlen : xs'.length + 1 = (b ++ enc m).length := by rw [← he]; simp
  have h10 := enc_len10 hm
  have hbd : xs'.length ≤ 1000000010 := by rw [List.length_append] at hlen; omega
  have hw : IntKind.u8.wrap (n : Int) = ((UInt8.ofNat n).toNat : Int) := by rw [ofNat_u8 (by omega), wrap_u8]; omega
  simp -implicitDefEqProofs -dsimp only [go_sem, seval, hw, p1, p2, p3, p4, p5, p6]
  refine ho.app (m := 1) (news := byteCells [UInt8.ofNat n]) rfl rfl (by omega) (by omega) fun v2 T3 ho => aft_nil ?_
  obtain ⟨p1, p2, p3, p4, p5, p6⟩ := ho.form
  simp -implicitDefEqProofs -dsimp only [go_sem, seval, p1, p2, p3, p4, p5, p6]
  rw [byteCells_append, he, hlen] at ho
  exact ho.fin (fun _ _ h => h)

theorem pc_oPut (b : List UInt8) (c : Option Nat) (m : Nat) (hb : b.length ≤ 1000000000) (hm : m < 18446744073709551616) : PCalls prog f_octet_Put [bts b c, .i .u64 m] (bts (b ++ enc m) none) := by
  refine pcalls_of mixed t_octet_Put (by simp) fun T => ?_
  unfold s_octet_Put
  simp -implicitDefEqProofs -dsimp only [go_sem, seval, bts, ↓g_call _ _ c_slices_Clone_byte_byte]
  refine CallK.of (ac_Clone_byte (byteCells_length b) hb) (fun v T1 ho => aft_nil ?_)
  obtain ⟨p1, p2, p3, p4, p5, p6⟩ := ho.form
  simp -implicitDefEqProofs -dsimp only [go_sem, seval, p1, p2, p3, p4, p5, p6]
  refine lp_oPut (T := T) (by repeat' (first | exact finX_ext _ _ | assumption | apply blkR_ext | apply thenR_ext | apply AW_ext)) 9 m (by omega) hm b v T1 (by omega) ho (fun xs' n v T2 hn he ho => ?_)
  obtain ⟨p1, p2, p3, p4, p5, p6⟩ := ho.form
  have hlen : xs'.length + 1 = (b ++ enc m).length := by rw [← he]; simp
  have h10 := enc_len10 hm
  have hbd : xs'.length ≤ 1000000010 := by rw [List.length_append] at hlen; omega
  have hw : IntKind.u8.wrap (n : Int) = ((UInt8.ofNat n).toNat : Int) := by rw [ofNat_u8 (by omega), wrap_u8]; omega
  simp -implicitDefEqProofs -dsimp only [go_sem, seval, hw, p1, p2, p3, p4, p5, p6]
  refine ho.app (m := 1) (news := byteCells [UInt8.ofNat n]) rfl rfl (by omega) (by omega) fun v2 T3 ho => aft_nil ?_
  obtain ⟨p1, p2, p3, p4, p5, p6⟩ := ho.form
  simp -implicitDefEqProofs -dsimp only [go_sem, seval, p1, p2, p3, p4, p5, p6]
  rw [byteCells_append, he, hlen] at ho
  exact ho.fzn

/-- A text's bytes. -/
def encT (s : List UInt8) : List UInt8 := enc s.length ++ s
theorem wrap_u64n {n : Nat} (h : n < 18446744073709551616) : IntKind.u64.wrap (n : Int) = n := IntWalk.u64_in _ (by omega)

theorem slCells_s {T : Tab} (l : List UInt8) : slCells T 1 (.s l) = some (byteCells l) := rfl
theorem pc_oText (b : List UInt8) (c : Option Nat) (s : List UInt8) (hb : b.length ≤ 1000000000) (hs : s.length ≤ 1000000000) : PCalls prog f_octet_Text [bts b c, .s s] (bts (b ++ encT s) none) := by
  refine pcalls_of mixed t_octet_Text (by simp) fun T => ?_
  unfold s_octet_Text
  have h10 := enc_len10 (m := s.length) (by omega)
  simp -implicitDefEqProofs -dsimp only [go_sem, seval, bts, wrap_u64n (n := s.length) (by omega), ↓g_call _ _ c_octet_Put]
  refine CallK.of (ac_oPut b c s.length hb (by omega)) (fun v T1 ho => aft_nil ?_)
  obtain ⟨p1, p2, p3, p4, p5, p6⟩ := ho.form
  simp -implicitDefEqProofs -dsimp only [go_sem, seval, p1, p2, p3, p4, p5, p6]
  refine ho.app (m := s.length) (news := byteCells s) (slCells_s s) rfl (by rw [List.length_append]; omega) (by rw [List.length_append]; omega) fun v2 T3 ho => aft_nil ?_
  obtain ⟨p1, p2, p3, p4, p5, p6⟩ := ho.form
  simp -implicitDefEqProofs -dsimp only [go_sem, seval, p1, p2, p3, p4, p5, p6]
  rw [byteCells_append, ← List.length_append, List.append_assoc] at ho
  exact ho.fzn

/-! Likewise, in the document's own way. -/
end Go.Aw
