import Derived.Test.YteiamcnjlpbihaaF04Q
import Derived.Test.YteiamcnjlpbihaaL17F04A
import Derived.Test.YteiamcnjlpbihaaAwD
namespace Go.Aw
open Go
open Go.Proofs.Try (prog)
set_option linter.all false
set_option maxHeartbeats 4000000

/-! The sum. -/
abbrev wv (x : W) : AV := .i .u32 (x.toNat : Int)
theorem u32_wrap (n : Nat) (h : n < 4294967296) : IntKind.u32.wrap (n : Int) = n := by
  simp [IntKind.wrap, IntKind.signed, IntKind.bits]; omega
theorem w_of (x : W) : BitVec.ofInt IntKind.u32.bits (x.toNat : Int) = x := by
  show BitVec.ofInt 32 (x.toNat : Int) = x
  rw [BitVec.ofInt_natCast, BitVec.ofNat_toNat]; simp
theorem w_lit (n : Nat) : BitVec.ofInt IntKind.u32.bits ((n : Nat) : Int) = BitVec.ofNat 32 n := by
  show BitVec.ofInt 32 (n : Int) = _
  rw [BitVec.ofInt_natCast]
theorem w_xor (x y : W) : IntKind.u32.wrap ((BitVec.ofInt IntKind.u32.bits (x.toNat : Int) ^^^ BitVec.ofInt IntKind.u32.bits (y.toNat : Int)).toNat : Int) = ((x ^^^ y).toNat : Int) := by
  rw [w_of, w_of]; exact u32_wrap _ (x ^^^ y).isLt
theorem w_and1 (x : W) : IntKind.u32.wrap ((BitVec.ofInt IntKind.u32.bits (x.toNat : Int) &&& BitVec.ofInt IntKind.u32.bits 1).toNat : Int) = ((x &&& 1#32).toNat : Int) := by
  rw [w_of, show BitVec.ofInt IntKind.u32.bits 1 = (1#32 : W) from rfl]; exact u32_wrap _ (x &&& 1#32).isLt
theorem w_poly (x : W) : IntKind.u32.wrap ((BitVec.ofInt IntKind.u32.bits 3988292384 &&& BitVec.ofInt IntKind.u32.bits (x.toNat : Int)).toNat : Int) = ((poly &&& x).toNat : Int) := by
  rw [w_of, show BitVec.ofInt IntKind.u32.bits 3988292384 = (poly : W) from rfl]; exact u32_wrap _ (poly &&& x).isLt
theorem w_neg (x : W) : IntKind.u32.wrap (0 - (x.toNat : Int)) = ((-x).toNat : Int) := by
  have := x.isLt
  simp only [IntKind.wrap, IntKind.signed, IntKind.bits, BitVec.toNat_neg]
  simp; omega
theorem w_shr (x : W) : (x.toNat : Int).fdiv (2 ^ (min 1 32 : Nat)) = ((x >>> 1).toNat : Int) := by
  rw [BitVec.toNat_ushiftRight, Nat.shiftRight_eq_div_pow]
  show (x.toNat : Int).fdiv (2 ^ 1) = _
  rw [Int.fdiv_eq_ediv_of_nonneg _ (by decide)]; norm_cast
theorem bit1_nat (x : W) : bit1 x = (x >>> 1) ^^^ (poly &&& -(x &&& 1#32)) := rfl

theorem lp_bits {R : RPost} (hR : ExtR R) {T : Tab} {l : AV} {n i : AV} (hl : l.plain = true ∧ n.plain = true ∧ i.plain = true) : ∀ (m k : Nat), k + m = 8 → ∀ (x : W),
    R (.exit 2) [(0, wv (it m x)), (7, l), (8, n), (9, i), (17, .i .i64 8), (18, .b false)] [] T →
    AW prog crc_More_l1 R [(0, wv x), (7, l), (8, n), (9, i), (17, .i .i64 k)] [] T := by
  intro m
  induction m with
  | zero =>
    intro k hk x h2
    have : k = 8 := by omega
    subst this
    refine AW_loop hR ?_
    unfold crc_More_l1b
    obtain ⟨h3, h4, h5⟩ := hl
    simp -implicitDefEqProofs -dsimp only [go_sem, seval, show ((8 : Nat) : Int) = 8 from rfl, h3, h4, h5]
    exact h2
  | succ m ih =>
    intro k hk x h2
    have hk8 : (k : Int) < 8 := by omega
    have hws : IntKind.i64.wrap ((k : Int) + 1) = ((k + 1 : Nat) : Int) := wrap_succ (by omega)
    refine AW_loopD (l := crc_More_l1) rfl hR ?_
    unfold crc_More_l1b
    have hl' := hl
    obtain ⟨h3, h4, h5⟩ := hl
    simp -implicitDefEqProofs -dsimp only [go_sem, seval, hk8, h3, h4, h5, hws, w_and1, w_neg, w_poly, w_shr, w_xor]
    rw [← bit1_nat]
    exact ih (k + 1) (by omega) (bit1 x) h2

/-! Bytes. -/
attribute [go_sem] pl_bts lpq_bts one_bts sto_bts cel_bts off_bts
attribute [go_sem ↓] len_bts
theorem bc_at {l : List UInt8} {k : Nat} {b : UInt8} (h : l[k]? = some b) : ((byteCells l).drop k)[0]? = some (.i .u8 (b.toNat : Int)) := by
  simp [byteCells, h]
theorem w_cvi (b : UInt8) : IntKind.u32.wrap (b.toNat : Int) = (((BitVec.ofNat 32 b.toNat : W)).toNat : Int) := by
  have := b.toNat_lt
  rw [u32_wrap _ (by omega), BitVec.toNat_ofNat]; congr 1; omega

theorem lp_more {R : RPost} (hR : ExtR R) {T : Tab} {l : List UInt8} {cap : Option Nat} (hl : l.length ≤ 1000000000) : ∀ (ys : List UInt8) (k : Nat), l.drop k = ys → k ≤ l.length → ∀ (x : W),
    R (.exit 0) [(0, wv (more x ys)), (7, bts l cap), (8, .i .i64 l.length), (9, .i .i64 l.length), (10, .b false)] [] T →
    AW prog crc_More_l0 R [(0, wv x), (7, bts l cap), (8, .i .i64 l.length), (9, .i .i64 k)] [] T := by
  intro ys
  induction ys with
  | nil =>
    intro k hk hle x h2
    have hk' := drop_nil hk hle
    refine AW_loop hR ?_
    unfold crc_More_l0b
    simp -implicitDefEqProofs -dsimp only [go_sem, seval, hk', Int.lt_irrefl]
    rw [hk'] at h2
    exact h2
  | cons y ys ih =>
    intro k hk hle x h2
    obtain ⟨hlt, hy, hk'⟩ := drop_lt hk
    have hws : IntKind.i64.wrap ((k : Int) + 1) = ((k + 1 : Nat) : Int) := wrap_succ (by omega)
    have hc := bc_at hy
    refine AW_loopD (l := crc_More_l0) rfl hR ?_
    unfold crc_More_l0b
    simp -implicitDefEqProofs -dsimp only [go_sem, seval, Int.ofNat_lt, hlt, bts, Int.natCast_nonneg, Int.toNat_natCast, Nat.mul_one, hc, w_cvi, w_xor]
    refine lp_bits (by repeat' (first | exact finX_ext _ _ | assumption | apply blkR_ext | apply thenR_ext | apply AW_ext)) ⟨rfl, rfl, rfl⟩ 8 0 rfl _ ?_
    simp -implicitDefEqProofs -dsimp only [go_sem, seval, hws]
    exact ih (k + 1) hk' hlt _ h2
theorem pc_More (x : W) (l : List UInt8) (cap : Option Nat) (hl : l.length ≤ 1000000000) : PCalls prog f_crc_More [wv x, bts l cap] (wv (more x l)) := by
  refine pcalls_of mixed t_crc_More (by simp) fun T => ?_
  unfold s_crc_More
  simp -implicitDefEqProofs -dsimp only [go_sem, seval]
  refine lp_more (l := l) (cap := cap) (by repeat' (first | exact finX_ext _ _ | assumption | apply blkR_ext | apply thenR_ext | apply AW_ext)) hl l 0 rfl (by omega) x ?_
  simp -implicitDefEqProofs -dsimp only [go_sem, seval]
  exact finL_pure rfl
theorem w_not (x : W) : IntKind.u32.wrap ((BitVec.ofInt IntKind.u32.bits (if IntKind.u32.signed = true then -1 else IntKind.u32.max) ^^^ BitVec.ofInt IntKind.u32.bits (x.toNat : Int)).toNat : Int) = ((~~~x).toNat : Int) := by
  rw [w_of, show (BitVec.ofInt IntKind.u32.bits (if IntKind.u32.signed = true then -1 else IntKind.u32.max)) = (BitVec.allOnes 32 : W) from rfl]
  show IntKind.u32.wrap ((BitVec.allOnes 32 ^^^ x : W).toNat : Int) = _
  rw [BitVec.allOnes_xor]
  exact u32_wrap _ (~~~x).isLt
theorem pc_Of (l : List UInt8) (cap : Option Nat) (hl : l.length ≤ 1000000000) : PCalls prog f_crc_Of [bts l cap] (wv (crcOf l)) := by
  have h := pc_More 4294967295#32 l cap hl
  have e : ((4294967295#32 : W).toNat : Int) = 4294967295 := rfl
  rw [wv, e] at h
  refine pcalls_of mixed t_crc_Of (by simp) fun T => ?_
  unfold s_crc_Of
  simp -implicitDefEqProofs -dsimp only [go_sem, seval, ↓g_call _ _ c_crc_More]
  refine CallK.pure h (aft_nil ?_)
  simp -implicitDefEqProofs -dsimp only [go_sem, seval]
  rw [w_not]
  exact finL_pure rfl

theorem w_u8 (x : W) : IntKind.u8.wrap (x.toNat : Int) = ((byteN x 0).toNat : Int) := by
  simp only [IntKind.wrap, IntKind.signed, IntKind.bits, byteN]
  simp
theorem w_shr8 (x : W) : (x.toNat : Int).fdiv (2 ^ (min 8 32 : Nat)) = ((x >>> 8).toNat : Int) := by
  rw [BitVec.toNat_ushiftRight, Nat.shiftRight_eq_div_pow]
  show (x.toNat : Int).fdiv (2 ^ 8) = _
  rw [Int.fdiv_eq_ediv_of_nonneg _ (by decide)]; norm_cast
def fourK : Nat → W → List UInt8
  | 0, _ => []
  | m + 1, x => byteN x 0 :: fourK m (x >>> 8)
theorem byteN_shr (x : W) (j : Nat) : byteN (x >>> 8) j = byteN x (j + 1) := by
  unfold byteN
  rw [BitVec.toNat_ushiftRight, Nat.shiftRight_eq_div_pow, Nat.div_div_eq_div_mul, show (2 : Nat) ^ 8 = 256 from rfl, Nat.pow_succ, Nat.mul_comm]
theorem fourK_eq (x : W) : fourK 4 x = four x := by
  simp only [fourK, four, byteN_shr]
theorem fourK_len (x : W) : (four x).length = 4 := rfl
theorem lp_seal {R : RPost} (hR : ExtR R) {T : Tab} : ∀ (m k : Nat), k + m = 4 → ∀ (x : W) (bs : List UInt8) (v : AV) (T1 : Tab), bs.length + m ≤ 1000000100 → Own T 1 v bs.length (byteCells bs) T1 →
    (∀ v T1 y, Own T 1 v (bs ++ fourK m x).length (byteCells (bs ++ fourK m x)) T1 → R (.exit 0) [(3, v), (4, y), (9, .i .i64 4), (10, .b false)] [] T1) →
    AW prog crc_Seal_l0 R [(3, v), (4, wv x), (9, .i .i64 k)] [] T1 := by
  intro m
  induction m with
  | zero =>
    intro k hk x bs v T1 hb ho h2
    have : k = 4 := by omega
    subst this
    obtain ⟨p1, p2, p3, p4, p5, p6⟩ := ho.form
    refine AW_loop hR ?_
    unfold crc_Seal_l0b
    simp -implicitDefEqProofs -dsimp only [go_sem, seval, show ((4 : Nat) : Int) = 4 from rfl, p1, p2, p3, p4, p5, p6]
    refine h2 v T1 _ ?_
    rw [fourK, List.append_nil]; exact ho
  | succ m ih =>
    intro k hk x bs v T1 hb ho h2
    have hk4 : (k : Int) < 4 := by omega
    have hws : IntKind.i64.wrap ((k : Int) + 1) = ((k + 1 : Nat) : Int) := wrap_succ (by omega)
    obtain ⟨p1, p2, p3, p4, p5, p6⟩ := ho.form
    refine AW_loopD (l := crc_Seal_l0) rfl hR ?_
    unfold crc_Seal_l0b
    simp -implicitDefEqProofs -dsimp only [go_sem, seval, hk4, p1, p2, p3, p4, p5, p6, w_u8]
    refine ho.app (m := 1) (news := byteCells [byteN x 0]) (by simp [slCells, byteCells]) rfl (by omega) (by omega) fun v' T2 ho2 => aft_nil ?_
    obtain ⟨p1, p2, p3, p4, p5, p6⟩ := ho2.form
    simp -implicitDefEqProofs -dsimp only [go_sem, seval, p1, p2, p3, p4, p5, p6, w_shr8, hws]
    rw [byteCells_append] at ho2
    refine ih (k + 1) (by omega) (x >>> 8) (bs ++ [byteN x 0]) v' T2 ?_ ?_ fun v T1 y h => h2 v T1 y ?_
    · simp only [List.length_append, List.length_cons, List.length_nil]; omega
    · rw [List.length_append]; exact ho2
    · rw [fourK]; simpa using h

theorem ac_Seal (l : List UInt8) (cap : Option Nat) (hl : l.length ≤ 1000000000) (T : Tab) : ACalls prog f_crc_Seal [bts l cap] T (fun r T' => Own T 1 r (sealL l).length (byteCells (sealL l)) T') := by
  refine acalls_of mixed t_crc_Seal (by simp) ?_
  unfold s_crc_Seal
  simp -implicitDefEqProofs -dsimp only [go_sem, seval, ↓g_call _ _ c_slices_Clone_byte_byte]
  refine CallK.of (ac_Clone_byte (n := l.length) (byteCells_length l) hl) (fun v T1 ho => aft_nil ?_)
  obtain ⟨p1, p2, p3, p4, p5, p6⟩ := ho.form
  simp -implicitDefEqProofs -dsimp only [go_sem, seval, p1, p2, p3, p4, p5, p6, ↓g_call _ _ c_crc_Of]
  refine CallK.pure (pc_Of l cap hl) (aft_nil ?_)
  simp -implicitDefEqProofs -dsimp only [go_sem, seval, p1, p2, p3, p4, p5, p6]
  refine lp_seal (T := T) (by repeat' (first | exact finX_ext _ _ | assumption | apply blkR_ext | apply thenR_ext | apply AW_ext)) 4 0 rfl (crcOf l) l v T1 (by omega) ho (fun v T1 y ho => ?_)
  obtain ⟨p1, p2, p3, p4, p5, p6⟩ := ho.form
  simp -implicitDefEqProofs -dsimp only [go_sem, seval, p1, p2, p3, p4, p5, p6]
  rw [fourK_eq] at ho
  exact ho.fin fun v T' h => h
theorem pc_Seal (l : List UInt8) (cap : Option Nat) (hl : l.length ≤ 1000000000) : PCalls prog f_crc_Seal [bts l cap] (bts (sealL l) none) := by
  refine pcalls_of mixed t_crc_Seal (by simp) fun T => ?_
  unfold s_crc_Seal
  simp -implicitDefEqProofs -dsimp only [go_sem, seval, ↓g_call _ _ c_slices_Clone_byte_byte]
  refine CallK.of (ac_Clone_byte (n := l.length) (byteCells_length l) hl) (fun v T1 ho => aft_nil ?_)
  obtain ⟨p1, p2, p3, p4, p5, p6⟩ := ho.form
  simp -implicitDefEqProofs -dsimp only [go_sem, seval, p1, p2, p3, p4, p5, p6, ↓g_call _ _ c_crc_Of]
  refine CallK.pure (pc_Of l cap hl) (aft_nil ?_)
  simp -implicitDefEqProofs -dsimp only [go_sem, seval, p1, p2, p3, p4, p5, p6]
  refine lp_seal (T := T) (by repeat' (first | exact finX_ext _ _ | assumption | apply blkR_ext | apply thenR_ext | apply AW_ext)) 4 0 rfl (crcOf l) l v T1 (by omega) ho (fun v T1 y ho => ?_)
  obtain ⟨p1, p2, p3, p4, p5, p6⟩ := ho.form
  simp -implicitDefEqProofs -dsimp only [go_sem, seval, p1, p2, p3, p4, p5, p6]
  rw [fourK_eq] at ho
  exact finL_bts ho rfl

/-! Are two the same? -/
def wholeL (l : List UInt8) : Bool := decide (4 ≤ l.length) && decide (sealL (l.take (l.length - 4)) = l)
end Go.Aw
