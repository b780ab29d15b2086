import Derived.Test.YtdgknlkijgomoaaDoorF04X
namespace Go.Aw
open Go
open Go.Proofs.Tryd (prog)
set_option linter.all false
set_option maxHeartbeats 4000000

/-! The document's own sum and frames. -/
theorem w_odd (x : W) : decide ((x.toNat : Int).tmod 2 = 1) = x.getLsbD 0 := by
  rw [Int.tmod_eq_emod_of_nonneg (by omega)]
  have : x.getLsbD 0 = decide (x.toNat % 2 = 1) := by
    rw [← BitVec.testBit_toNat, Nat.testBit_zero]
  rw [this]
  congr 1
  apply propext
  omega
theorem w_half (x : W) : IntKind.u32.wrap ((x.toNat : Int).tdiv 2) = ((x >>> 1).toNat : Int) := by
  rw [Int.tdiv_eq_ediv_of_nonneg (by omega), BitVec.toNat_ushiftRight, Nat.shiftRight_eq_div_pow]
  have := x.isLt
  have e : ((x.toNat : Int) / 2) = ((x.toNat / 2 : Nat) : Int) := by omega
  rw [e, u32_wrap _ (by omega)]
theorem w_xpoly (x : W) : IntKind.u32.wrap ((BitVec.ofInt IntKind.u32.bits (x.toNat : Int) ^^^ BitVec.ofInt IntKind.u32.bits 3988292384).toNat : Int) = ((x ^^^ poly).toNat : Int) := by
  rw [w_of, show BitVec.ofInt IntKind.u32.bits 3988292384 = (poly : W) from rfl]; exact u32_wrap _ (x ^^^ poly).isLt
theorem lp_rbits {R : RPost} (hR : ExtR R) {T : Tab} {l n i : AV} (hl : l.plain = true ∧ n.plain = true ∧ i.plain = true) : ∀ (m k : Nat), k + m = 8 → ∀ (x : W),
    R (.exit 2) [(0, wv (it m x)), (7, .i .i64 8), (9, l), (10, n), (11, i), (20, .b false)] [] T →
    AW prog sautoirref02_More_l1 R [(0, wv x), (7, .i .i64 k), (9, l), (10, n), (11, i)] [] T := by
  intro m
  induction m with
  | zero =>
    intro k hk x h2
    have : k = 8 := by omega
    subst this
    refine AW_loop hR ?_
    unfold sautoirref02_More_l1b
    obtain ⟨h3, h4, h5⟩ := hl
    simp -implicitDefEqProofs -dsimp only [go_sem, Nat.reduceEqDiff, Nat.reduceAdd, Nat.reduceMul, Nat.reduceSub, Nat.reduceLT, Nat.reduceLeDiff, Nat.reduceBEq, reduceIte, reduceCtorEq, Int.reduceLT, Int.reduceLE, Int.reduceEq, Int.reduceNeg, Int.reduceToNat, Int.reduceAdd, Int.reduceSub, show ((8 : Nat) : Int) = 8 from rfl, h3, h4, h5]
    exact h2
  | succ m ih =>
    intro k hk x h2
    have hk8 : (k : Int) < 8 := by omega
    have hws : IntKind.i64.wrap ((k : Int) + 1) = ((k + 1 : Nat) : Int) := wrap_succ (by omega)
    refine AW_loopD (l := sautoirref02_More_l1) rfl hR ?_
    unfold sautoirref02_More_l1b
    have hl' := hl
    obtain ⟨h3, h4, h5⟩ := hl
    have hb1 := bit1_eq x
    rcases hb : x.getLsbD 0 with _ | _
    · have ho := w_odd x
      rw [hb] at ho hb1
      simp -implicitDefEqProofs -dsimp only [go_sem, Nat.reduceEqDiff, Nat.reduceAdd, Nat.reduceMul, Nat.reduceSub, Nat.reduceLT, Nat.reduceLeDiff, Nat.reduceBEq, reduceIte, reduceCtorEq, Int.reduceLT, Int.reduceLE, Int.reduceEq, Int.reduceNeg, Int.reduceToNat, Int.reduceAdd, Int.reduceSub, hk8, h3, h4, h5, hws, ho, w_half]
      have e : bit1 x = x >>> 1 := by rw [hb1]; simp
      rw [← e]
      exact ih (k + 1) (by omega) (bit1 x) h2
    · have ho := w_odd x
      rw [hb] at ho hb1
      simp -implicitDefEqProofs -dsimp only [go_sem, Nat.reduceEqDiff, Nat.reduceAdd, Nat.reduceMul, Nat.reduceSub, Nat.reduceLT, Nat.reduceLeDiff, Nat.reduceBEq, reduceIte, reduceCtorEq, Int.reduceLT, Int.reduceLE, Int.reduceEq, Int.reduceNeg, Int.reduceToNat, Int.reduceAdd, Int.reduceSub, hk8, h3, h4, h5, hws, ho, w_half, w_xpoly]
      have e : bit1 x = x >>> 1 ^^^ poly := by rw [hb1]; simp
      rw [← e]
      exact ih (k + 1) (by omega) (bit1 x) h2
theorem lp_rmore {R : RPost} (hR : ExtR R) {T : Tab} {l : List UInt8} {cap : Option Nat} (hl : l.length ≤ 1000000000) : ∀ (ys : List UInt8) (k : Nat), l.drop k = ys → k ≤ l.length → ∀ (x : W),
    R (.exit 0) [(0, wv (more x ys)), (9, bts l cap), (10, .i .i64 l.length), (11, .i .i64 l.length), (12, .b false)] [] T →
    AW prog sautoirref02_More_l0 R [(0, wv x), (9, bts l cap), (10, .i .i64 l.length), (11, .i .i64 k)] [] T := by
  intro ys
  induction ys with
  | nil =>
    intro k hk hle x h2
    have hk' := drop_nil hk hle
    refine AW_loop hR ?_
    unfold sautoirref02_More_l0b
    simp -implicitDefEqProofs -dsimp only [go_sem, Nat.reduceEqDiff, Nat.reduceAdd, Nat.reduceMul, Nat.reduceSub, Nat.reduceLT, Nat.reduceLeDiff, Nat.reduceBEq, reduceIte, reduceCtorEq, Int.reduceLT, Int.reduceLE, Int.reduceEq, Int.reduceNeg, Int.reduceToNat, Int.reduceAdd, Int.reduceSub, hk', Int.lt_irrefl]
    rw [hk'] at h2
    exact h2
  | cons y ys ih =>
    intro k hk hle x h2
    obtain ⟨hlt, hy, hk'⟩ := drop_lt hk
    have hws : IntKind.i64.wrap ((k : Int) + 1) = ((k + 1 : Nat) : Int) := wrap_succ (by omega)
    have hc := bc_at hy
    refine AW_loopD (l := sautoirref02_More_l0) rfl hR ?_
    unfold sautoirref02_More_l0b
    simp -implicitDefEqProofs -dsimp only [go_sem, Nat.reduceEqDiff, Nat.reduceAdd, Nat.reduceMul, Nat.reduceSub, Nat.reduceLT, Nat.reduceLeDiff, Nat.reduceBEq, reduceIte, reduceCtorEq, Int.reduceLT, Int.reduceLE, Int.reduceEq, Int.reduceNeg, Int.reduceToNat, Int.reduceAdd, Int.reduceSub, Int.ofNat_lt, hlt, bts, Int.natCast_nonneg, Int.toNat_natCast, Nat.mul_one, hc, w_cvi, w_xor]
    refine lp_rbits (by repeat' (first | exact finX_ext _ _ | assumption | apply blkR_ext | apply thenR_ext | apply AW_ext)) ⟨rfl, rfl, rfl⟩ 8 0 rfl _ ?_
    simp -implicitDefEqProofs -dsimp only [go_sem, Nat.reduceEqDiff, Nat.reduceAdd, Nat.reduceMul, Nat.reduceSub, Nat.reduceLT, Nat.reduceLeDiff, Nat.reduceBEq, reduceIte, reduceCtorEq, Int.reduceLT, Int.reduceLE, Int.reduceEq, Int.reduceNeg, Int.reduceToNat, Int.reduceAdd, Int.reduceSub, hws]
    exact ih (k + 1) hk' hlt _ h2
theorem pc_rMore (x : W) (l : List UInt8) (cap : Option Nat) (hl : l.length ≤ 1000000000) : PCalls prog f_sautoirref02_More [wv x, bts l cap] (wv (more x l)) := by
  refine pcalls_of mixed t_sautoirref02_More (by simp) fun T => ?_
  unfold s_sautoirref02_More
  simp -implicitDefEqProofs -dsimp only [go_sem, Nat.reduceEqDiff, Nat.reduceAdd, Nat.reduceMul, Nat.reduceSub, Nat.reduceLT, Nat.reduceLeDiff, Nat.reduceBEq, reduceIte, reduceCtorEq, Int.reduceLT, Int.reduceLE, Int.reduceEq, Int.reduceNeg, Int.reduceToNat, Int.reduceAdd, Int.reduceSub]
  refine lp_rmore (l := l) (cap := cap) (by repeat' (first | exact finX_ext _ _ | assumption | apply blkR_ext | apply thenR_ext | apply AW_ext)) hl l 0 rfl (by omega) x ?_
  simp -implicitDefEqProofs -dsimp only [go_sem, Nat.reduceEqDiff, Nat.reduceAdd, Nat.reduceMul, Nat.reduceSub, Nat.reduceLT, Nat.reduceLeDiff, Nat.reduceBEq, reduceIte, reduceCtorEq, Int.reduceLT, Int.reduceLE, Int.reduceEq, Int.reduceNeg, Int.reduceToNat, Int.reduceAdd, Int.reduceSub]
  exact finL_pure rfl
theorem w_sub (x : W) : IntKind.u32.wrap (4294967295 - (x.toNat : Int)) = ((~~~x).toNat : Int) := by
  have h := x.isLt
  rw [BitVec.toNat_not]
  have e : (4294967295 - (x.toNat : Int)) = ((4294967295 - x.toNat : Nat) : Int) := by omega
  rw [e, u32_wrap _ (by omega)]
theorem pc_rOf (l : List UInt8) (cap : Option Nat) (hl : l.length ≤ 1000000000) : PCalls prog f_sautoirref02_Of [bts l cap] (wv (crcOf l)) := by
  have h := pc_rMore 4294967295#32 l cap hl
  have e : ((4294967295#32 : W).toNat : Int) = 4294967295 := rfl
  rw [wv, e] at h
  refine pcalls_of mixed t_sautoirref02_Of (by simp) fun T => ?_
  unfold s_sautoirref02_Of
  simp -implicitDefEqProofs -dsimp only [go_sem, Nat.reduceEqDiff, Nat.reduceAdd, Nat.reduceMul, Nat.reduceSub, Nat.reduceLT, Nat.reduceLeDiff, Nat.reduceBEq, reduceIte, reduceCtorEq, Int.reduceLT, Int.reduceLE, Int.reduceEq, Int.reduceNeg, Int.reduceToNat, Int.reduceAdd, Int.reduceSub, ↓g_call _ _ c_sautoirref02_More]
  refine CallK.pure h (aft_nil ?_)
  simp -implicitDefEqProofs -dsimp only [go_sem, Nat.reduceEqDiff, Nat.reduceAdd, Nat.reduceMul, Nat.reduceSub, Nat.reduceLT, Nat.reduceLeDiff, Nat.reduceBEq, reduceIte, reduceCtorEq, Int.reduceLT, Int.reduceLE, Int.reduceEq, Int.reduceNeg, Int.reduceToNat, Int.reduceAdd, Int.reduceSub, w_sub]
  exact finL_pure rfl
theorem w_n0 (x : W) : IntKind.u8.wrap ((x.toNat : Int).tmod 256) = ((byteN x 0).toNat : Int) := by
  rw [Int.tmod_eq_emod_of_nonneg (by omega)]
  simp only [IntKind.wrap, IntKind.signed, IntKind.bits, byteN]
  simp
theorem w_nk (x : W) (k : Nat) (d : Nat) (hd : 256 ^ k = d) : IntKind.u8.wrap ((IntKind.u32.wrap ((x.toNat : Int).tdiv d)).tmod 256) = ((byteN x k).toNat : Int) := by
  have h := x.isLt
  have h2 : x.toNat / d < 4294967296 := Nat.lt_of_le_of_lt (Nat.div_le_self _ _) h
  rw [Int.tdiv_eq_ediv_of_nonneg (by omega), ← Int.natCast_ediv, u32_wrap _ h2, Int.tmod_eq_emod_of_nonneg (Int.natCast_nonneg _)]
  simp only [IntKind.wrap, IntKind.signed, IntKind.bits, byteN, hd]
  simp
theorem w_n3 (x : W) : IntKind.u8.wrap (IntKind.u32.wrap ((x.toNat : Int).tdiv 16777216)) = ((byteN x 3).toNat : Int) := by
  have h := x.isLt
  have h2 : x.toNat / 16777216 < 256 := by omega
  rw [Int.tdiv_eq_ediv_of_nonneg (by omega), show ((x.toNat : Int) / 16777216) = ((x.toNat / 16777216 : Nat) : Int) from rfl, u32_wrap _ (by omega)]
  simp only [IntKind.wrap, IntKind.signed, IntKind.bits, byteN]
  simp
theorem pc_rFour (x : W) : PCalls prog f_sautoirref02_Four [wv x] (bts (four x) (some 4)) := by
  refine pcalls_of mixed t_sautoirref02_Four (by simp) fun T => ?_
  have h1 : IntKind.u8.wrap ((IntKind.u32.wrap ((x.toNat : Int).tdiv 256)).tmod 256) = ((byteN x 1).toNat : Int) := w_nk x 1 256 rfl
  have h2 : IntKind.u8.wrap ((IntKind.u32.wrap ((x.toNat : Int).tdiv 65536)).tmod 256) = ((byteN x 2).toNat : Int) := w_nk x 2 65536 rfl
  unfold s_sautoirref02_Four
  simp -implicitDefEqProofs -dsimp only [go_sem, Nat.reduceEqDiff, Nat.reduceAdd, Nat.reduceMul, Nat.reduceSub, Nat.reduceLT, Nat.reduceLeDiff, Nat.reduceBEq, reduceIte, reduceCtorEq, Int.reduceLT, Int.reduceLE, Int.reduceEq, Int.reduceNeg, Int.reduceToNat, Int.reduceAdd, Int.reduceSub, w_n0, h1, h2, w_n3]
  exact finL_pure rfl
theorem w_rhi (n : Nat) (h : n ≤ 65535) : IntKind.u8.wrap (IntKind.i64.wrap ((n : Int).tdiv 256)) = ((hiB n).toNat : Int) := by
  rw [Int.tdiv_eq_ediv_of_nonneg (Int.natCast_nonneg _), show ((n : Int) / 256) = ((n / 256 : Nat) : Int) from rfl, wrap_i64 (by unfold I64; omega)]
  simp only [IntKind.wrap, IntKind.signed, IntKind.bits, hiB]
  simp
theorem w_rlo (n : Nat) : IntKind.u8.wrap ((n : Int).tmod 256) = ((loB n).toNat : Int) := by
  rw [Int.tmod_eq_emod_of_nonneg (Int.natCast_nonneg _)]
  simp only [IntKind.wrap, IntKind.signed, IntKind.bits, loB]
  simp
theorem pc_rPut (p : List UInt8) (cap : Option Nat) (h1 : 1 ≤ p.length) (hl : p.length ≤ 65535) : PCalls prog f_sautoirref04_Put [bts p cap] (bts (frm p) none) := by
  refine pcalls_of mixed t_sautoirref04_Put (by simp) fun T => ?_
  unfold s_sautoirref04_Put
  simp -implicitDefEqProofs -dsimp only [go_sem, Nat.reduceEqDiff, Nat.reduceAdd, Nat.reduceMul, Nat.reduceSub, Nat.reduceLT, Nat.reduceLeDiff, Nat.reduceBEq, reduceIte, reduceCtorEq, Int.reduceLT, Int.reduceLE, Int.reduceEq, Int.reduceNeg, Int.reduceToNat, Int.reduceAdd, Int.reduceSub, w_rhi _ hl, w_rlo]
  have hg : Gr T 1 (.fz 2 (byteCells [hiB p.length, loB p.length]) (some 2)) 2 (byteCells [hiB p.length, loB p.length]) T := .inr ⟨rfl, rfl, rfl⟩
  refine hg.app (m := p.length) (slCells_bytes _ _) rfl (by omega) (by omega) (by omega) fun v1 T1 ho => aft_nil ?_
  obtain ⟨p1, p2, p3, p4, p5, p6⟩ := ho.form
  simp -implicitDefEqProofs -dsimp only [go_sem, Nat.reduceEqDiff, Nat.reduceAdd, Nat.reduceMul, Nat.reduceSub, Nat.reduceLT, Nat.reduceLeDiff, Nat.reduceBEq, reduceIte, reduceCtorEq, Int.reduceLT, Int.reduceLE, Int.reduceEq, Int.reduceNeg, Int.reduceToNat, Int.reduceAdd, Int.reduceSub, p1, p2, p3, p4, p5, p6, ↓g_call _ _ c_sautoirref02_Of]
  rw [byteCells_append] at ho
  have eo : [hiB p.length, loB p.length] ++ p = hiB p.length :: loB p.length :: p := rfl
  rw [eo] at ho
  obtain ⟨q, hq⟩ : ∃ q, q = hiB p.length :: loB p.length :: p := ⟨_, rfl⟩
  rw [← hq] at ho
  have hql : 2 + p.length = q.length := by rw [hq]; simp only [List.length_cons]; omega
  rw [hql] at ho
  refine CallK.borrow (Owns.one ho) (r := wv (crcOf q)) (fun S hS => ?_) .i (aft_nil ?_)
  · obtain ⟨c, e⟩ := hS _ (List.mem_cons_self ..)
    simp only at e
    simp only [List.map_cons, List.map_nil, ho.frzv, e]
    exact pc_rOf q c (by omega)
  simp -implicitDefEqProofs -dsimp only [go_sem, Nat.reduceEqDiff, Nat.reduceAdd, Nat.reduceMul, Nat.reduceSub, Nat.reduceLT, Nat.reduceLeDiff, Nat.reduceBEq, reduceIte, reduceCtorEq, Int.reduceLT, Int.reduceLE, Int.reduceEq, Int.reduceNeg, Int.reduceToNat, Int.reduceAdd, Int.reduceSub, p1, p2, p3, p4, p5, p6, ↓g_call _ _ c_sautoirref02_Four]
  refine CallK.pure (pc_rFour _) (aft_nil ?_)
  simp -implicitDefEqProofs -dsimp only [go_sem, Nat.reduceEqDiff, Nat.reduceAdd, Nat.reduceMul, Nat.reduceSub, Nat.reduceLT, Nat.reduceLeDiff, Nat.reduceBEq, reduceIte, reduceCtorEq, Int.reduceLT, Int.reduceLE, Int.reduceEq, Int.reduceNeg, Int.reduceToNat, Int.reduceAdd, Int.reduceSub, p1, p2, p3, p4, p5, p6]
  refine ho.app (m := 4) (slCells_bytes _ _) rfl (by omega) (by omega) fun v2 T2 ho2 => aft_nil ?_
  rw [byteCells_append] at ho2
  obtain ⟨p1, p2, p3, p4, p5, p6⟩ := ho2.form
  simp -implicitDefEqProofs -dsimp only [go_sem, Nat.reduceEqDiff, Nat.reduceAdd, Nat.reduceMul, Nat.reduceSub, Nat.reduceLT, Nat.reduceLeDiff, Nat.reduceBEq, reduceIte, reduceCtorEq, Int.reduceLT, Int.reduceLE, Int.reduceEq, Int.reduceNeg, Int.reduceToNat, Int.reduceAdd, Int.reduceSub, p1, p2, p3, p4, p5, p6]
  have hg : Gr T2 1 (.fz 1 [.i .u8 197] (some 1)) 1 (byteCells [197]) T2 := .inr ⟨rfl, rfl, rfl⟩
  have hsl := ho2.sl
  refine hg.app (m := q.length + 4) hsl.1 hsl.2 (by omega) (by omega) (by omega) fun v3 T3 ho3 => aft_nil ?_
  obtain ⟨p1, p2, p3, p4, p5, p6⟩ := ho3.form
  simp -implicitDefEqProofs -dsimp only [go_sem, Nat.reduceEqDiff, Nat.reduceAdd, Nat.reduceMul, Nat.reduceSub, Nat.reduceLT, Nat.reduceLeDiff, Nat.reduceBEq, reduceIte, reduceCtorEq, Int.reduceLT, Int.reduceLE, Int.reduceEq, Int.reduceNeg, Int.reduceToNat, Int.reduceAdd, Int.reduceSub, p1, p2, p3, p4, p5, p6]
  have how : Owns T [⟨1, v3, 1 + (q.length + 4), byteCells [197] ++ byteCells (q ++ four (crcOf q))⟩, ⟨1, v2, q.length + 4, byteCells (q ++ four (crcOf q))⟩] T3 := ⟨T2, Owns.one ho2, ho3⟩
  refine finL_owns how fun S hS => ?_
  obtain ⟨c, e⟩ := hS _ (List.mem_cons_self ..)
  simp only at e
  have hv : frzt T3 S v3 = frz1 T3 S v3 := by
    rcases ho3.2 with ⟨rfl, _⟩ | ⟨id, rfl, _⟩ <;> rfl
  rw [hv, e, byteCells_append, show 1 + (q.length + 4) = (frm p).length by rw [frm_len]; omega, show [197] ++ (q ++ four (crcOf q)) = frm p by rw [frm, sealL, ← hq]; rfl]
  exact .fz

/-- The record at a place, and why there is none. -/
def rnR (c : List UInt8) (k : Option Nat) : AV := match nxE c with
  | some (_, e) => .tup [.fz 0 [] (some 0), .i .i64 0, .i .i64 e]
  | none => .tup [bts (nxRec c) k, .i .i64 (szOf c + 7 : Nat), .i .i64 0]
theorem pc_rNext (b : List UInt8) (cap : Option Nat) (at' : Nat) (ha : at' ≤ b.length) (hl : b.length ≤ 1000000000) : PCalls prog f_sautoirref04_Next [bts b cap, .i .i64 at'] (rnR (b.drop at') (Option.map (fun x => x - (at' + 3)) cap)) := by
  refine pcalls_of mixed t_sautoirref04_Next (by simp) fun T => ?_
  obtain ⟨c, hc⟩ : ∃ c, c = b.drop at' := ⟨_, rfl⟩
  have hcl : c.length = b.length - at' := by rw [hc, List.length_drop]
  have wl : IntKind.i64.wrap ((b.length : Int) - at') = (c.length : Int) := (wrap_i64 (by unfold I64; omega)).trans (by omega)
  have hat : ∀ j, c[j]? = b[at' + j]? := fun j => by rw [hc, List.getElem?_drop]
  rw [← hc]
  unfold s_sautoirref04_Next
  by_cases h0 : c = []
  · have e : nxE c = some ([101, 110, 100], 6) := by unfold nxE; rw [if_pos h0]
    have d0 : decide ((c.length : Int) = 0) = true := decide_eq_true (by rw [h0]; rfl)
    simp -implicitDefEqProofs -dsimp only [go_sem, Nat.reduceEqDiff, Nat.reduceAdd, Nat.reduceMul, Nat.reduceSub, Nat.reduceLT, Nat.reduceLeDiff, Nat.reduceBEq, reduceIte, reduceCtorEq, Int.reduceLT, Int.reduceLE, Int.reduceEq, Int.reduceNeg, Int.reduceToNat, Int.reduceAdd, Int.reduceSub, wl, d0]
    rw [rnR, e]
    exact finL_pure rfl
  have hp : 0 < c.length := List.length_pos_iff.2 h0
  have d0 : decide ((c.length : Int) = 0) = false := decide_eq_false (by omega)
  obtain ⟨x, hx⟩ : ∃ x, c[0]? = some x := ⟨_, List.getElem?_eq_getElem hp⟩
  have hx' := bc_at (show b[at']? = some x by rw [← hx, hat 0]; rfl)
  have hp' : (at' : Int) < b.length := by omega
  have ex : bAt c 0 = x := by unfold bAt; rw [hx]; rfl
  by_cases h1 : x = 197
  · subst h1
    by_cases h3 : c.length < 3
    · have e : nxE c = some ([104, 101, 97, 100], 4) := by unfold nxE; rw [if_neg h0, if_neg (by rw [ex]; simp), if_pos h3]
      have d3 : decide ((c.length : Int) < 3) = true := decide_eq_true (by omega)
      simp -implicitDefEqProofs -dsimp only [go_sem, Nat.reduceEqDiff, Nat.reduceAdd, Nat.reduceMul, Nat.reduceSub, Nat.reduceLT, Nat.reduceLeDiff, Nat.reduceBEq, reduceIte, reduceCtorEq, Int.reduceLT, Int.reduceLE, Int.reduceEq, Int.reduceNeg, Int.reduceToNat, Int.reduceAdd, Int.reduceSub, wl, d0, bts, hp', Int.natCast_nonneg, Int.toNat_natCast, Nat.mul_one, hx', d3, e197, Bool.not_true]
      rw [rnR, e]
      exact finL_pure rfl
    have d3 : decide ((c.length : Int) < 3) = false := decide_eq_false (by omega)
    obtain ⟨y, hy⟩ : ∃ y, c[1]? = some y := ⟨_, List.getElem?_eq_getElem (by omega)⟩
    obtain ⟨z, hz⟩ : ∃ z, c[2]? = some z := ⟨_, List.getElem?_eq_getElem (by omega)⟩
    have hy' := bc_at (show b[at' + 1]? = some y by rw [← hy, hat 1])
    have hz' := bc_at (show b[at' + 2]? = some z by rw [← hz, hat 2])
    have ey : bAt c 1 = y := by unfold bAt; rw [hy]; rfl
    have ez : bAt c 2 = z := by unfold bAt; rw [hz]; rfl
    have l1 : ((at' + 1 : Nat) : Int) < b.length := by omega
    have l2 : ((at' + 2 : Nat) : Int) < b.length := by omega
    have hby := y.toNat_lt
    have hbz := z.toNat_lt
    have w1 : IntKind.i64.wrap ((at' : Int) + 1) = ((at' + 1 : Nat) : Int) := (wrap_i64 (by unfold I64; omega)).trans (by omega)
    have w2 : IntKind.i64.wrap ((at' : Int) + 2) = ((at' + 2 : Nat) : Int) := (wrap_i64 (by unfold I64; omega)).trans (by omega)
    have w3 : IntKind.i64.wrap ((at' : Int) + 3) = ((at' + 3 : Nat) : Int) := (wrap_i64 (by unfold I64; omega)).trans (by omega)
    have w7 : IntKind.i64.wrap ((at' : Int) + 7) = ((at' + 7 : Nat) : Int) := (wrap_i64 (by unfold I64; omega)).trans (by omega)
    have c64 : ∀ u : UInt8, IntKind.i64.wrap (u.toNat : Int) = u.toNat := fun u => wrap_i64 (by have := u.toNat_lt; unfold I64; omega)
    have es : szOf c = y.toNat * 256 + z.toNat := by unfold szOf; rw [ey, ez]
    obtain ⟨n, hn⟩ : ∃ n : Nat, n = y.toNat * 256 + z.toNat := ⟨_, rfl⟩
    have hw1 : IntKind.i64.wrap (256 * (y.toNat : Int)) = 256 * (y.toNat : Int) := wrap_i64 (by unfold I64; omega)
    have hw2 : IntKind.i64.wrap (256 * (y.toNat : Int) + z.toNat) = (n : Int) := (wrap_i64 (by unfold I64; omega)).trans (by omega)
    rw [← hn] at es
    have hn6 : n < 65536 := by omega
    have v7 : IntKind.i64.wrap (7 + (n : Int)) = ((n + 7 : Nat) : Int) := (wrap_i64 (by unfold I64; omega)).trans (by omega)
    have v3 : IntKind.i64.wrap (((at' + 3 : Nat) : Int) + n) = ((at' + 3 + n : Nat) : Int) := (wrap_i64 (by unfold I64; omega)).trans (by omega)
    have v8 : IntKind.i64.wrap (((at' + 7 : Nat) : Int) + n) = ((at' + 7 + n : Nat) : Int) := (wrap_i64 (by unfold I64; omega)).trans (by omega)
    have nE : nxE c = (if szOf c = 0 then some ([115, 105, 122, 101], 3) else if c.length < szOf c + 7 then some ([114, 101, 99, 111, 114, 100], 4) else
        if wholeL ((c.take (szOf c + 7)).drop 1) = false then some ([115, 117, 109], 5) else none) := by
      unfold nxE; rw [if_neg h0, if_neg (by rw [ex]; simp), if_neg h3]
    rw [es] at nE
    simp -implicitDefEqProofs -dsimp only [go_sem, Nat.reduceEqDiff, Nat.reduceAdd, Nat.reduceMul, Nat.reduceSub, Nat.reduceLT, Nat.reduceLeDiff, Nat.reduceBEq, reduceIte, reduceCtorEq, Int.reduceLT, Int.reduceLE, Int.reduceEq, Int.reduceNeg, Int.reduceToNat, Int.reduceAdd, Int.reduceSub, wl, d0, bts, hp', Int.natCast_nonneg, Int.toNat_natCast, Nat.mul_one, hx', d3, e197, Bool.not_true, w1, w2, l1, l2, hy', hz', c64, hw1, hw2]
    by_cases hz0 : n = 0
    · rw [if_pos hz0] at nE
      have d4 : decide ((n : Int) = 0) = true := decide_eq_true (by omega)
      simp -implicitDefEqProofs -dsimp only [go_sem, Nat.reduceEqDiff, Nat.reduceAdd, Nat.reduceMul, Nat.reduceSub, Nat.reduceLT, Nat.reduceLeDiff, Nat.reduceBEq, reduceIte, reduceCtorEq, Int.reduceLT, Int.reduceLE, Int.reduceEq, Int.reduceNeg, Int.reduceToNat, Int.reduceAdd, Int.reduceSub, d4]
      rw [rnR, nE]
      exact finL_pure rfl
    rw [if_neg hz0] at nE
    have d4 : decide ((n : Int) = 0) = false := decide_eq_false (by omega)
    by_cases h7 : c.length < n + 7
    · rw [if_pos h7] at nE
      have d5 : decide ((c.length : Int) < ((n + 7 : Nat) : Int)) = true := decide_eq_true (by omega)
      simp -implicitDefEqProofs -dsimp only [go_sem, Nat.reduceEqDiff, Nat.reduceAdd, Nat.reduceMul, Nat.reduceSub, Nat.reduceLT, Nat.reduceLeDiff, Nat.reduceBEq, reduceIte, reduceCtorEq, Int.reduceLT, Int.reduceLE, Int.reduceEq, Int.reduceNeg, Int.reduceToNat, Int.reduceAdd, Int.reduceSub, d4, v7, d5]
      rw [rnR, nE]
      exact finL_pure rfl
    rw [if_neg h7] at nE
    have d5 : decide ((c.length : Int) < ((n + 7 : Nat) : Int)) = false := decide_eq_false (by omega)
    obtain ⟨A, hA⟩ : ∃ A, A = (b.drop (at' + 1)).take (at' + 3 + n - (at' + 1)) := ⟨_, rfl⟩
    obtain ⟨B, hB⟩ : ∃ B, B = (b.drop (at' + 3 + n)).take (at' + 7 + n - (at' + 3 + n)) := ⟨_, rfl⟩
    have s1 : at' + 1 ≤ at' + 3 + n ∧ at' + 3 + n ≤ b.length := by omega
    have s2 : at' + 3 + n ≤ at' + 7 + n ∧ at' + 7 + n ≤ b.length := by omega
    have s3 : at' + 3 ≤ at' + 3 + n ∧ at' + 3 + n ≤ b.length := by omega
    have eA : A.length = at' + 3 + n - (at' + 1) := by rw [hA, List.length_take, List.length_drop]; omega
    have eB : B.length = at' + 7 + n - (at' + 3 + n) := by rw [hB, List.length_take, List.length_drop]; omega
    have cOf := pc_rOf A (Option.map (fun x => x - (at' + 1)) cap) (by omega)
    have cF := pc_rFour (crcOf A)
    simp only [bts, eA] at cOf
    simp only [bts, fourK_len] at cF
    have hwh : wholeL ((c.take (n + 7)).drop 1) = decide (four (crcOf A) = B) := by
      obtain ⟨L, hL⟩ : ∃ L, L = (c.take (n + 7)).drop 1 := ⟨_, rfl⟩
      have eL : L.length = n + 6 := by rw [hL, List.length_drop, List.length_take]; omega
      have e1 : L.take (n + 2) = A := by
        rw [hL, hA, hc, List.drop_take, List.drop_drop, List.take_take, show at' + 3 + n - (at' + 1) = n + 2 by omega, show min (n + 2) (n + 7 - 1) = n + 2 by omega]
      have e2 : L.drop (n + 2) = B := by
        rw [hL, hB, hc, List.drop_take, List.drop_take, List.drop_drop, List.drop_drop, show at' + 7 + n - (at' + 3 + n) = 4 by omega, show n + 7 - 1 - (n + 2) = 4 by omega, show at' + (1 + (n + 2)) = at' + 3 + n by omega]
      rw [← hL, wholeL, decide_eq_true (show 4 ≤ L.length by omega), Bool.true_and, eL, show n + 6 - 4 = n + 2 by omega, e1, sealL]
      congr 1
      apply propext
      have e3 : A ++ B = L := by rw [← e1, ← e2, List.take_append_drop]
      constructor
      · intro h
        rw [← e3] at h
        exact List.append_cancel_left h
      · intro h
        rw [h, e3]
    simp -implicitDefEqProofs -dsimp only [go_sem, Nat.reduceEqDiff, Nat.reduceAdd, Nat.reduceMul, Nat.reduceSub, Nat.reduceLT, Nat.reduceLeDiff, Nat.reduceBEq, reduceIte, reduceCtorEq, Int.reduceLT, Int.reduceLE, Int.reduceEq, Int.reduceNeg, Int.reduceToNat, Int.reduceAdd, Int.reduceSub, d4, v7, d5, w1, w3, v3, w7, v8, bts, s1, s2, Int.ofNat_le, Int.natCast_nonneg, Int.toNat_natCast, Nat.mul_one, byteCells_take, byteCells_drop, byteCells_length, Nat.zero_le, ← hA, ← hB, eB, bytesAv_cells, ↓g_call _ _ c_sautoirref02_Of]
    refine CallK.pure cOf (aft_rc (fun _ => ?_) ?_)
    · simp -implicitDefEqProofs -dsimp only [go_sem, Nat.reduceEqDiff, Nat.reduceAdd, Nat.reduceMul, Nat.reduceSub, Nat.reduceLT, Nat.reduceLeDiff, Nat.reduceBEq, reduceIte, reduceCtorEq, Int.reduceLT, Int.reduceLE, Int.reduceEq, Int.reduceNeg, Int.reduceToNat, Int.reduceAdd, Int.reduceSub, rcOk, gvev, gdd, d4, v7, d5, w1, w3, v3, w7, v8, bts, s1, s2, Int.ofNat_le, Int.natCast_nonneg, Int.toNat_natCast, Nat.mul_one, byteCells_take, byteCells_drop, byteCells_length, Nat.zero_le, ← hA, ← hB, eB, bytesAv_cells]
    simp -implicitDefEqProofs -dsimp only [go_sem, Nat.reduceEqDiff, Nat.reduceAdd, Nat.reduceMul, Nat.reduceSub, Nat.reduceLT, Nat.reduceLeDiff, Nat.reduceBEq, reduceIte, reduceCtorEq, Int.reduceLT, Int.reduceLE, Int.reduceEq, Int.reduceNeg, Int.reduceToNat, Int.reduceAdd, Int.reduceSub, ↓g_call _ _ c_sautoirref02_Four]
    refine CallK.pure cF (aft_rc (fun _ => ?_) ?_)
    · simp -implicitDefEqProofs -dsimp only [go_sem, Nat.reduceEqDiff, Nat.reduceAdd, Nat.reduceMul, Nat.reduceSub, Nat.reduceLT, Nat.reduceLeDiff, Nat.reduceBEq, reduceIte, reduceCtorEq, Int.reduceLT, Int.reduceLE, Int.reduceEq, Int.reduceNeg, Int.reduceToNat, Int.reduceAdd, Int.reduceSub, rcOk, gvev, gdd, d4, v7, d5, w1, w3, v3, w7, v8, bts, s1, s2, Int.ofNat_le, Int.natCast_nonneg, Int.toNat_natCast, Nat.mul_one, byteCells_take, byteCells_drop, byteCells_length, Nat.zero_le, ← hA, ← hB, eB, bytesAv_cells]
    simp -implicitDefEqProofs -dsimp only [go_sem, Nat.reduceEqDiff, Nat.reduceAdd, Nat.reduceMul, Nat.reduceSub, Nat.reduceLT, Nat.reduceLeDiff, Nat.reduceBEq, reduceIte, reduceCtorEq, Int.reduceLT, Int.reduceLE, Int.reduceEq, Int.reduceNeg, Int.reduceToNat, Int.reduceAdd, Int.reduceSub, byteCells_length, fourK_len, bytesAv_cells]
    rcases hwb : decide (four (crcOf A) = B) with _ | _
    · rw [hwh, hwb, if_pos rfl] at nE
      simp -implicitDefEqProofs -dsimp only [go_sem, Nat.reduceEqDiff, Nat.reduceAdd, Nat.reduceMul, Nat.reduceSub, Nat.reduceLT, Nat.reduceLeDiff, Nat.reduceBEq, reduceIte, reduceCtorEq, Int.reduceLT, Int.reduceLE, Int.reduceEq, Int.reduceNeg, Int.reduceToNat, Int.reduceAdd, Int.reduceSub, Bool.not_false]
      rw [rnR, nE]
      exact finL_pure rfl
    · rw [hwh, hwb, if_neg (by simp)] at nE
      simp -implicitDefEqProofs -dsimp only [go_sem, Nat.reduceEqDiff, Nat.reduceAdd, Nat.reduceMul, Nat.reduceSub, Nat.reduceLT, Nat.reduceLeDiff, Nat.reduceBEq, reduceIte, reduceCtorEq, Int.reduceLT, Int.reduceLE, Int.reduceEq, Int.reduceNeg, Int.reduceToNat, Int.reduceAdd, Int.reduceSub, Bool.not_true, w3, v3, v7, bts, s3, Int.ofNat_le, Int.natCast_nonneg, Int.toNat_natCast, Nat.mul_one, byteCells_take, byteCells_drop, Nat.zero_le]
      have e9 : nxRec c = (b.drop (at' + 3)).take (at' + 3 + n - (at' + 3)) := by
        unfold nxRec; rw [es, hc, List.drop_take, List.drop_drop, show at' + 3 + n - (at' + 3) = n + 3 - 3 by omega]
      have e10 : ((b.drop (at' + 3)).take (at' + 3 + n - (at' + 3))).length = at' + 3 + n - (at' + 3) := by rw [List.length_take, List.length_drop]; omega
      rw [rnR, nE, es]
      simp only
      rw [e9, bts, e10]
      exact finL_pure rfl
  · have e : nxE c = some ([109, 97, 114, 107], 3) := by unfold nxE; rw [if_neg h0, if_pos (by rw [ex]; exact h1)]
    have d1 : decide ((x.toNat : Int) = 197) = false := decide_eq_false (fun h => h1 (UInt8.toNat_inj.1 (by show x.toNat = 197; omega)))
    simp -implicitDefEqProofs -dsimp only [go_sem, Nat.reduceEqDiff, Nat.reduceAdd, Nat.reduceMul, Nat.reduceSub, Nat.reduceLT, Nat.reduceLeDiff, Nat.reduceBEq, reduceIte, reduceCtorEq, Int.reduceLT, Int.reduceLE, Int.reduceEq, Int.reduceNeg, Int.reduceToNat, Int.reduceAdd, Int.reduceSub, wl, d0, bts, hp', Int.natCast_nonneg, Int.toNat_natCast, Nat.mul_one, hx', d1, Bool.not_false]
    rw [rnR, e]
    exact finL_pure rfl
end Go.Aw
