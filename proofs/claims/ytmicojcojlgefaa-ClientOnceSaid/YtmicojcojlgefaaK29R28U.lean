import Derived.Test.YtmicojcojlgefaaK29R28K
import Derived.Test.YtmicojcojlgefaaK29S12Q
namespace Go.Aw
open Go
open Go.Proofs.Try (prog)
set_option linter.all false
set_option maxHeartbeats 4000000

end Go.Aw

namespace Go.Aw
open Go
open Go.Proofs.Try (prog)
set_option linter.all false
set_option maxHeartbeats 4000000

/-! Shards of keys. -/
def clampN (n : Int) : Nat := if n < 1 then 1 else if 4 < n then 4 else n.toNat
theorem clampN_pos (n : Int) : 1 ≤ clampN n ∧ clampN n ≤ 4 := by unfold clampN; split <;> (try split) <;> omega
def shardOf (bs : Bs) (n : Int) : Nat := num bs % clampN n
theorem shardOf_lt (bs : Bs) (n : Int) : shardOf bs n < 4 := by
  have h := clampN_pos n
  have := Nat.mod_lt (num bs) (show 0 < clampN n by omega)
  unfold shardOf; omega

theorem clamp_go (n : Int) : (if 4 < (if 1 > n then (1 : Int) else n) then (4 : Int) else (if 1 > n then (1 : Int) else n)) = (clampN n : Int) := by
  unfold clampN; split <;> (try split) <;> (try split) <;> omega
theorem pc_kShard (bs : Bs) (n : Int) (hl : Len bs.length) : PCalls prog f_keys_Shard [.s bs, .i .i64 n] (.i .i64 (shardOf bs n)) := by
  refine pcalls_of mixed t_keys_Shard (by simp) fun T => ?_
  have hc := clampN_pos n
  have hnl := num_lt bs
  have w1 : IntKind.u32.wrap (clampN n : Int) = clampN n := by rw [wrap_u32]; omega
  have e1 : Int.tmod (num bs : Int) (clampN n : Int) = (shardOf bs n : Int) := by rw [Int.tmod_eq_emod_of_nonneg (by omega)]; unfold shardOf; omega
  have hs := shardOf_lt bs n
  have w2 : IntKind.u32.wrap (shardOf bs n : Int) = shardOf bs n := by rw [wrap_u32]; omega
  have w3 : IntKind.i64.wrap (shardOf bs n : Int) = shardOf bs n := wrap_i64 (by unfold I64; omega)
  have z1 : ((clampN n : Int) = 0) = False := by simp; omega
  have hcl : (if (4 : Int) < (if n < 1 then (1 : Int) else n) then (4 : Int) else (if n < 1 then (1 : Int) else n)) = (clampN n : Int) := clamp_go n
  unfold s_keys_Shard
  simp -implicitDefEqProofs -dsimp only [go_sem, seval, gt_iff_lt, hcl, ↓g_call _ _ c_keys_Number]
  refine CallK.pure (pc_kNumber bs hl) (aft_nil ?_)
  simp -implicitDefEqProofs -dsimp only [go_sem, seval, w1, e1, w2, w3, z1]
  exact finL_pure rfl

/-! Which shards keys are of. -/
def idxs : Nat → List Bool → List Int
  | _, [] => []
  | k, b :: bs => if b = true then (k : Int) :: idxs (k + 1) bs else idxs (k + 1) bs
theorem idxs_len : ∀ (k : Nat) (l : List Bool), (idxs k l).length ≤ l.length
  | _, [] => by simp [idxs]
  | k, b :: bs => by have := idxs_len (k + 1) bs; simp only [idxs]; split <;> simp <;> omega
def hasS (l : List Bs) (n : Int) (k : Nat) : Bool := l.any fun x => decide (shardOf x n = k)
def seenL (l : List Bs) (n : Int) : List Bool := [hasS l n 0, hasS l n 1, hasS l n 2, hasS l n 3]
def shardsOf (l : List Bs) (n : Int) : List Int := idxs 0 (seenL l n)

theorem seenL_add (l : List Bs) (x : Bs) (n : Int) : seenL (l ++ [x]) n = (seenL l n).set (shardOf x n) true := by
  have h := shardOf_lt x n
  have h4 : shardOf x n = 0 ∨ shardOf x n = 1 ∨ shardOf x n = 2 ∨ shardOf x n = 3 := by omega
  rcases h4 with h | h | h | h <;> simp [seenL, hasS, h]

theorem stCells_set {l : List AV} {k : Nat} {x : AV} (h : k < l.length) : stCells l k [x] = l.set k x := by
  simp only [stCells, List.length_cons, List.length_nil, List.set_eq_take_append_cons_drop, if_pos h, List.cons_append, List.nil_append, List.append_assoc, Nat.zero_add]
theorem put_bools {l : List Bool} {k : Nat} {b : Bool} (h : k < l.length) : (bools l).take k ++ [.b b] ++ (bools l).drop (k + 1) = bools (l.set k b) := by
  rw [← stCells_set (l := bools l) (x := .b b) (by simpa [bools] using h) |>.trans (by simp [bools, List.map_set] : (bools l).set k (.b b) = bools (l.set k b))]
  simp [stCells]

theorem lp_kShards0 {R : RPost} (hR : ExtR R) {T : Tab} {xs : List Bs} {cap : Option Nat} {n : Int} {v : AV} (hv : v.plain = true ∧ v.offLp 5 = v) (hl : xs.length < 1000000000) (hs : ∀ x ∈ xs, Len x.length) : ∀ (ys : List Bs) (k : Nat), xs.drop k = ys → k ≤ xs.length →
    (R (.exit 0) [(1, .i .i64 n), (5, .lp 5 0), (6, v), (11, .fz xs.length (strs xs) cap), (12, .i .i64 xs.length), (13, .i .i64 xs.length), (14, .b false)] [(5, bools (seenL xs n))] T) →
    AW prog keys_Shards_l0 R [(1, .i .i64 n), (5, .lp 5 0), (6, v), (11, .fz xs.length (strs xs) cap), (12, .i .i64 xs.length), (13, .i .i64 k)] [(5, bools (seenL (xs.take k) n))] T := by
  obtain ⟨v1, v2⟩ := hv
  intro ys
  induction ys with
  | nil =>
    intro k hk hle h2
    have hk' := drop_nil hk hle
    refine AW_loop hR ?_
    unfold keys_Shards_l0b
    simp -implicitDefEqProofs -dsimp only [go_sem, seval, hk', Int.lt_irrefl, v1]
    rw [List.take_of_length_le (by omega : xs.length ≤ k)]
    rw [hk'] at h2
    exact h2
  | cons y ys ih =>
    intro k hk hle h2
    obtain ⟨hlt, hy, hk'⟩ := drop_lt hk
    have hm : y ∈ xs := List.mem_of_getElem? hy
    have h4 := shardOf_lt y n
    refine AW_loopD (l := keys_Shards_l0) rfl hR ?_
    unfold keys_Shards_l0b
    simp -implicitDefEqProofs -dsimp only [go_sem, seval, Int.ofNat_lt, hlt, Int.natCast_nonneg, Int.toNat_natCast, strs_at, hy, v1, ↓g_call _ _ c_keys_Shard]
    refine CallK.pure (pc_kShard y n (hs y hm)) (aft_nil ?_)
    have h4' : (shardOf y n : Int) < 4 := by omega
    have hlen : shardOf y n + 1 ≤ (bools (seenL (xs.take k) n)).length := by rw [bools_length]; show _ ≤ 4; omega
    have hset := put_bools (l := seenL (xs.take k) n) (k := shardOf y n) (b := true) (by show _ < 4; omega)
    simp -implicitDefEqProofs -dsimp only [go_sem, seval, h4', Int.natCast_nonneg, Int.toNat_natCast, hlen, v1, v2, Int.ofNat_lt, h4]
    rw [hset, ← seenL_add, wrap_succ (by omega), ← take_succ_eq hy]
    exact ih (k + 1) hk' hlt h2

theorem lp_kShards1 {R : RPost} (hR : ExtR R) {T : Tab} {sn : List Bool} (h4 : sn.length = 4) : ∀ (ys : List Bool) (k : Nat), sn.drop k = ys → k ≤ 4 → ∀ (xs : List Int) (v : AV) (T1 : Tab), xs.length ≤ k →
    Own T 1 v xs.length (ints xs) T1 →
    (∀ v T1, Own T 1 v (xs ++ idxs k ys).length (ints (xs ++ idxs k ys)) T1 → R (.exit 2) [(6, v), (22, .agg (bools sn)), (23, .i .i64 4), (24, .b false)] [] T1) →
    AW prog keys_Shards_l1 R [(6, v), (22, .agg (bools sn)), (23, .i .i64 k)] [] T1 := by
  intro ys
  induction ys with
  | nil =>
    intro k hk hle xs v T1 hx ho h2
    obtain ⟨p1, p2, p3, p4, p5, p6⟩ := ho.form
    have hk' : k = 4 := by have := drop_nil hk (by omega); omega
    subst hk'
    refine AW_loop hR ?_
    unfold keys_Shards_l1b
    simp -implicitDefEqProofs -dsimp only [go_sem, seval, Int.lt_irrefl, p1, p2, p3, p4, p5, p6, show ((4 : Nat) : Int) = 4 from rfl]
    simp only [idxs, List.append_nil] at h2
    exact h2 _ _ ho
  | cons y ys ih =>
    intro k hk hle xs v T1 hx ho h2
    obtain ⟨hlt, hy, hk'⟩ := drop_lt hk
    obtain ⟨p1, p2, p3, p4, p5, p6⟩ := ho.form
    rw [h4] at hlt
    have hlt' : (k : Int) < 4 := by omega
    have hat : (bools sn)[k]? = some (.b y) := by simp [bools, hy]
    refine AW_loopD (l := keys_Shards_l1) rfl hR ?_
    unfold keys_Shards_l1b
    simp -implicitDefEqProofs -dsimp only [go_sem, seval, hlt', hlt, Int.natCast_nonneg, Int.toNat_natCast, hat, p1, p2, p3, p4, p5, p6, show ((4 : Nat) : Int) = 4 from rfl]
    cases y with
    | false =>
      simp -implicitDefEqProofs -dsimp only [go_sem, seval, p1, p2, p3, p4, p5, p6]
      rw [wrap_succ (by omega)]
      refine ih (k + 1) hk' hlt xs v T1 (by omega) ho fun v T1 ho => h2 v T1 ?_
      simpa only [idxs, Bool.false_eq_true, if_false] using ho
    | true =>
      simp -implicitDefEqProofs -dsimp only [go_sem, seval, p1, p2, p3, p4, p5, p6]
      refine ho.app (m := 1) (news := [.i .i64 k]) rfl rfl (by omega) (by omega) fun v2 T2 ho => aft_nil ?_
      obtain ⟨p1, p2, p3, p4, p5, p6⟩ := ho.form
      simp -implicitDefEqProofs -dsimp only [go_sem, seval, p1, p2, p3, p4, p5, p6]
      rw [wrap_succ (by omega)]
      have e : ints xs ++ [.i .i64 (k : Int)] = ints (xs ++ [(k : Int)]) := by simp [ints]
      rw [e] at ho
      refine ih (k + 1) hk' hlt (xs ++ [(k : Int)]) v2 T2 (by simp; omega) (by simpa using ho) fun v T1 ho => h2 v T1 ?_
      simpa only [idxs, if_true, List.append_assoc, List.cons_append, List.nil_append] using ho

theorem pc_kShards (xs : List Bs) (cap : Option Nat) (n : Int) (hl : xs.length < 1000000000) (hs : ∀ x ∈ xs, Len x.length) :
    PCalls prog f_keys_Shards [.fz xs.length (strs xs) cap, .i .i64 n] (.fz (shardsOf xs n).length (ints (shardsOf xs n)) none) := by
  refine pcalls_of mixed t_keys_Shards (by simp) fun T => ?_
  unfold s_keys_Shards
  simp -implicitDefEqProofs -dsimp only [go_sem, seval]
  refine lp_kShards0 (T := T) (by repeat' (first | exact finX_ext _ _ | assumption | apply blkR_ext | apply thenR_ext | apply AW_ext)) ⟨rfl, rfl⟩ hl hs xs 0 rfl (by omega) ?_
  have e4 : (bools (seenL xs n)).length = 4 := rfl
  simp -implicitDefEqProofs -dsimp only [go_sem, seval, e4]
  have e5 : (bools (seenL xs n)).take 4 = bools (seenL xs n) := rfl
  try rw [e5]
  refine lp_kShards1 (T := T) (by repeat' (first | exact finX_ext _ _ | assumption | apply blkR_ext | apply thenR_ext | apply AW_ext)) rfl (seenL xs n) 0 rfl (by omega) [] _ _ (by simp) (.nil ..) (fun v T1 ho => ?_)
  obtain ⟨p1, p2, p3, p4, p5, p6⟩ := ho.form
  simp -implicitDefEqProofs -dsimp only [go_sem, seval, p1, p2, p3, p4, p5, p6]
  exact ho.fzn

end Go.Aw

