import Derived.Test.YtmicojcojlgefaaK29R28U
import Derived.Test.YtmicojcojlgefaaK29R28V
import Derived.Test.YtmicojcojlgefaaK29S12Q
import Derived.Test.YtmicojcojlgefaaK29R28G
namespace Go.Aw
open Go
open Go.Proofs.Try (prog)
set_option linter.all false
set_option maxHeartbeats 4000000

structure RtOk (l : List Cf) : Prop where
  n : 1 ≤ l.length ∧ l.length ≤ 4
  c : ∀ (k : Nat) c, l[k]? = some c → c.right = true ∧ c.sh = k ∧ 0 ≤ c.ep
theorem right_len {c : Cf} (h : c.right = true) : 1 ≤ c.ch.length ∧ c.ch.length ≤ 8 ∧ c.fu.length = c.ch.length := by
  simp only [Cf.right, Bool.and_eq_true, Bool.not_eq_true', decide_eq_false_iff_not, Bool.not_eq_false', decide_eq_true_eq] at h
  obtain ⟨⟨⟨⟨⟨⟨⟨⟨h1, h2⟩, h3⟩, h4⟩, h5⟩, h6⟩, h7⟩, h8⟩, h9⟩ := h
  omega
theorem RtOk.small {l : List Cf} (h : RtOk l) : ∀ c ∈ l, Small c := fun c hc => by
  obtain ⟨k, hk⟩ := List.mem_iff_getElem?.1 hc
  have := right_len (h.c k c hk).1
  unfold Small; omega
theorem RtOk.ep {l : List Cf} (h : RtOk l) : ∀ c ∈ l, 0 ≤ c.ep := fun c hc => by
  obtain ⟨k, hk⟩ := List.mem_iff_getElem?.1 hc
  exact (h.c k c hk).2.2

theorem cf0_right : ∀ L : Fin 9, ∀ k : Fin 4, 1 ≤ L.val → (k.val + 1) * L.val ≤ 8 → (cf0 L.val k.val).right = true := by decide +kernel
theorem cfs0_ok {S L : Nat} {v : Int} (h : sok S L v = true) : RtOk (cfs0 L S) := by
  have hh := of_decide_eq_true h
  refine ⟨by simp [cfs0]; omega, fun k c hk => ?_⟩
  simp only [cfs0, List.getElem?_map, List.getElem?_range] at hk
  by_cases hkS : k < S
  · rw [List.getElem?_range hkS] at hk
    simp only [Option.map_some, Option.some.injEq] at hk
    subst hk
    have hm : (k + 1) * L ≤ S * L := Nat.mul_le_mul_right _ (by omega)
    have hm2 : ((S * L : Nat) : Int) ≤ 8 := by have := hh.2.2.2.2.2.2; push_cast; omega
    refine ⟨cf0_right ⟨L, ?_⟩ ⟨k, by omega⟩ (by simp only; omega) (by simp only; omega), rfl, by simp only [cf0]; omega⟩
    have : L ≤ (k + 1) * L := Nat.le_mul_of_pos_left L (by omega)
    omega
  · rw [List.getElem?_eq_none (by simp; omega)] at hk; cases hk
theorem lrnd_ok {l : List Cf} {c : Cf} (h : RtOk l) (he : 0 ≤ c.ep) : RtOk (lrnd l c) := by
  unfold lrnd
  split
  · rename_i hl
    have hc : c.right = true ∧ 0 ≤ c.sh := by
      unfold lrn at hl
      split at hl
      · rename_i o ho
        rw [Bool.and_eq_true] at hl
        unfold at? at ho
        split at ho
        · exact ⟨hl.1, by assumption⟩
        · cases ho
      · cases hl
    refine ⟨by rw [List.length_set]; exact h.n, fun k d hk => ?_⟩
    rw [List.getElem?_set] at hk
    split at hk
    · rename_i e
      split at hk
      · injection hk with hk; subst hk
        exact ⟨hc.1, by omega, he⟩
      · cases hk
    · exact h.c k d hk
  · exact h

/-! Who is asked. -/
theorem clampN_id {n : Nat} (h : 1 ≤ n ∧ n ≤ 4) : clampN (n : Int) = n := by unfold clampN; rw [if_neg (by omega), if_neg (by omega)]; omega
theorem shardOf_len {k : Bs} {n : Nat} (h : 1 ≤ n ∧ n ≤ 4) : shardOf k (n : Int) < n := by unfold shardOf; rw [clampN_id h]; exact Nat.mod_lt _ (by omega)
def rdx (t : Int) (n : Nat) : Nat := (Int.tmod (Int.tmod t n + n) n).toNat
theorem rdx_facts {t : Int} {n : Nat} (h : 1 ≤ n ∧ n ≤ 8) : IntKind.i64.wrap (Int.tmod t n) = Int.tmod t n ∧ IntKind.i64.wrap (Int.tmod t n + n) = Int.tmod t n + n ∧ IntKind.i64.wrap (Int.tmod (Int.tmod t n + n) n) = (rdx t n : Int) ∧ Int.tmod (Int.tmod t n + n) n = (rdx t n : Int) ∧ rdx t n < n := by
  have hp : (0 : Int) < n := by omega
  have h1 := Int.lt_tmod_of_pos t hp
  have h2 := Int.tmod_lt_of_pos t hp
  unfold rdx
  obtain ⟨q, hq⟩ : ∃ q, Int.tmod t n = q := ⟨_, rfl⟩
  rw [hq] at h1 h2 ⊢
  have h3 : 0 ≤ Int.tmod (q + n) n := Int.tmod_nonneg _ (by omega)
  have h4 := Int.tmod_lt_of_pos (q + n) hp
  obtain ⟨r, hr⟩ : ∃ r, Int.tmod (q + n) n = r := ⟨_, rfl⟩
  rw [hr] at h3 h4 ⊢
  refine ⟨wrap_i64 (by unfold I64; omega), wrap_i64 (by unfold I64; omega), ?_, by omega, by omega⟩
  rw [wrap_i64 (by unfold I64; omega)]; omega

theorem ac_Reader {T : Tab} {id idL : Nat} {l : List Cf} (hR : Rt T id idL l) (ho : RtOk l) (key : Bs) (hl : Len key.length) (t : Int) (c : Cf) (x : Int) (hc : l[shardOf key l.length]? = some c) (hx : c.ch[rdx t c.ch.length]? = some x) :
    ACalls prog f_route_Route_Reader [.ptr id 0, .s key, .i .i64 t] T (fun r T' => r = (if keyOk key = true then .tup [.i .i64 x, .b true] else .tup [.i .i64 (-1), .b false]) ∧ T' = T) := by
  obtain ⟨t1, t2⟩ := hR
  refine acalls_of mixed t_route_Route_Reader (by simp) ?_
  unfold s_route_Route_Reader
  simp -implicitDefEqProofs -dsimp only [go_sem, seval, ↓g_gdc, rcOk, true_and, ↓g_call _ _ c_keys_Right]
  refine CallK.pure (pc_kRight key hl) (aft_nil ?_)
  rcases hk : keyOk key with _ | _
  · simp -implicitDefEqProofs -dsimp only [go_sem, seval, hk]
    exact finL_pure rfl
  have hcell := cfsC_at hc
  have hn := (right_len (ho.c _ _ hc).1)
  have hget : (cfsC l)[shardOf key l.length * 5 + 2]? = some (.fz c.ch.length (ints c.ch) none) := by
    have := congrArg (fun l : List AV => l[2]?) hcell
    simpa [List.getElem?_drop, Cf.cells] using this
  obtain ⟨w1, w2, w3, w4, w5⟩ := rdx_facts (t := t) (n := c.ch.length) ⟨hn.1, hn.2.1⟩
  have hs := shardOf_len (k := key) ho.n
  have z1 : ((c.ch.length : Int) = 0) = False := eq_false (by omega)
  simp -implicitDefEqProofs -dsimp only [go_sem, seval, hk, t1, ↓g_call _ _ c_keys_Shard]
  refine CallK.pure (pc_kShard key l.length hl) (aft_rc (fun _ => ⟨?_, trivial⟩) ?_)
  · simp -implicitDefEqProofs -dsimp only [go_sem, seval, gvev, gdd, t1]
  simp -implicitDefEqProofs -dsimp only [go_sem, seval, t2, hs, hget, List.cons_append, List.nil_append, z1, w1, w2, w3, w4, Int.ofNat_lt, w5, ints_at, hx, Int.natCast_nonneg, Int.toNat_natCast]
  exact finL_pure rfl

theorem mem_idxs : ∀ (bs : List Bool) (k : Nat) (s : Int), s ∈ idxs k bs → ∃ j, bs[j]? = some true ∧ s = ((k + j : Nat) : Int)
  | [], k, s, h => by simp [idxs] at h
  | b :: bs, k, s, h => by
    have hrec : s ∈ idxs (k + 1) bs → ∃ j, (b :: bs)[j]? = some true ∧ s = ((k + j : Nat) : Int) := fun h => by
      obtain ⟨j, h1, h2⟩ := mem_idxs bs (k + 1) s h
      exact ⟨j + 1, by simpa using h1, by rw [h2]; congr 1; omega⟩
    cases b with
    | false => exact hrec (by simpa [idxs] using h)
    | true =>
      simp only [idxs, if_true, List.mem_cons] at h
      rcases h with rfl | h
      · exact ⟨0, rfl, rfl⟩
      · exact hrec h
/-! The least one of a rising list. -/
theorem lp_Min {R : RPost} (hR : ExtR R) {T : Tab} {x : Int} {xs : List Int} {cap : Option Nat} (hl : xs.length < 1000000000) (hge : ∀ y ∈ xs, x ≤ y) : ∀ (ys : List Int) (k : Nat), xs.drop k = ys → k ≤ xs.length →
    R (.exit 0) [(0, .fz xs.length (ints xs) cap), (3, .i .i64 x), (4, .i .i64 xs.length), (15, .b false)] [] T →
    AW prog slices_Min_int_int_l0 R [(0, .fz xs.length (ints xs) cap), (3, .i .i64 x), (4, .i .i64 k)] [] T := by
  intro ys
  induction ys with
  | nil =>
    intro k hk hle h2
    have hk' := drop_nil hk hle
    refine AW_loop hR ?_
    unfold slices_Min_int_int_l0b
    simp -implicitDefEqProofs -dsimp only [go_sem, seval, hk', Int.lt_irrefl]
    rw [hk'] at h2
    exact h2
  | cons y ys ih =>
    intro k hk hle h2
    obtain ⟨hlt, hy, hk'⟩ := drop_lt hk
    have hxy := hge y (List.mem_of_getElem? hy)
    have hn : (y < x) = False := by simp; omega
    refine AW_loopD (l := slices_Min_int_int_l0) rfl hR ?_
    unfold slices_Min_int_int_l0b
    simp -implicitDefEqProofs -dsimp only [go_sem, seval, Int.ofNat_lt, hlt, Int.natCast_nonneg, Int.toNat_natCast, ints_at, hy, hn]
    rw [wrap_succ (by omega)]
    exact ih (k + 1) hk' hlt h2
theorem pc_Min (x : Int) (xs : List Int) (cap : Option Nat) (h0 : xs[0]? = some x) (hl : xs.length < 1000000000) (hge : ∀ y ∈ xs, x ≤ y) : PCalls prog f_slices_Min_int_int [.fz xs.length (ints xs) cap] (.i .i64 x) := by
  refine pcalls_of mixed t_slices_Min_int_int (by simp) fun T => ?_
  have hp : 0 < xs.length := (List.getElem?_eq_some_iff.1 h0).1
  have d : decide ((xs.length : Int) < 1) = false := decide_eq_false (by omega)
  have d2 : ((0 : Int) < xs.length) := by omega
  have h0' : (ints xs)[0]? = some (.i .i64 x) := by simp [ints, h0]
  unfold s_slices_Min_int_int
  simp -implicitDefEqProofs -dsimp only [go_sem, seval, d, d2, h0', Int.le_refl, Int.toNat_zero]
  refine lp_Min (T := T) (by repeat' (first | exact finX_ext _ _ | assumption | apply blkR_ext | apply thenR_ext | apply AW_ext)) hl hge (xs.drop 1) 1 rfl (by omega) ?_
  simp -implicitDefEqProofs -dsimp only [go_sem, seval]
  exact finL_pure rfl
theorem idxs_ge : ∀ (bs : List Bool) (k : Nat), ∀ s ∈ idxs k bs, (k : Int) ≤ s
  | bs, k, s, h => by obtain ⟨j, _, rfl⟩ := mem_idxs bs k s h; omega
theorem idxs_head : ∀ (bs : List Bool) (k : Nat) (x : Int), (idxs k bs)[0]? = some x → ∀ s ∈ idxs k bs, x ≤ s
  | [], k, x, h, s, hs => by simp [idxs] at hs
  | b :: bs, k, x, h, s, hs => by
    cases b with
    | true =>
      simp only [idxs, if_true, List.getElem?_cons_zero, Option.some.injEq] at h hs
      subst h
      rcases List.mem_cons.1 hs with rfl | hs
      · omega
      · have := idxs_ge bs (k + 1) s hs; omega
    | false => exact idxs_head bs (k + 1) x (by simpa [idxs] using h) s (by simpa [idxs] using hs)

theorem ac_Writer {T : Tab} {id idL : Nat} {l : List Cf} (hR : Rt T id idL l) (ho : RtOk l) (t : Tx) (k1 k2 : Option Nat) (hf : t.Fine) (hr : t.rs.length ≤ 400000000) (hw : t.ws.length ≤ 400000000) (x : Nat) (c : Cf)
    (hx : txOk t = true → (shardsOf t.keys l.length)[0]? = some (x : Int)) (hc : l[x]? = some c) :
    ACalls prog f_route_Route_Writer [.ptr id 0, .agg (t.cells k1 k2)] T (fun r T' => r = (if txOk t = true then .tup [.i .i64 (c.at 0), .b true] else .tup [.i .i64 (-1), .b false]) ∧ T' = T) := by
  obtain ⟨t1, t2⟩ := hR
  have c1 := pc_RightTxn t k1 k2 hf
  have c2 := pc_tShards t k1 k2 l.length hf hr hw
  simp only [Tx.cells] at c1 c2
  refine acalls_of mixed t_route_Route_Writer (by simp) ?_
  unfold s_route_Route_Writer
  simp -implicitDefEqProofs -dsimp only [go_sem, seval, Tx.cells, ↓g_gdc, rcOk, true_and, ↓g_call _ _ c_entry_RightTxn]
  refine CallK.pure c1 (aft_nil ?_)
  rcases hk : txOk t with _ | _
  · simp -implicitDefEqProofs -dsimp only [go_sem, seval, hk]
    exact finL_pure rfl
  have hx' := hx hk
  have hlt : x < l.length := (List.getElem?_eq_some_iff.1 hc).1
  have hcell := cfsC_at hc
  have hle := right_len (ho.c _ _ hc).1
  have h5 : x * 5 + 5 ≤ (cfsC l).length := by rw [cfsC_length]; omega
  have c3 := pc_Min x (shardsOf t.keys l.length) none hx' (by have := idxs_len 0 (seenL t.keys l.length); have e : (seenL t.keys l.length).length = 4 := rfl; unfold shardsOf; omega) (idxs_head _ _ _ hx')
  have c4 := pc_Head c none none (by unfold Len; omega)
  simp only [Cf.cells] at c4
  simp -implicitDefEqProofs -dsimp only [go_sem, seval, hk, t1, ↓g_call _ _ c_entry_Txn_Shards]
  refine CallK.pure c2 (aft_rc (fun _ => ⟨?_, trivial⟩) ?_)
  · simp -implicitDefEqProofs -dsimp only [go_sem, seval, gvev, gdd, t1]
  simp -implicitDefEqProofs -dsimp only [go_sem, seval, t1, ↓g_call _ _ c_slices_Min_int_int]
  refine CallK.pure c3 (aft_rc (fun _ => ⟨?_, trivial⟩) ?_)
  · simp -implicitDefEqProofs -dsimp only [go_sem, seval, gvev, gdd, t1]
  simp -implicitDefEqProofs -dsimp only [go_sem, seval, t2, hlt, h5, hcell, Cf.cells, List.cons_append, List.nil_append, Int.ofNat_lt, Int.natCast_nonneg, Int.toNat_natCast, ↓g_call _ _ c_conf_Conf_Head]
  refine CallK.pure c4 (aft_nil ?_)
  simp -implicitDefEqProofs -dsimp only [go_sem, seval]
  exact finL_pure rfl
end Go.Aw

