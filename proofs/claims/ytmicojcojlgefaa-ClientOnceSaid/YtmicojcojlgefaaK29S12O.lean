import Derived.Test.YtmicojcojlgefaaK29S12N
namespace Go.Aw
open Go
open Go.Proofs.Try (prog)
set_option linter.all false
set_option maxHeartbeats 4000000

/-! Transactions. -/
abbrev Bs := List UInt8
structure Rd where
  k : Bs
  n : Int
structure Wt where
  k : Bs
  v : Bs
  g : Bool
structure Tx where
  cl : Int
  sq : Int
  pl : Bool
  rs : List Rd
  ws : List Wt
def rdC (r : Rd) : List AV := [.s r.k, .i .u64 r.n]
def wtC (w : Wt) : List AV := [.s w.k, .s w.v, .b w.g]
theorem rdC_len (r : Rd) : (rdC r).length = 2 := rfl
theorem wtC_len (r : Wt) : (wtC r).length = 3 := rfl
def Tx.cells (t : Tx) (k1 k2 : Option Nat) : List AV := [.i .i64 t.cl, .i .u64 t.sq, .b t.pl, .fz t.rs.length (t.rs.flatMap rdC) k1, .fz t.ws.length (t.ws.flatMap wtC) k2]

def strs (l : List Bs) : List AV := l.map .s
theorem strs_length (l : List Bs) : (strs l).length = l.length := by simp [strs]
theorem strs_at (l : List Bs) (k : Nat) : ((strs l).drop k)[0]? = (l[k]?).map .s := by simp [strs]
theorem strs_append (l m : List Bs) : strs l ++ strs m = strs (l ++ m) := by simp [strs]

def idOk (c s : Int) : Bool := decide (0 ≤ c) && decide (c < 6) && decide (0 < s)
theorem pc_RightID (c s : Int) : PCalls prog f_entry_RightID [.agg [.i .i64 c, .i .u64 s]] (.b (idOk c s)) := by
  refine pcalls_of mixed t_entry_RightID (by simp) fun T => ?_
  unfold s_entry_RightID
  simp -implicitDefEqProofs -dsimp only [go_sem, seval, decide_true, decide_false]
  (first | (apply br_split <;> intro h_1 <;> simp -implicitDefEqProofs -dsimp only [go_sem, seval, decide_true, decide_false, h_1]) | (have h_1 := trivial)) <;>
    (first | (apply br_split <;> intro h_2 <;> simp -implicitDefEqProofs -dsimp only [go_sem, seval, decide_true, decide_false, h_1, h_2]) | (have h_2 := trivial)) <;>
    (first | (apply br_split <;> intro h_3 <;> simp -implicitDefEqProofs -dsimp only [go_sem, seval, decide_true, decide_false, h_1, h_2, h_3]) | (have h_3 := trivial)) <;>
    (first | (apply br_split <;> intro h_4 <;> simp -implicitDefEqProofs -dsimp only [go_sem, seval, decide_true, decide_false, h_1, h_2, h_3, h_4]) | (have h_4 := trivial))
  all_goals
    refine finL_pure ?_
    simp only [idOk, *, Bool.not_true, Bool.not_false, Bool.true_and, Bool.false_and, Bool.and_false, Bool.and_true]

theorem lp_readKeys {R : RPost} (hR : ExtR R) {T : Tab} {xs : List Rd} {cap : Option Nat} (hl : xs.length < 1000000000) : ∀ (ys : List Rd) (k : Nat), xs.drop k = ys → k ≤ xs.length → ∀ (v : AV) (T1 : Tab),
    Own T 1 v k (strs ((xs.take k).map (·.k))) T1 →
    (∀ v T1, Own T 1 v xs.length (strs (xs.map (·.k))) T1 → R (.exit 0) [(3, v), (7, .fz xs.length (xs.flatMap rdC) cap), (8, .i .i64 xs.length), (9, .i .i64 xs.length), (10, .b false)] [] T1) →
    AW prog entry_Txn_readKeys_l0 R [(3, v), (7, .fz xs.length (xs.flatMap rdC) cap), (8, .i .i64 xs.length), (9, .i .i64 k)] [] T1 := by
  intro ys
  induction ys with
  | nil =>
    intro k hk hle v T1 ho h2
    have hk' := drop_nil hk hle
    refine AW_loop hR ?_
    unfold entry_Txn_readKeys_l0b
    obtain ⟨p1, p2, p3, p4, p5, p6⟩ := ho.form
    simp -implicitDefEqProofs -dsimp only [go_sem, seval, hk', Int.lt_irrefl, p1, p2, p3, p4, p5, p6]
    rw [hk'] at h2
    rw [List.take_of_length_le (by omega)] at ho
    exact h2 _ _ ho
  | cons y ys ih =>
    intro k hk hle v T1 ho h2
    obtain ⟨hlt, hy, hk'⟩ := drop_lt hk
    obtain ⟨p1, p2, p3, p4, p5, p6⟩ := ho.form
    have hc := flat_at rdC_len hy
    have hc5 : k * 2 + 2 ≤ (xs.flatMap rdC).length := by rw [flat_length rdC_len]; omega
    refine AW_loopD (l := entry_Txn_readKeys_l0) rfl hR ?_
    unfold entry_Txn_readKeys_l0b
    simp -implicitDefEqProofs -dsimp only [go_sem, seval, Int.ofNat_lt, hlt, Int.natCast_nonneg, Int.toNat_natCast, hc, hc5, rdC, List.cons_append, List.nil_append, p1, p2, p3, p4, p5, p6]
    refine ho.app (m := 1) (news := [.s y.k]) rfl rfl (by omega) (by omega) fun v2 T2 ho => aft_nil ?_
    obtain ⟨p1, p2, p3, p4, p5, p6⟩ := ho.form
    simp -implicitDefEqProofs -dsimp only [go_sem, seval, p1, p2, p3, p4, p5, p6]
    rw [wrap_succ (by omega)]
    refine ih (k + 1) hk' hlt _ _ ?_ h2
    rw [take_succ_eq hy, List.map_append, ← strs_append]
    exact ho

theorem pc_readKeys (t : Tx) (k1 k2 : Option Nat) (hl : t.rs.length < 1000000000) : PCalls prog f_entry_Txn_readKeys [.agg (t.cells k1 k2)] (.fz t.rs.length (strs (t.rs.map (·.k))) none) := by
  refine pcalls_of mixed t_entry_Txn_readKeys (by simp) fun T => ?_
  unfold s_entry_Txn_readKeys
  simp -implicitDefEqProofs -dsimp only [go_sem, seval, Tx.cells]
  refine lp_readKeys (T := T) (by repeat' (first | exact finX_ext _ _ | assumption | apply blkR_ext | apply thenR_ext | apply AW_ext)) hl t.rs 0 rfl (by omega) _ _ (.nil ..) (fun v T1 ho => ?_)
  obtain ⟨p1, p2, p3, p4, p5, p6⟩ := ho.form
  simp -implicitDefEqProofs -dsimp only [go_sem, seval, p1, p2, p3, p4, p5, p6]
  exact ho.fzn

theorem lp_writeKeys {R : RPost} (hR : ExtR R) {T : Tab} {xs : List Wt} {cap : Option Nat} (hl : xs.length < 1000000000) : ∀ (ys : List Wt) (k : Nat), xs.drop k = ys → k ≤ xs.length → ∀ (v : AV) (T1 : Tab),
    Own T 1 v k (strs ((xs.take k).map (·.k))) T1 →
    (∀ v T1, Own T 1 v xs.length (strs (xs.map (·.k))) T1 → R (.exit 0) [(3, v), (7, .fz xs.length (xs.flatMap wtC) cap), (8, .i .i64 xs.length), (9, .i .i64 xs.length), (10, .b false)] [] T1) →
    AW prog entry_Txn_writeKeys_l0 R [(3, v), (7, .fz xs.length (xs.flatMap wtC) cap), (8, .i .i64 xs.length), (9, .i .i64 k)] [] T1 := by
  intro ys
  induction ys with
  | nil =>
    intro k hk hle v T1 ho h2
    have hk' := drop_nil hk hle
    refine AW_loop hR ?_
    unfold entry_Txn_writeKeys_l0b
    obtain ⟨p1, p2, p3, p4, p5, p6⟩ := ho.form
    simp -implicitDefEqProofs -dsimp only [go_sem, seval, hk', Int.lt_irrefl, p1, p2, p3, p4, p5, p6]
    rw [hk'] at h2
    rw [List.take_of_length_le (by omega)] at ho
    exact h2 _ _ ho
  | cons y ys ih =>
    intro k hk hle v T1 ho h2
    obtain ⟨hlt, hy, hk'⟩ := drop_lt hk
    obtain ⟨p1, p2, p3, p4, p5, p6⟩ := ho.form
    have hc := flat_at wtC_len hy
    have hc5 : k * 3 + 3 ≤ (xs.flatMap wtC).length := by rw [flat_length wtC_len]; omega
    refine AW_loopD (l := entry_Txn_writeKeys_l0) rfl hR ?_
    unfold entry_Txn_writeKeys_l0b
    simp -implicitDefEqProofs -dsimp only [go_sem, seval, Int.ofNat_lt, hlt, Int.natCast_nonneg, Int.toNat_natCast, hc, hc5, wtC, List.cons_append, List.nil_append, p1, p2, p3, p4, p5, p6]
    refine ho.app (m := 1) (news := [.s y.k]) rfl rfl (by omega) (by omega) fun v2 T2 ho => aft_nil ?_
    obtain ⟨p1, p2, p3, p4, p5, p6⟩ := ho.form
    simp -implicitDefEqProofs -dsimp only [go_sem, seval, p1, p2, p3, p4, p5, p6]
    rw [wrap_succ (by omega)]
    refine ih (k + 1) hk' hlt _ _ ?_ h2
    rw [take_succ_eq hy, List.map_append, ← strs_append]
    exact ho

theorem pc_writeKeys (t : Tx) (k1 k2 : Option Nat) (hl : t.ws.length < 1000000000) : PCalls prog f_entry_Txn_writeKeys [.agg (t.cells k1 k2)] (.fz t.ws.length (strs (t.ws.map (·.k))) none) := by
  refine pcalls_of mixed t_entry_Txn_writeKeys (by simp) fun T => ?_
  unfold s_entry_Txn_writeKeys
  simp -implicitDefEqProofs -dsimp only [go_sem, seval, Tx.cells]
  refine lp_writeKeys (T := T) (by repeat' (first | exact finX_ext _ _ | assumption | apply blkR_ext | apply thenR_ext | apply AW_ext)) hl t.ws 0 rfl (by omega) _ _ (.nil ..) (fun v T1 ho => ?_)
  obtain ⟨p1, p2, p3, p4, p5, p6⟩ := ho.form
  simp -implicitDefEqProofs -dsimp only [go_sem, seval, p1, p2, p3, p4, p5, p6]
  exact ho.fzn

def wOk (w : Wt) : Bool := valOk w.v && !(w.g && !decide (w.v = []))
theorem lp_values {R : RPost} (hR : ExtR R) {T : Tab} {xs : List Wt} {cap : Option Nat} (hl : xs.length < 1000000000) (hs : ∀ w ∈ xs, Len w.v.length) : ∀ (ys : List Wt) (k : Nat), xs.drop k = ys → k ≤ xs.length →
    (ys.all wOk = false → R .ret [(2, .b false)] [] T) →
    (ys.all wOk = true → R (.exit 0) [(6, .fz xs.length (xs.flatMap wtC) cap), (7, .i .i64 xs.length), (8, .i .i64 xs.length), (9, .b false)] [] T) →
    AW prog entry_Txn_values_l0 R [(6, .fz xs.length (xs.flatMap wtC) cap), (7, .i .i64 xs.length), (8, .i .i64 k)] [] T := by
  intro ys
  induction ys with
  | nil =>
    intro k hk hle h1 h2
    have hk' := drop_nil hk hle
    refine AW_loop hR ?_
    unfold entry_Txn_values_l0b
    simp -implicitDefEqProofs -dsimp only [go_sem, seval, hk', Int.lt_irrefl]
    rw [hk'] at h2
    exact h2 rfl
  | cons y ys ih =>
    intro k hk hle h1 h2
    obtain ⟨hlt, hy, hk'⟩ := drop_lt hk
    have hc := flat_at wtC_len hy
    have hc5 : k * 3 + 3 ≤ (xs.flatMap wtC).length := by rw [flat_length wtC_len]; omega
    have hyl : Len y.v.length := hs y (List.mem_of_getElem? hy)
    have hgo : wOk y = true → AW prog entry_Txn_values_l0 R [(6, .fz xs.length (xs.flatMap wtC) cap), (7, .i .i64 xs.length), (8, .i .i64 ((k + 1 : Nat) : Int))] [] T := fun h =>
      ih (k + 1) hk' hlt (fun h' => h1 (by simp [h, h'])) (fun h' => h2 (by simp [h, h']))
    have hno : wOk y = false → R .ret [(2, .b false)] [] T := fun h => h1 (by simp [h])
    have hws : IntKind.i64.wrap ((k : Int) + 1) = ((k + 1 : Nat) : Int) := wrap_succ (by omega)
    refine AW_loopD (l := entry_Txn_values_l0) rfl hR ?_
    unfold entry_Txn_values_l0b
    simp -implicitDefEqProofs -dsimp only [go_sem, seval, Int.ofNat_lt, hlt, Int.natCast_nonneg, Int.toNat_natCast, hc, hc5, wtC, List.cons_append, List.nil_append, ↓g_call _ _ c_keys_RightVal]
    refine CallK.pure (pc_kRightVal y.v hyl) (aft_nil ?_)
    simp -implicitDefEqProofs -dsimp only [go_sem, seval]
    refine br_split (fun h => ?_) (fun h => ?_)
    · have hv : valOk y.v = false := by simpa using h
      simp -implicitDefEqProofs -dsimp only [go_sem, seval, h]
      exact hno (by rw [wOk, hv, Bool.false_and])
    have hv : valOk y.v = true := by simpa using h
    simp -implicitDefEqProofs -dsimp only [go_sem, seval, h]
    refine br_split (fun hg => ?_) (fun hg => ?_)
    · simp -implicitDefEqProofs -dsimp only [go_sem, seval, h, hg]
      refine br_split (fun he => ?_) (fun he => ?_)
      · simp -implicitDefEqProofs -dsimp only [go_sem, seval, h, he]
        have he : decide (y.v = []) = false := by simpa using he
        exact hno (by rw [wOk, hv, hg, he]; rfl)
      · simp -implicitDefEqProofs -dsimp only [go_sem, seval, h, he, hws]
        have he : decide (y.v = []) = true := by simpa using he
        exact hgo (by rw [wOk, hv, hg, he]; rfl)
    · simp -implicitDefEqProofs -dsimp only [go_sem, seval, h, hg, hws]
      exact hgo (by rw [wOk, hv, hg]; rfl)

theorem pc_values (t : Tx) (k1 k2 : Option Nat) (hl : t.ws.length < 1000000000) (hs : ∀ w ∈ t.ws, Len w.v.length) : PCalls prog f_entry_Txn_values [.agg (t.cells k1 k2)] (.b (t.ws.all wOk)) := by
  refine pcalls_of mixed t_entry_Txn_values (by simp) fun T => ?_
  unfold s_entry_Txn_values
  simp -implicitDefEqProofs -dsimp only [go_sem, seval, Tx.cells]
  refine lp_values (by repeat' (first | exact finX_ext _ _ | assumption | apply blkR_ext | apply thenR_ext | apply AW_ext)) hl hs t.ws 0 rfl (by omega) (fun h => ?_) (fun h => ?_) <;> simp -implicitDefEqProofs -dsimp only [go_sem, seval] <;> exact finL_pure (by rw [h])

/-! The keys that were seen: a map. -/
def seenM (l : List Bs) : List (AV × AV) := l.map fun k => (.s k, .i .i64 1)
theorem mget_seen (k : Bs) : ∀ l : List Bs, mget .s (.s k) (seenM l) = some (if k ∈ l then some (.i .i64 1) else none)
  | [] => rfl
  | a :: l => by
    have ih := mget_seen k l
    simp only [seenM, List.map_cons, mget, isKeyAv, if_true, keyEq] at ih ⊢
    by_cases h : k = a
    · simp [h]
    · simp only [decide_eq_true_eq, h, if_false, ih, List.mem_cons, false_or]
theorem mput_seen (k : Bs) : ∀ l : List Bs, k ∉ l → mput (.s k) (.i .i64 1) (seenM l) = seenM (l ++ [k])
  | [], _ => rfl
  | a :: l, h => by
    simp only [List.mem_cons, not_or] at h
    have ih := mput_seen k l h.2
    simp only [seenM, List.map_cons, mput, keyEq, List.cons_append] at ih ⊢
    simp only [decide_eq_true_eq, h.1, if_false, ih]
theorem mget_mput {v : AV} (k : Bs) : ∀ l : List Bs, mget .s (.s k) (mput (.s k) v (seenM l)) = some (some v)
  | [] => by simp [seenM, mput, mget, isKeyAv, keyEq]
  | a :: l => by
    have ih := mget_mput (v := v) k l
    simp only [seenM, List.map_cons, mput, keyEq] at ih ⊢
    by_cases h : k = a
    · simp [h, mget, isKeyAv, keyEq]
    · simp only [decide_eq_true_eq, h, if_false, mget, isKeyAv, if_true, keyEq, ih]

def onceF : List Bs → List Bs → Bool
  | _, [] => true
  | pre, k :: ks => keyOk k && !decide (k ∈ pre) && onceF (pre ++ [k]) ks

theorem lp_once {R : RPost} (hR : ExtR R) {id : Nat} {xs : List Bs} {cap : Option Nat} (hl : xs.length < 1000000000) (hs : ∀ w ∈ xs, Len w.length) : ∀ (ys : List Bs) (k : Nat), xs.drop k = ys → k ≤ xs.length → ∀ (T : Tab),
    T id = .mapo (seenM (xs.take k)) →
    (onceF (xs.take k) ys = false → ∀ es, R .ret [(2, .b false)] [] (T.put id (.mapo es))) →
    (onceF (xs.take k) ys = true → ∀ es, R (.exit 0) [(3, .mp id), (7, .fz xs.length (strs xs) cap), (8, .i .i64 xs.length), (9, .i .i64 xs.length), (10, .b false)] [] (T.put id (.mapo es))) →
    AW prog entry_once_l0 R [(3, .mp id), (7, .fz xs.length (strs xs) cap), (8, .i .i64 xs.length), (9, .i .i64 k)] [] T := by
  intro ys
  induction ys with
  | nil =>
    intro k hk hle T hT h1 h2
    have hk' := drop_nil hk hle
    refine AW_loop hR ?_
    unfold entry_once_l0b
    simp -implicitDefEqProofs -dsimp only [go_sem, seval, hk', Int.lt_irrefl]
    have := h2 rfl (seenM (xs.take k))
    rw [Tab.put_self hT, hk'] at this
    exact this
  | cons y ys ih =>
    intro k hk hle T hT h1 h2
    obtain ⟨hlt, hy, hk'⟩ := drop_lt hk
    have hyl : Len y.length := hs y (List.mem_of_getElem? hy)
    have hws : IntKind.i64.wrap ((k : Int) + 1) = ((k + 1 : Nat) : Int) := wrap_succ (by omega)
    have hg := mget_seen y (xs.take k)
    have v1 : IntKind.i64.wrap 1 = 1 := rfl
    have v2 : IntKind.i64.wrap 2 = 2 := rfl
    simp only [onceF] at h1 h2
    refine AW_loopD (l := entry_once_l0) rfl hR ?_
    unfold entry_once_l0b
    simp -implicitDefEqProofs -dsimp only [go_sem, seval, Int.ofNat_lt, hlt, Int.natCast_nonneg, Int.toNat_natCast, strs_at, hy]
    by_cases hm : y ∈ xs.take k
    · rw [if_pos hm] at hg
      refine lkuS_has hT rfl hg (aft_nil ?_)
      simp -implicitDefEqProofs -dsimp only [go_sem, seval, v2]
      refine mupS_of hT rfl (by rw [hg]; rfl) (aft_nil ?_)
      simp -implicitDefEqProofs -dsimp only [go_sem, seval, ↓g_call _ _ c_keys_Right]
      refine CallK.pure (pc_kRight y hyl) (aft_nil ?_)
      rw [decide_eq_true hm, Bool.not_true, Bool.and_false, Bool.false_and] at h1
      simp -implicitDefEqProofs -dsimp only [go_sem, seval]
      refine br_split (fun h => ?_) (fun h => ?_)
      · simp -implicitDefEqProofs -dsimp only [go_sem, seval, h]
        exact h1 rfl _
      · simp -implicitDefEqProofs -dsimp only [go_sem, seval, h]
        refine lkuS_has (Tab.put_same ..) rfl (mget_mput y _) (aft_nil ?_)
        simp -implicitDefEqProofs -dsimp only [go_sem, seval, h, decide_true, decide_false]
        exact h1 rfl _
    · rw [if_neg hm] at hg
      refine lkuS_not hT rfl hg (aft_nil ?_)
      simp -implicitDefEqProofs -dsimp only [go_sem, seval, v1]
      refine mupS_of hT rfl (by rw [hg]; rfl) (aft_nil ?_)
      simp -implicitDefEqProofs -dsimp only [go_sem, seval, ↓g_call _ _ c_keys_Right]
      refine CallK.pure (pc_kRight y hyl) (aft_nil ?_)
      rw [decide_eq_false hm, Bool.not_false, Bool.and_true] at h1 h2
      simp -implicitDefEqProofs -dsimp only [go_sem, seval]
      refine br_split (fun h => ?_) (fun h => ?_)
      · have hv : keyOk y = false := by simpa using h
        rw [hv, Bool.false_and] at h1
        simp -implicitDefEqProofs -dsimp only [go_sem, seval, h]
        exact h1 rfl _
      · have hv : keyOk y = true := by simpa using h
        rw [hv, Bool.true_and] at h1 h2
        simp -implicitDefEqProofs -dsimp only [go_sem, seval, h]
        refine lkuS_has (Tab.put_same ..) rfl (mget_mput y _) (aft_nil ?_)
        simp -implicitDefEqProofs -dsimp only [go_sem, seval, h, decide_true, decide_false, hws]
        rw [← take_succ_eq hy] at h1 h2
        refine ih (k + 1) hk' hlt _ (by rw [Tab.put_same, mput_seen y _ hm, take_succ_eq hy]) (fun h' es => ?_) (fun h' es => ?_)
        · rw [Tab.put_put]; exact h1 h' es
        · rw [Tab.put_put]; exact h2 h' es

theorem pc_once (xs : List Bs) (cap : Option Nat) (hl : xs.length < 1000000000) (hs : ∀ w ∈ xs, Len w.length) : PCalls prog f_entry_once [.fz xs.length (strs xs) cap] (.b (onceF [] xs)) := by
  refine pcalls_of mixed t_entry_once (by simp) fun T => ?_
  unfold s_entry_once
  simp -implicitDefEqProofs -dsimp only [go_sem, seval]
  refine fun id hid => aft_nil ?_
  simp -implicitDefEqProofs -dsimp only [go_sem, seval]
  have hfin : ∀ (b : Bool) (es : List (AV × AV)), onceF [] xs = b → finL (.b b) (fun v T' => v = .b (onceF [] xs) ∧ T' = T) ((T.put id (.mapo [])).put id (.mapo es)) := fun b es hb => by
    refine finL_of T (fun j => ?_) ⟨by rw [hb], rfl⟩
    rw [Tab.put_put]
    by_cases e : j = id
    · subst e; exact .inl hid
    · rw [Tab.put_ne _ _ e]; exact .refl _
  refine lp_once (id := id) (by repeat' (first | exact finX_ext _ _ | assumption | apply blkR_ext | apply thenR_ext | apply AW_ext)) hl hs xs 0 rfl (by omega) _ (by rw [Tab.put_same]; rfl) (fun h es => ?_) (fun h es => ?_)
  · simp -implicitDefEqProofs -dsimp only [go_sem, seval]
    exact hfin _ es h
  · simp -implicitDefEqProofs -dsimp only [go_sem, seval]
    exact hfin _ es h

/-! May a transaction be? -/
def txOk (t : Tx) : Bool :=
  idOk t.cl t.sq && !decide (8 < (t.rs.length : Int)) && !decide (8 < (t.ws.length : Int)) && !decide ((t.rs.length : Int) + t.ws.length = 0) && !(t.pl && (!decide ((t.rs.length : Int) = 0) || !decide ((t.ws.length : Int) = 1))) &&
    (onceF [] (t.rs.map (·.k)) && onceF [] (t.ws.map (·.k)) && t.ws.all wOk)
structure Tx.Fine (t : Tx) : Prop where
  r : t.rs.length < 1000000000
  w : t.ws.length < 1000000000
  rk : ∀ r ∈ t.rs, Len r.k.length
  wk : ∀ r ∈ t.ws, Len r.k.length
  wv : ∀ r ∈ t.ws, Len r.v.length

theorem pc_RightTxn (t : Tx) (k1 k2 : Option Nat) (hf : t.Fine) : PCalls prog f_entry_RightTxn [.agg (t.cells k1 k2)] (.b (txOk t)) := by
  obtain ⟨cl, sq, pl, rs, ws⟩ := t
  refine pcalls_of mixed t_entry_RightTxn (by simp) fun T => ?_
  have w1 : IntKind.i64.wrap ((rs.length : Int) + ws.length) = (rs.length : Int) + ws.length := wrap_i64 (by have h1 : rs.length < 1000000000 := hf.r; have h2 : ws.length < 1000000000 := hf.w; unfold I64; omega)
  have c1 := pc_readKeys ⟨cl, sq, pl, rs, ws⟩ k1 k2 hf.r
  have c2 := pc_writeKeys ⟨cl, sq, pl, rs, ws⟩ k1 k2 hf.w
  have c3 := pc_values ⟨cl, sq, pl, rs, ws⟩ k1 k2 hf.w hf.wv
  have c4 := pc_once (rs.map (·.k)) none (by rw [List.length_map]; exact hf.r) (by intro w hw; obtain ⟨r, hr, rfl⟩ := List.mem_map.1 hw; exact hf.rk r hr)
  have c5 := pc_once (ws.map (·.k)) none (by rw [List.length_map]; exact hf.w) (by intro w hw; obtain ⟨r, hr, rfl⟩ := List.mem_map.1 hw; exact hf.wk r hr)
  rw [List.length_map] at c4 c5
  simp only [Tx.cells] at c1 c2 c3
  unfold s_entry_RightTxn
  cases pl
  all_goals
    simp -implicitDefEqProofs -dsimp only [go_sem, seval, Tx.cells, ↓g_call _ _ c_entry_RightID]
    refine CallK.pure (pc_RightID cl sq) (aft_nil ?_)
    rcases hid : idOk cl sq with _ | _
  all_goals
    simp -implicitDefEqProofs -dsimp only [go_sem, seval, decide_true, decide_false, Bool.not_true, Bool.not_false]
    (first | (apply br_split <;> intro h_1 <;> simp -implicitDefEqProofs -dsimp only [go_sem, seval, w1, ↓g_gdc, rcOk, true_and, ↓g_call _ _ c_entry_Txn_readKeys, ↓g_call _ _ c_entry_Txn_writeKeys, ↓g_call _ _ c_entry_Txn_values, ↓g_call _ _ c_entry_once, h_1]) | (refine CallK.pure (c1) (aft_nil ?_); simp -implicitDefEqProofs -dsimp only [go_sem, seval, w1, ↓g_gdc, rcOk, true_and, ↓g_call _ _ c_entry_Txn_readKeys, ↓g_call _ _ c_entry_Txn_writeKeys, ↓g_call _ _ c_entry_Txn_values, ↓g_call _ _ c_entry_once]; have h_1 := trivial) | (refine CallK.pure (c2) (aft_nil ?_); simp -implicitDefEqProofs -dsimp only [go_sem, seval, w1, ↓g_gdc, rcOk, true_and, ↓g_call _ _ c_entry_Txn_readKeys, ↓g_call _ _ c_entry_Txn_writeKeys, ↓g_call _ _ c_entry_Txn_values, ↓g_call _ _ c_entry_once]; have h_1 := trivial) | (refine CallK.pure (c3) (aft_nil ?_); simp -implicitDefEqProofs -dsimp only [go_sem, seval, w1, ↓g_gdc, rcOk, true_and, ↓g_call _ _ c_entry_Txn_readKeys, ↓g_call _ _ c_entry_Txn_writeKeys, ↓g_call _ _ c_entry_Txn_values, ↓g_call _ _ c_entry_once]; have h_1 := trivial) | (refine CallK.pure (c4) (aft_nil ?_); simp -implicitDefEqProofs -dsimp only [go_sem, seval, w1, ↓g_gdc, rcOk, true_and, ↓g_call _ _ c_entry_Txn_readKeys, ↓g_call _ _ c_entry_Txn_writeKeys, ↓g_call _ _ c_entry_Txn_values, ↓g_call _ _ c_entry_once]; have h_1 := trivial) | (refine CallK.pure (c5) (aft_nil ?_); simp -implicitDefEqProofs -dsimp only [go_sem, seval, w1, ↓g_gdc, rcOk, true_and, ↓g_call _ _ c_entry_Txn_readKeys, ↓g_call _ _ c_entry_Txn_writeKeys, ↓g_call _ _ c_entry_Txn_values, ↓g_call _ _ c_entry_once]; have h_1 := trivial) | (have h_1 := trivial)) <;>
    (first | (apply br_split <;> intro h_2 <;> simp -implicitDefEqProofs -dsimp only [go_sem, seval, w1, ↓g_gdc, rcOk, true_and, ↓g_call _ _ c_entry_Txn_readKeys, ↓g_call _ _ c_entry_Txn_writeKeys, ↓g_call _ _ c_entry_Txn_values, ↓g_call _ _ c_entry_once, h_1, h_2]) | (refine CallK.pure (c1) (aft_nil ?_); simp -implicitDefEqProofs -dsimp only [go_sem, seval, w1, ↓g_gdc, rcOk, true_and, ↓g_call _ _ c_entry_Txn_readKeys, ↓g_call _ _ c_entry_Txn_writeKeys, ↓g_call _ _ c_entry_Txn_values, ↓g_call _ _ c_entry_once, h_1]; have h_2 := trivial) | (refine CallK.pure (c2) (aft_nil ?_); simp -implicitDefEqProofs -dsimp only [go_sem, seval, w1, ↓g_gdc, rcOk, true_and, ↓g_call _ _ c_entry_Txn_readKeys, ↓g_call _ _ c_entry_Txn_writeKeys, ↓g_call _ _ c_entry_Txn_values, ↓g_call _ _ c_entry_once, h_1]; have h_2 := trivial) | (refine CallK.pure (c3) (aft_nil ?_); simp -implicitDefEqProofs -dsimp only [go_sem, seval, w1, ↓g_gdc, rcOk, true_and, ↓g_call _ _ c_entry_Txn_readKeys, ↓g_call _ _ c_entry_Txn_writeKeys, ↓g_call _ _ c_entry_Txn_values, ↓g_call _ _ c_entry_once, h_1]; have h_2 := trivial) | (refine CallK.pure (c4) (aft_nil ?_); simp -implicitDefEqProofs -dsimp only [go_sem, seval, w1, ↓g_gdc, rcOk, true_and, ↓g_call _ _ c_entry_Txn_readKeys, ↓g_call _ _ c_entry_Txn_writeKeys, ↓g_call _ _ c_entry_Txn_values, ↓g_call _ _ c_entry_once, h_1]; have h_2 := trivial) | (refine CallK.pure (c5) (aft_nil ?_); simp -implicitDefEqProofs -dsimp only [go_sem, seval, w1, ↓g_gdc, rcOk, true_and, ↓g_call _ _ c_entry_Txn_readKeys, ↓g_call _ _ c_entry_Txn_writeKeys, ↓g_call _ _ c_entry_Txn_values, ↓g_call _ _ c_entry_once, h_1]; have h_2 := trivial) | (have h_2 := trivial)) <;>
    (first | (apply br_split <;> intro h_3 <;> simp -implicitDefEqProofs -dsimp only [go_sem, seval, w1, ↓g_gdc, rcOk, true_and, ↓g_call _ _ c_entry_Txn_readKeys, ↓g_call _ _ c_entry_Txn_writeKeys, ↓g_call _ _ c_entry_Txn_values, ↓g_call _ _ c_entry_once, h_1, h_2, h_3]) | (refine CallK.pure (c1) (aft_nil ?_); simp -implicitDefEqProofs -dsimp only [go_sem, seval, w1, ↓g_gdc, rcOk, true_and, ↓g_call _ _ c_entry_Txn_readKeys, ↓g_call _ _ c_entry_Txn_writeKeys, ↓g_call _ _ c_entry_Txn_values, ↓g_call _ _ c_entry_once, h_1, h_2]; have h_3 := trivial) | (refine CallK.pure (c2) (aft_nil ?_); simp -implicitDefEqProofs -dsimp only [go_sem, seval, w1, ↓g_gdc, rcOk, true_and, ↓g_call _ _ c_entry_Txn_readKeys, ↓g_call _ _ c_entry_Txn_writeKeys, ↓g_call _ _ c_entry_Txn_values, ↓g_call _ _ c_entry_once, h_1, h_2]; have h_3 := trivial) | (refine CallK.pure (c3) (aft_nil ?_); simp -implicitDefEqProofs -dsimp only [go_sem, seval, w1, ↓g_gdc, rcOk, true_and, ↓g_call _ _ c_entry_Txn_readKeys, ↓g_call _ _ c_entry_Txn_writeKeys, ↓g_call _ _ c_entry_Txn_values, ↓g_call _ _ c_entry_once, h_1, h_2]; have h_3 := trivial) | (refine CallK.pure (c4) (aft_nil ?_); simp -implicitDefEqProofs -dsimp only [go_sem, seval, w1, ↓g_gdc, rcOk, true_and, ↓g_call _ _ c_entry_Txn_readKeys, ↓g_call _ _ c_entry_Txn_writeKeys, ↓g_call _ _ c_entry_Txn_values, ↓g_call _ _ c_entry_once, h_1, h_2]; have h_3 := trivial) | (refine CallK.pure (c5) (aft_nil ?_); simp -implicitDefEqProofs -dsimp only [go_sem, seval, w1, ↓g_gdc, rcOk, true_and, ↓g_call _ _ c_entry_Txn_readKeys, ↓g_call _ _ c_entry_Txn_writeKeys, ↓g_call _ _ c_entry_Txn_values, ↓g_call _ _ c_entry_once, h_1, h_2]; have h_3 := trivial) | (have h_3 := trivial)) <;>
    (first | (apply br_split <;> intro h_4 <;> simp -implicitDefEqProofs -dsimp only [go_sem, seval, w1, ↓g_gdc, rcOk, true_and, ↓g_call _ _ c_entry_Txn_readKeys, ↓g_call _ _ c_entry_Txn_writeKeys, ↓g_call _ _ c_entry_Txn_values, ↓g_call _ _ c_entry_once, h_1, h_2, h_3, h_4]) | (refine CallK.pure (c1) (aft_nil ?_); simp -implicitDefEqProofs -dsimp only [go_sem, seval, w1, ↓g_gdc, rcOk, true_and, ↓g_call _ _ c_entry_Txn_readKeys, ↓g_call _ _ c_entry_Txn_writeKeys, ↓g_call _ _ c_entry_Txn_values, ↓g_call _ _ c_entry_once, h_1, h_2, h_3]; have h_4 := trivial) | (refine CallK.pure (c2) (aft_nil ?_); simp -implicitDefEqProofs -dsimp only [go_sem, seval, w1, ↓g_gdc, rcOk, true_and, ↓g_call _ _ c_entry_Txn_readKeys, ↓g_call _ _ c_entry_Txn_writeKeys, ↓g_call _ _ c_entry_Txn_values, ↓g_call _ _ c_entry_once, h_1, h_2, h_3]; have h_4 := trivial) | (refine CallK.pure (c3) (aft_nil ?_); simp -implicitDefEqProofs -dsimp only [go_sem, seval, w1, ↓g_gdc, rcOk, true_and, ↓g_call _ _ c_entry_Txn_readKeys, ↓g_call _ _ c_entry_Txn_writeKeys, ↓g_call _ _ c_entry_Txn_values, ↓g_call _ _ c_entry_once, h_1, h_2, h_3]; have h_4 := trivial) | (refine CallK.pure (c4) (aft_nil ?_); simp -implicitDefEqProofs -dsimp only [go_sem, seval, w1, ↓g_gdc, rcOk, true_and, ↓g_call _ _ c_entry_Txn_readKeys, ↓g_call _ _ c_entry_Txn_writeKeys, ↓g_call _ _ c_entry_Txn_values, ↓g_call _ _ c_entry_once, h_1, h_2, h_3]; have h_4 := trivial) | (refine CallK.pure (c5) (aft_nil ?_); simp -implicitDefEqProofs -dsimp only [go_sem, seval, w1, ↓g_gdc, rcOk, true_and, ↓g_call _ _ c_entry_Txn_readKeys, ↓g_call _ _ c_entry_Txn_writeKeys, ↓g_call _ _ c_entry_Txn_values, ↓g_call _ _ c_entry_once, h_1, h_2, h_3]; have h_4 := trivial) | (have h_4 := trivial)) <;>
    (first | (apply br_split <;> intro h_5 <;> simp -implicitDefEqProofs -dsimp only [go_sem, seval, w1, ↓g_gdc, rcOk, true_and, ↓g_call _ _ c_entry_Txn_readKeys, ↓g_call _ _ c_entry_Txn_writeKeys, ↓g_call _ _ c_entry_Txn_values, ↓g_call _ _ c_entry_once, h_1, h_2, h_3, h_4, h_5]) | (refine CallK.pure (c1) (aft_nil ?_); simp -implicitDefEqProofs -dsimp only [go_sem, seval, w1, ↓g_gdc, rcOk, true_and, ↓g_call _ _ c_entry_Txn_readKeys, ↓g_call _ _ c_entry_Txn_writeKeys, ↓g_call _ _ c_entry_Txn_values, ↓g_call _ _ c_entry_once, h_1, h_2, h_3, h_4]; have h_5 := trivial) | (refine CallK.pure (c2) (aft_nil ?_); simp -implicitDefEqProofs -dsimp only [go_sem, seval, w1, ↓g_gdc, rcOk, true_and, ↓g_call _ _ c_entry_Txn_readKeys, ↓g_call _ _ c_entry_Txn_writeKeys, ↓g_call _ _ c_entry_Txn_values, ↓g_call _ _ c_entry_once, h_1, h_2, h_3, h_4]; have h_5 := trivial) | (refine CallK.pure (c3) (aft_nil ?_); simp -implicitDefEqProofs -dsimp only [go_sem, seval, w1, ↓g_gdc, rcOk, true_and, ↓g_call _ _ c_entry_Txn_readKeys, ↓g_call _ _ c_entry_Txn_writeKeys, ↓g_call _ _ c_entry_Txn_values, ↓g_call _ _ c_entry_once, h_1, h_2, h_3, h_4]; have h_5 := trivial) | (refine CallK.pure (c4) (aft_nil ?_); simp -implicitDefEqProofs -dsimp only [go_sem, seval, w1, ↓g_gdc, rcOk, true_and, ↓g_call _ _ c_entry_Txn_readKeys, ↓g_call _ _ c_entry_Txn_writeKeys, ↓g_call _ _ c_entry_Txn_values, ↓g_call _ _ c_entry_once, h_1, h_2, h_3, h_4]; have h_5 := trivial) | (refine CallK.pure (c5) (aft_nil ?_); simp -implicitDefEqProofs -dsimp only [go_sem, seval, w1, ↓g_gdc, rcOk, true_and, ↓g_call _ _ c_entry_Txn_readKeys, ↓g_call _ _ c_entry_Txn_writeKeys, ↓g_call _ _ c_entry_Txn_values, ↓g_call _ _ c_entry_once, h_1, h_2, h_3, h_4]; have h_5 := trivial) | (have h_5 := trivial)) <;>
    (first | (apply br_split <;> intro h_6 <;> simp -implicitDefEqProofs -dsimp only [go_sem, seval, w1, ↓g_gdc, rcOk, true_and, ↓g_call _ _ c_entry_Txn_readKeys, ↓g_call _ _ c_entry_Txn_writeKeys, ↓g_call _ _ c_entry_Txn_values, ↓g_call _ _ c_entry_once, h_1, h_2, h_3, h_4, h_5, h_6]) | (refine CallK.pure (c1) (aft_nil ?_); simp -implicitDefEqProofs -dsimp only [go_sem, seval, w1, ↓g_gdc, rcOk, true_and, ↓g_call _ _ c_entry_Txn_readKeys, ↓g_call _ _ c_entry_Txn_writeKeys, ↓g_call _ _ c_entry_Txn_values, ↓g_call _ _ c_entry_once, h_1, h_2, h_3, h_4, h_5]; have h_6 := trivial) | (refine CallK.pure (c2) (aft_nil ?_); simp -implicitDefEqProofs -dsimp only [go_sem, seval, w1, ↓g_gdc, rcOk, true_and, ↓g_call _ _ c_entry_Txn_readKeys, ↓g_call _ _ c_entry_Txn_writeKeys, ↓g_call _ _ c_entry_Txn_values, ↓g_call _ _ c_entry_once, h_1, h_2, h_3, h_4, h_5]; have h_6 := trivial) | (refine CallK.pure (c3) (aft_nil ?_); simp -implicitDefEqProofs -dsimp only [go_sem, seval, w1, ↓g_gdc, rcOk, true_and, ↓g_call _ _ c_entry_Txn_readKeys, ↓g_call _ _ c_entry_Txn_writeKeys, ↓g_call _ _ c_entry_Txn_values, ↓g_call _ _ c_entry_once, h_1, h_2, h_3, h_4, h_5]; have h_6 := trivial) | (refine CallK.pure (c4) (aft_nil ?_); simp -implicitDefEqProofs -dsimp only [go_sem, seval, w1, ↓g_gdc, rcOk, true_and, ↓g_call _ _ c_entry_Txn_readKeys, ↓g_call _ _ c_entry_Txn_writeKeys, ↓g_call _ _ c_entry_Txn_values, ↓g_call _ _ c_entry_once, h_1, h_2, h_3, h_4, h_5]; have h_6 := trivial) | (refine CallK.pure (c5) (aft_nil ?_); simp -implicitDefEqProofs -dsimp only [go_sem, seval, w1, ↓g_gdc, rcOk, true_and, ↓g_call _ _ c_entry_Txn_readKeys, ↓g_call _ _ c_entry_Txn_writeKeys, ↓g_call _ _ c_entry_Txn_values, ↓g_call _ _ c_entry_once, h_1, h_2, h_3, h_4, h_5]; have h_6 := trivial) | (have h_6 := trivial)) <;>
    (first | (apply br_split <;> intro h_7 <;> simp -implicitDefEqProofs -dsimp only [go_sem, seval, w1, ↓g_gdc, rcOk, true_and, ↓g_call _ _ c_entry_Txn_readKeys, ↓g_call _ _ c_entry_Txn_writeKeys, ↓g_call _ _ c_entry_Txn_values, ↓g_call _ _ c_entry_once, h_1, h_2, h_3, h_4, h_5, h_6, h_7]) | (refine CallK.pure (c1) (aft_nil ?_); simp -implicitDefEqProofs -dsimp only [go_sem, seval, w1, ↓g_gdc, rcOk, true_and, ↓g_call _ _ c_entry_Txn_readKeys, ↓g_call _ _ c_entry_Txn_writeKeys, ↓g_call _ _ c_entry_Txn_values, ↓g_call _ _ c_entry_once, h_1, h_2, h_3, h_4, h_5, h_6]; have h_7 := trivial) | (refine CallK.pure (c2) (aft_nil ?_); simp -implicitDefEqProofs -dsimp only [go_sem, seval, w1, ↓g_gdc, rcOk, true_and, ↓g_call _ _ c_entry_Txn_readKeys, ↓g_call _ _ c_entry_Txn_writeKeys, ↓g_call _ _ c_entry_Txn_values, ↓g_call _ _ c_entry_once, h_1, h_2, h_3, h_4, h_5, h_6]; have h_7 := trivial) | (refine CallK.pure (c3) (aft_nil ?_); simp -implicitDefEqProofs -dsimp only [go_sem, seval, w1, ↓g_gdc, rcOk, true_and, ↓g_call _ _ c_entry_Txn_readKeys, ↓g_call _ _ c_entry_Txn_writeKeys, ↓g_call _ _ c_entry_Txn_values, ↓g_call _ _ c_entry_once, h_1, h_2, h_3, h_4, h_5, h_6]; have h_7 := trivial) | (refine CallK.pure (c4) (aft_nil ?_); simp -implicitDefEqProofs -dsimp only [go_sem, seval, w1, ↓g_gdc, rcOk, true_and, ↓g_call _ _ c_entry_Txn_readKeys, ↓g_call _ _ c_entry_Txn_writeKeys, ↓g_call _ _ c_entry_Txn_values, ↓g_call _ _ c_entry_once, h_1, h_2, h_3, h_4, h_5, h_6]; have h_7 := trivial) | (refine CallK.pure (c5) (aft_nil ?_); simp -implicitDefEqProofs -dsimp only [go_sem, seval, w1, ↓g_gdc, rcOk, true_and, ↓g_call _ _ c_entry_Txn_readKeys, ↓g_call _ _ c_entry_Txn_writeKeys, ↓g_call _ _ c_entry_Txn_values, ↓g_call _ _ c_entry_once, h_1, h_2, h_3, h_4, h_5, h_6]; have h_7 := trivial) | (have h_7 := trivial)) <;>
    (first | (apply br_split <;> intro h_8 <;> simp -implicitDefEqProofs -dsimp only [go_sem, seval, w1, ↓g_gdc, rcOk, true_and, ↓g_call _ _ c_entry_Txn_readKeys, ↓g_call _ _ c_entry_Txn_writeKeys, ↓g_call _ _ c_entry_Txn_values, ↓g_call _ _ c_entry_once, h_1, h_2, h_3, h_4, h_5, h_6, h_7, h_8]) | (refine CallK.pure (c1) (aft_nil ?_); simp -implicitDefEqProofs -dsimp only [go_sem, seval, w1, ↓g_gdc, rcOk, true_and, ↓g_call _ _ c_entry_Txn_readKeys, ↓g_call _ _ c_entry_Txn_writeKeys, ↓g_call _ _ c_entry_Txn_values, ↓g_call _ _ c_entry_once, h_1, h_2, h_3, h_4, h_5, h_6, h_7]; have h_8 := trivial) | (refine CallK.pure (c2) (aft_nil ?_); simp -implicitDefEqProofs -dsimp only [go_sem, seval, w1, ↓g_gdc, rcOk, true_and, ↓g_call _ _ c_entry_Txn_readKeys, ↓g_call _ _ c_entry_Txn_writeKeys, ↓g_call _ _ c_entry_Txn_values, ↓g_call _ _ c_entry_once, h_1, h_2, h_3, h_4, h_5, h_6, h_7]; have h_8 := trivial) | (refine CallK.pure (c3) (aft_nil ?_); simp -implicitDefEqProofs -dsimp only [go_sem, seval, w1, ↓g_gdc, rcOk, true_and, ↓g_call _ _ c_entry_Txn_readKeys, ↓g_call _ _ c_entry_Txn_writeKeys, ↓g_call _ _ c_entry_Txn_values, ↓g_call _ _ c_entry_once, h_1, h_2, h_3, h_4, h_5, h_6, h_7]; have h_8 := trivial) | (refine CallK.pure (c4) (aft_nil ?_); simp -implicitDefEqProofs -dsimp only [go_sem, seval, w1, ↓g_gdc, rcOk, true_and, ↓g_call _ _ c_entry_Txn_readKeys, ↓g_call _ _ c_entry_Txn_writeKeys, ↓g_call _ _ c_entry_Txn_values, ↓g_call _ _ c_entry_once, h_1, h_2, h_3, h_4, h_5, h_6, h_7]; have h_8 := trivial) | (refine CallK.pure (c5) (aft_nil ?_); simp -implicitDefEqProofs -dsimp only [go_sem, seval, w1, ↓g_gdc, rcOk, true_and, ↓g_call _ _ c_entry_Txn_readKeys, ↓g_call _ _ c_entry_Txn_writeKeys, ↓g_call _ _ c_entry_Txn_values, ↓g_call _ _ c_entry_once, h_1, h_2, h_3, h_4, h_5, h_6, h_7]; have h_8 := trivial) | (have h_8 := trivial)) <;>
    (first | (apply br_split <;> intro h_9 <;> simp -implicitDefEqProofs -dsimp only [go_sem, seval, w1, ↓g_gdc, rcOk, true_and, ↓g_call _ _ c_entry_Txn_readKeys, ↓g_call _ _ c_entry_Txn_writeKeys, ↓g_call _ _ c_entry_Txn_values, ↓g_call _ _ c_entry_once, h_1, h_2, h_3, h_4, h_5, h_6, h_7, h_8, h_9]) | (refine CallK.pure (c1) (aft_nil ?_); simp -implicitDefEqProofs -dsimp only [go_sem, seval, w1, ↓g_gdc, rcOk, true_and, ↓g_call _ _ c_entry_Txn_readKeys, ↓g_call _ _ c_entry_Txn_writeKeys, ↓g_call _ _ c_entry_Txn_values, ↓g_call _ _ c_entry_once, h_1, h_2, h_3, h_4, h_5, h_6, h_7, h_8]; have h_9 := trivial) | (refine CallK.pure (c2) (aft_nil ?_); simp -implicitDefEqProofs -dsimp only [go_sem, seval, w1, ↓g_gdc, rcOk, true_and, ↓g_call _ _ c_entry_Txn_readKeys, ↓g_call _ _ c_entry_Txn_writeKeys, ↓g_call _ _ c_entry_Txn_values, ↓g_call _ _ c_entry_once, h_1, h_2, h_3, h_4, h_5, h_6, h_7, h_8]; have h_9 := trivial) | (refine CallK.pure (c3) (aft_nil ?_); simp -implicitDefEqProofs -dsimp only [go_sem, seval, w1, ↓g_gdc, rcOk, true_and, ↓g_call _ _ c_entry_Txn_readKeys, ↓g_call _ _ c_entry_Txn_writeKeys, ↓g_call _ _ c_entry_Txn_values, ↓g_call _ _ c_entry_once, h_1, h_2, h_3, h_4, h_5, h_6, h_7, h_8]; have h_9 := trivial) | (refine CallK.pure (c4) (aft_nil ?_); simp -implicitDefEqProofs -dsimp only [go_sem, seval, w1, ↓g_gdc, rcOk, true_and, ↓g_call _ _ c_entry_Txn_readKeys, ↓g_call _ _ c_entry_Txn_writeKeys, ↓g_call _ _ c_entry_Txn_values, ↓g_call _ _ c_entry_once, h_1, h_2, h_3, h_4, h_5, h_6, h_7, h_8]; have h_9 := trivial) | (refine CallK.pure (c5) (aft_nil ?_); simp -implicitDefEqProofs -dsimp only [go_sem, seval, w1, ↓g_gdc, rcOk, true_and, ↓g_call _ _ c_entry_Txn_readKeys, ↓g_call _ _ c_entry_Txn_writeKeys, ↓g_call _ _ c_entry_Txn_values, ↓g_call _ _ c_entry_once, h_1, h_2, h_3, h_4, h_5, h_6, h_7, h_8]; have h_9 := trivial) | (have h_9 := trivial)) <;>
    (first | (apply br_split <;> intro h_10 <;> simp -implicitDefEqProofs -dsimp only [go_sem, seval, w1, ↓g_gdc, rcOk, true_and, ↓g_call _ _ c_entry_Txn_readKeys, ↓g_call _ _ c_entry_Txn_writeKeys, ↓g_call _ _ c_entry_Txn_values, ↓g_call _ _ c_entry_once, h_1, h_2, h_3, h_4, h_5, h_6, h_7, h_8, h_9, h_10]) | (refine CallK.pure (c1) (aft_nil ?_); simp -implicitDefEqProofs -dsimp only [go_sem, seval, w1, ↓g_gdc, rcOk, true_and, ↓g_call _ _ c_entry_Txn_readKeys, ↓g_call _ _ c_entry_Txn_writeKeys, ↓g_call _ _ c_entry_Txn_values, ↓g_call _ _ c_entry_once, h_1, h_2, h_3, h_4, h_5, h_6, h_7, h_8, h_9]; have h_10 := trivial) | (refine CallK.pure (c2) (aft_nil ?_); simp -implicitDefEqProofs -dsimp only [go_sem, seval, w1, ↓g_gdc, rcOk, true_and, ↓g_call _ _ c_entry_Txn_readKeys, ↓g_call _ _ c_entry_Txn_writeKeys, ↓g_call _ _ c_entry_Txn_values, ↓g_call _ _ c_entry_once, h_1, h_2, h_3, h_4, h_5, h_6, h_7, h_8, h_9]; have h_10 := trivial) | (refine CallK.pure (c3) (aft_nil ?_); simp -implicitDefEqProofs -dsimp only [go_sem, seval, w1, ↓g_gdc, rcOk, true_and, ↓g_call _ _ c_entry_Txn_readKeys, ↓g_call _ _ c_entry_Txn_writeKeys, ↓g_call _ _ c_entry_Txn_values, ↓g_call _ _ c_entry_once, h_1, h_2, h_3, h_4, h_5, h_6, h_7, h_8, h_9]; have h_10 := trivial) | (refine CallK.pure (c4) (aft_nil ?_); simp -implicitDefEqProofs -dsimp only [go_sem, seval, w1, ↓g_gdc, rcOk, true_and, ↓g_call _ _ c_entry_Txn_readKeys, ↓g_call _ _ c_entry_Txn_writeKeys, ↓g_call _ _ c_entry_Txn_values, ↓g_call _ _ c_entry_once, h_1, h_2, h_3, h_4, h_5, h_6, h_7, h_8, h_9]; have h_10 := trivial) | (refine CallK.pure (c5) (aft_nil ?_); simp -implicitDefEqProofs -dsimp only [go_sem, seval, w1, ↓g_gdc, rcOk, true_and, ↓g_call _ _ c_entry_Txn_readKeys, ↓g_call _ _ c_entry_Txn_writeKeys, ↓g_call _ _ c_entry_Txn_values, ↓g_call _ _ c_entry_once, h_1, h_2, h_3, h_4, h_5, h_6, h_7, h_8, h_9]; have h_10 := trivial) | (have h_10 := trivial)) <;>
    (first | (apply br_split <;> intro h_11 <;> simp -implicitDefEqProofs -dsimp only [go_sem, seval, w1, ↓g_gdc, rcOk, true_and, ↓g_call _ _ c_entry_Txn_readKeys, ↓g_call _ _ c_entry_Txn_writeKeys, ↓g_call _ _ c_entry_Txn_values, ↓g_call _ _ c_entry_once, h_1, h_2, h_3, h_4, h_5, h_6, h_7, h_8, h_9, h_10, h_11]) | (refine CallK.pure (c1) (aft_nil ?_); simp -implicitDefEqProofs -dsimp only [go_sem, seval, w1, ↓g_gdc, rcOk, true_and, ↓g_call _ _ c_entry_Txn_readKeys, ↓g_call _ _ c_entry_Txn_writeKeys, ↓g_call _ _ c_entry_Txn_values, ↓g_call _ _ c_entry_once, h_1, h_2, h_3, h_4, h_5, h_6, h_7, h_8, h_9, h_10]; have h_11 := trivial) | (refine CallK.pure (c2) (aft_nil ?_); simp -implicitDefEqProofs -dsimp only [go_sem, seval, w1, ↓g_gdc, rcOk, true_and, ↓g_call _ _ c_entry_Txn_readKeys, ↓g_call _ _ c_entry_Txn_writeKeys, ↓g_call _ _ c_entry_Txn_values, ↓g_call _ _ c_entry_once, h_1, h_2, h_3, h_4, h_5, h_6, h_7, h_8, h_9, h_10]; have h_11 := trivial) | (refine CallK.pure (c3) (aft_nil ?_); simp -implicitDefEqProofs -dsimp only [go_sem, seval, w1, ↓g_gdc, rcOk, true_and, ↓g_call _ _ c_entry_Txn_readKeys, ↓g_call _ _ c_entry_Txn_writeKeys, ↓g_call _ _ c_entry_Txn_values, ↓g_call _ _ c_entry_once, h_1, h_2, h_3, h_4, h_5, h_6, h_7, h_8, h_9, h_10]; have h_11 := trivial) | (refine CallK.pure (c4) (aft_nil ?_); simp -implicitDefEqProofs -dsimp only [go_sem, seval, w1, ↓g_gdc, rcOk, true_and, ↓g_call _ _ c_entry_Txn_readKeys, ↓g_call _ _ c_entry_Txn_writeKeys, ↓g_call _ _ c_entry_Txn_values, ↓g_call _ _ c_entry_once, h_1, h_2, h_3, h_4, h_5, h_6, h_7, h_8, h_9, h_10]; have h_11 := trivial) | (refine CallK.pure (c5) (aft_nil ?_); simp -implicitDefEqProofs -dsimp only [go_sem, seval, w1, ↓g_gdc, rcOk, true_and, ↓g_call _ _ c_entry_Txn_readKeys, ↓g_call _ _ c_entry_Txn_writeKeys, ↓g_call _ _ c_entry_Txn_values, ↓g_call _ _ c_entry_once, h_1, h_2, h_3, h_4, h_5, h_6, h_7, h_8, h_9, h_10]; have h_11 := trivial) | (have h_11 := trivial)) <;>
    (first | (apply br_split <;> intro h_12 <;> simp -implicitDefEqProofs -dsimp only [go_sem, seval, w1, ↓g_gdc, rcOk, true_and, ↓g_call _ _ c_entry_Txn_readKeys, ↓g_call _ _ c_entry_Txn_writeKeys, ↓g_call _ _ c_entry_Txn_values, ↓g_call _ _ c_entry_once, h_1, h_2, h_3, h_4, h_5, h_6, h_7, h_8, h_9, h_10, h_11, h_12]) | (refine CallK.pure (c1) (aft_nil ?_); simp -implicitDefEqProofs -dsimp only [go_sem, seval, w1, ↓g_gdc, rcOk, true_and, ↓g_call _ _ c_entry_Txn_readKeys, ↓g_call _ _ c_entry_Txn_writeKeys, ↓g_call _ _ c_entry_Txn_values, ↓g_call _ _ c_entry_once, h_1, h_2, h_3, h_4, h_5, h_6, h_7, h_8, h_9, h_10, h_11]; have h_12 := trivial) | (refine CallK.pure (c2) (aft_nil ?_); simp -implicitDefEqProofs -dsimp only [go_sem, seval, w1, ↓g_gdc, rcOk, true_and, ↓g_call _ _ c_entry_Txn_readKeys, ↓g_call _ _ c_entry_Txn_writeKeys, ↓g_call _ _ c_entry_Txn_values, ↓g_call _ _ c_entry_once, h_1, h_2, h_3, h_4, h_5, h_6, h_7, h_8, h_9, h_10, h_11]; have h_12 := trivial) | (refine CallK.pure (c3) (aft_nil ?_); simp -implicitDefEqProofs -dsimp only [go_sem, seval, w1, ↓g_gdc, rcOk, true_and, ↓g_call _ _ c_entry_Txn_readKeys, ↓g_call _ _ c_entry_Txn_writeKeys, ↓g_call _ _ c_entry_Txn_values, ↓g_call _ _ c_entry_once, h_1, h_2, h_3, h_4, h_5, h_6, h_7, h_8, h_9, h_10, h_11]; have h_12 := trivial) | (refine CallK.pure (c4) (aft_nil ?_); simp -implicitDefEqProofs -dsimp only [go_sem, seval, w1, ↓g_gdc, rcOk, true_and, ↓g_call _ _ c_entry_Txn_readKeys, ↓g_call _ _ c_entry_Txn_writeKeys, ↓g_call _ _ c_entry_Txn_values, ↓g_call _ _ c_entry_once, h_1, h_2, h_3, h_4, h_5, h_6, h_7, h_8, h_9, h_10, h_11]; have h_12 := trivial) | (refine CallK.pure (c5) (aft_nil ?_); simp -implicitDefEqProofs -dsimp only [go_sem, seval, w1, ↓g_gdc, rcOk, true_and, ↓g_call _ _ c_entry_Txn_readKeys, ↓g_call _ _ c_entry_Txn_writeKeys, ↓g_call _ _ c_entry_Txn_values, ↓g_call _ _ c_entry_once, h_1, h_2, h_3, h_4, h_5, h_6, h_7, h_8, h_9, h_10, h_11]; have h_12 := trivial) | (have h_12 := trivial)) <;>
    (first | (apply br_split <;> intro h_13 <;> simp -implicitDefEqProofs -dsimp only [go_sem, seval, w1, ↓g_gdc, rcOk, true_and, ↓g_call _ _ c_entry_Txn_readKeys, ↓g_call _ _ c_entry_Txn_writeKeys, ↓g_call _ _ c_entry_Txn_values, ↓g_call _ _ c_entry_once, h_1, h_2, h_3, h_4, h_5, h_6, h_7, h_8, h_9, h_10, h_11, h_12, h_13]) | (refine CallK.pure (c1) (aft_nil ?_); simp -implicitDefEqProofs -dsimp only [go_sem, seval, w1, ↓g_gdc, rcOk, true_and, ↓g_call _ _ c_entry_Txn_readKeys, ↓g_call _ _ c_entry_Txn_writeKeys, ↓g_call _ _ c_entry_Txn_values, ↓g_call _ _ c_entry_once, h_1, h_2, h_3, h_4, h_5, h_6, h_7, h_8, h_9, h_10, h_11, h_12]; have h_13 := trivial) | (refine CallK.pure (c2) (aft_nil ?_); simp -implicitDefEqProofs -dsimp only [go_sem, seval, w1, ↓g_gdc, rcOk, true_and, ↓g_call _ _ c_entry_Txn_readKeys, ↓g_call _ _ c_entry_Txn_writeKeys, ↓g_call _ _ c_entry_Txn_values, ↓g_call _ _ c_entry_once, h_1, h_2, h_3, h_4, h_5, h_6, h_7, h_8, h_9, h_10, h_11, h_12]; have h_13 := trivial) | (refine CallK.pure (c3) (aft_nil ?_); simp -implicitDefEqProofs -dsimp only [go_sem, seval, w1, ↓g_gdc, rcOk, true_and, ↓g_call _ _ c_entry_Txn_readKeys, ↓g_call _ _ c_entry_Txn_writeKeys, ↓g_call _ _ c_entry_Txn_values, ↓g_call _ _ c_entry_once, h_1, h_2, h_3, h_4, h_5, h_6, h_7, h_8, h_9, h_10, h_11, h_12]; have h_13 := trivial) | (refine CallK.pure (c4) (aft_nil ?_); simp -implicitDefEqProofs -dsimp only [go_sem, seval, w1, ↓g_gdc, rcOk, true_and, ↓g_call _ _ c_entry_Txn_readKeys, ↓g_call _ _ c_entry_Txn_writeKeys, ↓g_call _ _ c_entry_Txn_values, ↓g_call _ _ c_entry_once, h_1, h_2, h_3, h_4, h_5, h_6, h_7, h_8, h_9, h_10, h_11, h_12]; have h_13 := trivial) | (refine CallK.pure (c5) (aft_nil ?_); simp -implicitDefEqProofs -dsimp only [go_sem, seval, w1, ↓g_gdc, rcOk, true_and, ↓g_call _ _ c_entry_Txn_readKeys, ↓g_call _ _ c_entry_Txn_writeKeys, ↓g_call _ _ c_entry_Txn_values, ↓g_call _ _ c_entry_once, h_1, h_2, h_3, h_4, h_5, h_6, h_7, h_8, h_9, h_10, h_11, h_12]; have h_13 := trivial) | (have h_13 := trivial)) <;>
    (first | (apply br_split <;> intro h_14 <;> simp -implicitDefEqProofs -dsimp only [go_sem, seval, w1, ↓g_gdc, rcOk, true_and, ↓g_call _ _ c_entry_Txn_readKeys, ↓g_call _ _ c_entry_Txn_writeKeys, ↓g_call _ _ c_entry_Txn_values, ↓g_call _ _ c_entry_once, h_1, h_2, h_3, h_4, h_5, h_6, h_7, h_8, h_9, h_10, h_11, h_12, h_13, h_14]) | (refine CallK.pure (c1) (aft_nil ?_); simp -implicitDefEqProofs -dsimp only [go_sem, seval, w1, ↓g_gdc, rcOk, true_and, ↓g_call _ _ c_entry_Txn_readKeys, ↓g_call _ _ c_entry_Txn_writeKeys, ↓g_call _ _ c_entry_Txn_values, ↓g_call _ _ c_entry_once, h_1, h_2, h_3, h_4, h_5, h_6, h_7, h_8, h_9, h_10, h_11, h_12, h_13]; have h_14 := trivial) | (refine CallK.pure (c2) (aft_nil ?_); simp -implicitDefEqProofs -dsimp only [go_sem, seval, w1, ↓g_gdc, rcOk, true_and, ↓g_call _ _ c_entry_Txn_readKeys, ↓g_call _ _ c_entry_Txn_writeKeys, ↓g_call _ _ c_entry_Txn_values, ↓g_call _ _ c_entry_once, h_1, h_2, h_3, h_4, h_5, h_6, h_7, h_8, h_9, h_10, h_11, h_12, h_13]; have h_14 := trivial) | (refine CallK.pure (c3) (aft_nil ?_); simp -implicitDefEqProofs -dsimp only [go_sem, seval, w1, ↓g_gdc, rcOk, true_and, ↓g_call _ _ c_entry_Txn_readKeys, ↓g_call _ _ c_entry_Txn_writeKeys, ↓g_call _ _ c_entry_Txn_values, ↓g_call _ _ c_entry_once, h_1, h_2, h_3, h_4, h_5, h_6, h_7, h_8, h_9, h_10, h_11, h_12, h_13]; have h_14 := trivial) | (refine CallK.pure (c4) (aft_nil ?_); simp -implicitDefEqProofs -dsimp only [go_sem, seval, w1, ↓g_gdc, rcOk, true_and, ↓g_call _ _ c_entry_Txn_readKeys, ↓g_call _ _ c_entry_Txn_writeKeys, ↓g_call _ _ c_entry_Txn_values, ↓g_call _ _ c_entry_once, h_1, h_2, h_3, h_4, h_5, h_6, h_7, h_8, h_9, h_10, h_11, h_12, h_13]; have h_14 := trivial) | (refine CallK.pure (c5) (aft_nil ?_); simp -implicitDefEqProofs -dsimp only [go_sem, seval, w1, ↓g_gdc, rcOk, true_and, ↓g_call _ _ c_entry_Txn_readKeys, ↓g_call _ _ c_entry_Txn_writeKeys, ↓g_call _ _ c_entry_Txn_values, ↓g_call _ _ c_entry_once, h_1, h_2, h_3, h_4, h_5, h_6, h_7, h_8, h_9, h_10, h_11, h_12, h_13]; have h_14 := trivial) | (have h_14 := trivial))
    all_goals (
      refine finL_pure ?_
      simp only [txOk, *, Bool.not_true, Bool.not_false, Bool.true_and, Bool.false_and, Bool.and_false, Bool.and_true, Bool.or_true, Bool.true_or, Bool.false_or, Bool.or_false])
end Go.Aw

