import Derived.Test.YtdgknlkijgomoaaDoorF04Y
import Derived.Test.YtdgknlkijgomoaaDoorAwD
namespace Go.Aw
open Go
open Go.Proofs.Tryd (prog)
set_option linter.all false
set_option maxHeartbeats 4000000

/-! All records. -/
theorem frzv_i {T : Tab} {S : List Nat} {k : IntKind} {n : Int} : frzv T S (.i k n) = .i k n := rfl
def roR (b : List UInt8) (k : Option Nat) : AV := match nxE b with
  | some (_, e) => .tup [.fz 0 [] (some 0), .i .i64 e]
  | none => if szOf b + 7 < b.length then .tup [.fz 0 [] (some 0), .i .i64 3] else .tup [bts (nxRec b) k, .i .i64 0]
theorem pc_rOpen (b : List UInt8) (cap : Option Nat) (hl : b.length ≤ 1000000000) : PCalls prog f_sautoirref04_Open [bts b cap] (roR b (Option.map (fun x => x - (0 + 3)) cap)) := by
  refine pcalls_of mixed t_sautoirref04_Open (by simp) fun T => ?_
  have h := pc_rNext b cap 0 (Nat.zero_le _) hl
  rw [List.drop_zero] at h
  unfold rnR at h
  unfold s_sautoirref04_Open roR
  rcases he : nxE b with _ | ⟨w, e⟩
  · rw [he] at h
    simp only at h
    simp -implicitDefEqProofs -dsimp only [go_sem, Nat.reduceEqDiff, Nat.reduceAdd, Nat.reduceMul, Nat.reduceSub, Nat.reduceLT, Nat.reduceLeDiff, Nat.reduceBEq, reduceIte, reduceCtorEq, Int.reduceLT, Int.reduceLE, Int.reduceEq, Int.reduceNeg, Int.reduceToNat, Int.reduceAdd, Int.reduceSub, ↓g_call _ _ c_sautoirref04_Next]
    refine CallK.pure h (aft_nil ?_)
    by_cases h7 : szOf b + 7 < b.length
    · have d : decide (((szOf b + 7 : Nat) : Int) < b.length) = true := decide_eq_true (by omega)
      simp -implicitDefEqProofs -dsimp only [go_sem, Nat.reduceEqDiff, Nat.reduceAdd, Nat.reduceMul, Nat.reduceSub, Nat.reduceLT, Nat.reduceLeDiff, Nat.reduceBEq, reduceIte, reduceCtorEq, Int.reduceLT, Int.reduceLE, Int.reduceEq, Int.reduceNeg, Int.reduceToNat, Int.reduceAdd, Int.reduceSub, d, decide_true, Bool.not_true]
      rw [if_pos h7]
      exact finL_pure rfl
    · have d : decide (((szOf b + 7 : Nat) : Int) < b.length) = false := decide_eq_false (by omega)
      simp -implicitDefEqProofs -dsimp only [go_sem, Nat.reduceEqDiff, Nat.reduceAdd, Nat.reduceMul, Nat.reduceSub, Nat.reduceLT, Nat.reduceLeDiff, Nat.reduceBEq, reduceIte, reduceCtorEq, Int.reduceLT, Int.reduceLE, Int.reduceEq, Int.reduceNeg, Int.reduceToNat, Int.reduceAdd, Int.reduceSub, d, decide_true, Bool.not_true]
      rw [if_neg h7]
      exact finL_pure rfl
  · rw [he] at h
    simp only at h
    have d : decide (e = 0) = false := decide_eq_false (nx_code he)
    simp -implicitDefEqProofs -dsimp only [go_sem, Nat.reduceEqDiff, Nat.reduceAdd, Nat.reduceMul, Nat.reduceSub, Nat.reduceLT, Nat.reduceLeDiff, Nat.reduceBEq, reduceIte, reduceCtorEq, Int.reduceLT, Int.reduceLE, Int.reduceEq, Int.reduceNeg, Int.reduceToNat, Int.reduceAdd, Int.reduceSub, ↓g_call _ _ c_sautoirref04_Next]
    refine CallK.pure h (aft_nil ?_)
    simp -implicitDefEqProofs -dsimp only [go_sem, Nat.reduceEqDiff, Nat.reduceAdd, Nat.reduceMul, Nat.reduceSub, Nat.reduceLT, Nat.reduceLeDiff, Nat.reduceBEq, reduceIte, reduceCtorEq, Int.reduceLT, Int.reduceLE, Int.reduceEq, Int.reduceNeg, Int.reduceToNat, Int.reduceAdd, Int.reduceSub, d, Bool.not_false]
    exact finL_pure rfl

/-- The records, where they end, and why. -/
def recs : Nat → Nat → List UInt8 → List (List UInt8) × Nat × Int
  | 0, a, _ => ([], a, 0)
  | f + 1, a, c => match nxE c with
    | some (_, e) => ([], a, e)
    | none => let r := recs f (a + (szOf c + 7)) (c.drop (szOf c + 7))
      (nxRec c :: r.1, r.2.1, r.2.2)
def btL (l : List (List UInt8)) : List AV := l.map fun r => bts r none
theorem btL_len (l : List (List UInt8)) : (btL l).length = l.length := by simp [btL]
theorem btL_append (l m : List (List UInt8)) : btL l ++ btL m = btL (l ++ m) := by simp [btL]
def allA (r : List (List UInt8) × Nat × Int) : AV := .tup [.fz r.1.length (btL r.1) none, .i .i64 r.2.1, .i .i64 r.2.2]
theorem nx_some {c : List UInt8} (h : nxE c = none) : szOf c + 7 ≤ c.length := by
  unfold nxE at h
  split at h; · cases h
  split at h; · cases h
  split at h; · cases h
  split at h; · cases h
  split at h; · cases h
  omega

theorem lp_All {R : RPost} (hR : ExtR R) {T : Tab} {b : List UInt8} {cap : Option Nat} (hl : b.length ≤ 1000000000) : ∀ (f a : Nat) (c : List UInt8), b.drop a = c → a ≤ b.length → c.length < f → ∀ (rs : List (List UInt8)) (v : AV) (T1 : Tab), rs.length + c.length ≤ b.length → Own T 1 v rs.length (btL rs) T1 →
    (∀ v T1, Own T 1 v (rs ++ (recs f a c).1).length (btL (rs ++ (recs f a c).1)) T1 → R .ret [(2, v), (3, .i .i64 (recs f a c).2.1), (4, .i .i64 (recs f a c).2.2)] [] T1) →
    AW prog frame_All_l0 R [(0, bts b cap), (5, v), (6, .i .i64 a)] [] T1 := by
  intro f
  induction f with
  | zero => intro a c _ _ h; omega
  | succ f ih =>
    intro a c hc ha hf rs v T1 hn ho h2
    have hcl : c.length = b.length - a := by rw [← hc, List.length_drop]
    obtain ⟨p1, p2, p3, p4, p5, p6⟩ := ho.form
    have ec : ((b.drop a).take (b.length - a)) = c := by rw [hc, List.take_of_length_le (by omega)]
    have cN := pc_next c (Option.map (fun x => x - a) cap) (by omega)
    simp only [bts, hcl] at cN
    have hale : a ≤ b.length ∧ b.length ≤ b.length := ⟨ha, Nat.le_refl _⟩
    refine AW_loopD (l := frame_All_l0) rfl hR ?_
    unfold frame_All_l0b
    simp -implicitDefEqProofs -dsimp only [go_sem, Nat.reduceEqDiff, Nat.reduceAdd, Nat.reduceMul, Nat.reduceSub, Nat.reduceLT, Nat.reduceLeDiff, Nat.reduceBEq, reduceIte, reduceCtorEq, Int.reduceLT, Int.reduceLE, Int.reduceEq, Int.reduceNeg, Int.reduceToNat, Int.reduceAdd, Int.reduceSub, p1, p2, p3, p4, p5, p6, bts, hale, ha, Nat.le_refl, Int.natCast_nonneg, Int.toNat_natCast, Nat.mul_one, byteCells_take, byteCells_drop, ec, ↓g_call _ _ c_frame_next]
    refine CallK.pure cN (aft_nil ?_)
    unfold recs at h2
    unfold nxR
    rcases he : nxE c with _ | ⟨w, e⟩
    · rw [he] at h2
      simp only at h2
      have hs := nx_some he
      have wa : IntKind.i64.wrap ((a : Int) + ((szOf c + 7 : Nat) : Int)) = ((a + (szOf c + 7) : Nat) : Int) := (wrap_i64 (by unfold I64; omega)).trans (by omega)
      simp -implicitDefEqProofs -dsimp only [go_sem, Nat.reduceEqDiff, Nat.reduceAdd, Nat.reduceMul, Nat.reduceSub, Nat.reduceLT, Nat.reduceLeDiff, Nat.reduceBEq, reduceIte, reduceCtorEq, Int.reduceLT, Int.reduceLE, Int.reduceEq, Int.reduceNeg, Int.reduceToNat, Int.reduceAdd, Int.reduceSub, eqAv, Bool.not_true, p1, p2, p3, p4, p5, p6]
      refine ho.app (m := 1) (news := [bts (nxRec c) none]) (by simp [slCells]) rfl (by omega) (by omega) fun v' T2 ho2 => aft_nil ?_
      obtain ⟨p1, p2, p3, p4, p5, p6⟩ := ho2.form
      simp -implicitDefEqProofs -dsimp only [go_sem, Nat.reduceEqDiff, Nat.reduceAdd, Nat.reduceMul, Nat.reduceSub, Nat.reduceLT, Nat.reduceLeDiff, Nat.reduceBEq, reduceIte, reduceCtorEq, Int.reduceLT, Int.reduceLE, Int.reduceEq, Int.reduceNeg, Int.reduceToNat, Int.reduceAdd, Int.reduceSub, p1, p2, p3, p4, p5, p6, wa]
      refine ih (a + (szOf c + 7)) (c.drop (szOf c + 7)) (by rw [← hc, List.drop_drop]) (by omega) (by rw [List.length_drop]; omega) (rs ++ [nxRec c]) v' T2 (by rw [List.length_append, List.length_drop]; simp; omega) ?_ (fun v T1 h => ?_)
      · rw [List.length_append, ← btL_append]; exact ho2
      · rw [List.append_assoc] at h
        exact h2 v T1 h
    · rw [he] at h2
      simp only [List.append_nil] at h2
      have hc := pc_Code (some (erOf (w, e)))
      simp only [erAv, erCode, erOf, Er.av, fault] at hc
      simp -implicitDefEqProofs -dsimp only [go_sem, Nat.reduceEqDiff, Nat.reduceAdd, Nat.reduceMul, Nat.reduceSub, Nat.reduceLT, Nat.reduceLeDiff, Nat.reduceBEq, reduceIte, reduceCtorEq, Int.reduceLT, Int.reduceLE, Int.reduceEq, Int.reduceNeg, Int.reduceToNat, Int.reduceAdd, Int.reduceSub, eqAv, fault, Bool.not_false, p1, p2, p3, p4, p5, p6, ↓g_call _ _ c_fault_Code]
      refine CallK.pure hc (aft_nil ?_)
      simp -implicitDefEqProofs -dsimp only [go_sem, Nat.reduceEqDiff, Nat.reduceAdd, Nat.reduceMul, Nat.reduceSub, Nat.reduceLT, Nat.reduceLeDiff, Nat.reduceBEq, reduceIte, reduceCtorEq, Int.reduceLT, Int.reduceLE, Int.reduceEq, Int.reduceNeg, Int.reduceToNat, Int.reduceAdd, Int.reduceSub, p1, p2, p3, p4, p5, p6]
      exact h2 v T1 ho
theorem pc_All (b : List UInt8) (cap : Option Nat) (hl : b.length ≤ 1000000000) : PCalls prog f_frame_All [bts b cap] (allA (recs (b.length + 1) 0 b)) := by
  refine pcalls_of mixed t_frame_All (by simp) fun T => ?_
  unfold s_frame_All
  simp -implicitDefEqProofs -dsimp only [go_sem, Nat.reduceEqDiff, Nat.reduceAdd, Nat.reduceMul, Nat.reduceSub, Nat.reduceLT, Nat.reduceLeDiff, Nat.reduceBEq, reduceIte, reduceCtorEq, Int.reduceLT, Int.reduceLE, Int.reduceEq, Int.reduceNeg, Int.reduceToNat, Int.reduceAdd, Int.reduceSub]
  refine lp_All (T := T) (b := b) (cap := cap) (by repeat' (first | exact finX_ext _ _ | assumption | apply blkR_ext | apply thenR_ext | apply AW_ext)) hl (b.length + 1) 0 b rfl (Nat.zero_le _) (Nat.lt_succ_self _) [] _ T (by simp) (Own.nil T 1) (fun v T1 ho => ?_)
  obtain ⟨p1, p2, p3, p4, p5, p6⟩ := ho.form
  rw [List.nil_append] at ho
  simp -implicitDefEqProofs -dsimp only [go_sem, Nat.reduceEqDiff, Nat.reduceAdd, Nat.reduceMul, Nat.reduceSub, Nat.reduceLT, Nat.reduceLeDiff, Nat.reduceBEq, reduceIte, reduceCtorEq, Int.reduceLT, Int.reduceLE, Int.reduceEq, Int.reduceNeg, Int.reduceToNat, Int.reduceAdd, Int.reduceSub, p1, p2, p3, p4, p5, p6]
  refine finL_owns (Owns.one ho) fun S hS => ?_
  obtain ⟨c, e⟩ := hS _ (List.mem_cons_self ..)
  simp only at e
  simp only [frzt, List.map_cons, List.map_nil, ho.frzv, e, frzv_i]
  exact Wk.tup ⟨.fz, .refl _, .refl _, trivial⟩

/-- Records whose room is not told. -/
def btK (l : List (List UInt8 × Option Nat)) : List AV := l.map fun r => bts r.1 r.2
theorem btK_append (l m : List (List UInt8 × Option Nat)) : btK l ++ btK m = btK (l ++ m) := by simp [btK]
theorem btK_wk : ∀ l : List (List UInt8 × Option Nat), Wks (btK l) (btL (l.map (·.1)))
  | [] => trivial
  | p :: l => ⟨.fz, btK_wk l⟩
theorem lp_rAll {R : RPost} (hR : ExtR R) {T : Tab} {b : List UInt8} {cap : Option Nat} (hl : b.length ≤ 1000000000) : ∀ (f a : Nat) (c : List UInt8), b.drop a = c → a ≤ b.length → c.length < f → ∀ (rs : List (List UInt8 × Option Nat)) (v : AV) (T1 : Tab), rs.length + c.length ≤ b.length → Own T 1 v rs.length (btK rs) T1 →
    (∀ v T1 qs, qs.map (·.1) = rs.map (·.1) ++ (recs f a c).1 → Own T 1 v qs.length (btK qs) T1 → R .ret [(2, v), (3, .i .i64 (recs f a c).2.1), (4, .i .i64 (recs f a c).2.2)] [] T1) →
    AW prog sautoirref04_All_l0 R [(0, bts b cap), (5, v), (6, .i .i64 a)] [] T1 := by
  intro f
  induction f with
  | zero => intro a c _ _ h; omega
  | succ f ih =>
    intro a c hc ha hf rs v T1 hn ho h2
    have hcl : c.length = b.length - a := by rw [← hc, List.length_drop]
    obtain ⟨p1, p2, p3, p4, p5, p6⟩ := ho.form
    have cN := pc_rNext b cap a ha hl
    rw [hc] at cN
    refine AW_loopD (l := sautoirref04_All_l0) rfl hR ?_
    unfold sautoirref04_All_l0b
    simp -implicitDefEqProofs -dsimp only [go_sem, Nat.reduceEqDiff, Nat.reduceAdd, Nat.reduceMul, Nat.reduceSub, Nat.reduceLT, Nat.reduceLeDiff, Nat.reduceBEq, reduceIte, reduceCtorEq, Int.reduceLT, Int.reduceLE, Int.reduceEq, Int.reduceNeg, Int.reduceToNat, Int.reduceAdd, Int.reduceSub, p1, p2, p3, p4, p5, p6, ↓g_call _ _ c_sautoirref04_Next]
    refine CallK.pure cN (aft_nil ?_)
    unfold recs at h2
    unfold rnR
    rcases he : nxE c with _ | ⟨w, e⟩
    · rw [he] at h2
      simp only at h2
      have hs := nx_some he
      have wa : IntKind.i64.wrap ((a : Int) + ((szOf c + 7 : Nat) : Int)) = ((a + (szOf c + 7) : Nat) : Int) := (wrap_i64 (by unfold I64; omega)).trans (by omega)
      simp -implicitDefEqProofs -dsimp only [go_sem, Nat.reduceEqDiff, Nat.reduceAdd, Nat.reduceMul, Nat.reduceSub, Nat.reduceLT, Nat.reduceLeDiff, Nat.reduceBEq, reduceIte, reduceCtorEq, Int.reduceLT, Int.reduceLE, Int.reduceEq, Int.reduceNeg, Int.reduceToNat, Int.reduceAdd, Int.reduceSub, decide_true, Bool.not_true, p1, p2, p3, p4, p5, p6]
      refine ho.app (m := 1) (news := [bts (nxRec c) (Option.map (fun x => x - (a + 3)) cap)]) (by simp [slCells]) rfl (by omega) (by omega) fun v' T2 ho2 => aft_nil ?_
      obtain ⟨p1, p2, p3, p4, p5, p6⟩ := ho2.form
      simp -implicitDefEqProofs -dsimp only [go_sem, Nat.reduceEqDiff, Nat.reduceAdd, Nat.reduceMul, Nat.reduceSub, Nat.reduceLT, Nat.reduceLeDiff, Nat.reduceBEq, reduceIte, reduceCtorEq, Int.reduceLT, Int.reduceLE, Int.reduceEq, Int.reduceNeg, Int.reduceToNat, Int.reduceAdd, Int.reduceSub, p1, p2, p3, p4, p5, p6, wa]
      refine ih (a + (szOf c + 7)) (c.drop (szOf c + 7)) (by rw [← hc, List.drop_drop]) (by omega) (by rw [List.length_drop]; omega) (rs ++ [(nxRec c, Option.map (fun x => x - (a + 3)) cap)]) v' T2 (by rw [List.length_append, List.length_drop]; simp; omega) ?_ (fun v T1 qs hq h => ?_)
      · rw [List.length_append, ← btK_append]; exact ho2
      · refine h2 v T1 qs ?_ h
        rw [hq, List.map_append, List.append_assoc]; rfl
    · rw [he] at h2
      simp only [List.append_nil] at h2
      have d : decide (e = 0) = false := decide_eq_false (nx_code he)
      simp -implicitDefEqProofs -dsimp only [go_sem, Nat.reduceEqDiff, Nat.reduceAdd, Nat.reduceMul, Nat.reduceSub, Nat.reduceLT, Nat.reduceLeDiff, Nat.reduceBEq, reduceIte, reduceCtorEq, Int.reduceLT, Int.reduceLE, Int.reduceEq, Int.reduceNeg, Int.reduceToNat, Int.reduceAdd, Int.reduceSub, d, Bool.not_false, p1, p2, p3, p4, p5, p6]
      exact h2 v T1 rs rfl ho
theorem pc_rAll (b : List UInt8) (cap : Option Nat) (hl : b.length ≤ 1000000000) : PCalls prog f_sautoirref04_All [bts b cap] (allA (recs (b.length + 1) 0 b)) := by
  refine pcalls_of mixed t_sautoirref04_All (by simp) fun T => ?_
  unfold s_sautoirref04_All
  simp -implicitDefEqProofs -dsimp only [go_sem, Nat.reduceEqDiff, Nat.reduceAdd, Nat.reduceMul, Nat.reduceSub, Nat.reduceLT, Nat.reduceLeDiff, Nat.reduceBEq, reduceIte, reduceCtorEq, Int.reduceLT, Int.reduceLE, Int.reduceEq, Int.reduceNeg, Int.reduceToNat, Int.reduceAdd, Int.reduceSub]
  refine lp_rAll (T := T) (b := b) (cap := cap) (by repeat' (first | exact finX_ext _ _ | assumption | apply blkR_ext | apply thenR_ext | apply AW_ext)) hl (b.length + 1) 0 b rfl (Nat.zero_le _) (Nat.lt_succ_self _) [] _ T (by simp) (Own.nil T 1) (fun v T1 qs hq ho => ?_)
  obtain ⟨p1, p2, p3, p4, p5, p6⟩ := ho.form
  rw [List.map_nil, List.nil_append] at hq
  simp -implicitDefEqProofs -dsimp only [go_sem, Nat.reduceEqDiff, Nat.reduceAdd, Nat.reduceMul, Nat.reduceSub, Nat.reduceLT, Nat.reduceLeDiff, Nat.reduceBEq, reduceIte, reduceCtorEq, Int.reduceLT, Int.reduceLE, Int.reduceEq, Int.reduceNeg, Int.reduceToNat, Int.reduceAdd, Int.reduceSub, p1, p2, p3, p4, p5, p6]
  refine finL_owns (Owns.one ho) fun S hS => ?_
  obtain ⟨c, e⟩ := hS _ (List.mem_cons_self ..)
  simp only at e
  simp only [frzt, List.map_cons, List.map_nil, ho.frzv, e, frzv_i]
  have hw := btK_wk qs
  rw [hq] at hw
  have hql : qs.length = (recs (b.length + 1) 0 b).1.length := by rw [← hq, List.length_map]
  rw [hql]
  exact Wk.tup ⟨.fzs hw, .refl _, .refl _, trivial⟩

/-! Are two rows of records the same? -/
theorem btL_at {l : List (List UInt8)} {k : Nat} {r : List UInt8} (h : l[k]? = some r) : ((btL l).drop k)[0]? = some (bts r none) := by simp [btL, h]
theorem lp_Same {R : RPost} (hR : ExtR R) {T : Tab} {l m : List (List UInt8)} {c1 c2 : Option Nat} (hl : Len l.length) (he : l.length = m.length) : ∀ (ys : List (List UInt8)) (k : Nat), m.drop k = ys → k ≤ m.length →
    (l.drop k ≠ ys → R .ret [(4, .b false)] [] T) →
    (l.drop k = ys → R (.exit 0) [(0, .fz l.length (btL l) c1), (1, .fz m.length (btL m) c2), (12, .i .i64 m.length), (13, .i .i64 m.length), (14, .b false)] [] T) →
    AW prog sautoirlaw04_Same_l0 R [(0, .fz l.length (btL l) c1), (1, .fz m.length (btL m) c2), (12, .i .i64 m.length), (13, .i .i64 k)] [] T := by
  unfold Len at hl
  intro ys
  induction ys with
  | nil =>
    intro k hk hle h1 h2
    have hk' := drop_nil hk hle
    refine AW_loop hR ?_
    unfold sautoirlaw04_Same_l0b
    rw [hk'] at h2
    have h2 := h2 (by rw [List.drop_of_length_le (by omega)])
    simp -implicitDefEqProofs -dsimp only [go_sem, Nat.reduceEqDiff, Nat.reduceAdd, Nat.reduceMul, Nat.reduceSub, Nat.reduceLT, Nat.reduceLeDiff, Nat.reduceBEq, reduceIte, reduceCtorEq, Int.reduceLT, Int.reduceLE, Int.reduceEq, Int.reduceNeg, Int.reduceToNat, Int.reduceAdd, Int.reduceSub, hk', Int.lt_irrefl]
    exact h2
  | cons y ys ih =>
    intro k hk hle h1 h2
    obtain ⟨hlt, hy, hk'⟩ := drop_lt hk
    have hws : IntKind.i64.wrap ((k : Int) + 1) = ((k + 1 : Nat) : Int) := wrap_succ (by omega)
    have hc := btL_at hy
    obtain ⟨z, hz⟩ : ∃ z, l[k]? = some z := ⟨_, List.getElem?_eq_getElem (show k < l.length by omega)⟩
    have hcz := btL_at hz
    have hmd : l.drop k = z :: l.drop (k + 1) := by
      have hkm : k < l.length := by omega
      rw [List.drop_eq_getElem_cons hkm]; congr 1; exact (List.getElem?_eq_some_iff.1 hz).2
    have hlt2 : k < l.length := by omega
    rw [hmd] at h1 h2
    refine AW_loopD (l := sautoirlaw04_Same_l0) rfl hR ?_
    unfold sautoirlaw04_Same_l0b
    by_cases e : z = y
    · subst e
      simp -implicitDefEqProofs -dsimp only [go_sem, Nat.reduceEqDiff, Nat.reduceAdd, Nat.reduceMul, Nat.reduceSub, Nat.reduceLT, Nat.reduceLeDiff, Nat.reduceBEq, reduceIte, reduceCtorEq, Int.reduceLT, Int.reduceLE, Int.reduceEq, Int.reduceNeg, Int.reduceToNat, Int.reduceAdd, Int.reduceSub, Int.ofNat_lt, hlt, hlt2, bts, Int.natCast_nonneg, Int.toNat_natCast, Nat.mul_one, hc, hcz, byteCells_length, bytesAv_cells, decide_true, Bool.not_true, eq_self, hws]
      exact ih (k + 1) hk' hlt (fun h => h1 (fun e => h (by injection e))) (fun h => h2 (by rw [h]))
    · have d : decide (z = y) = false := decide_eq_false e
      simp -implicitDefEqProofs -dsimp only [go_sem, Nat.reduceEqDiff, Nat.reduceAdd, Nat.reduceMul, Nat.reduceSub, Nat.reduceLT, Nat.reduceLeDiff, Nat.reduceBEq, reduceIte, reduceCtorEq, Int.reduceLT, Int.reduceLE, Int.reduceEq, Int.reduceNeg, Int.reduceToNat, Int.reduceAdd, Int.reduceSub, Int.ofNat_lt, hlt, hlt2, bts, Int.natCast_nonneg, Int.toNat_natCast, Nat.mul_one, hc, hcz, byteCells_length, bytesAv_cells, d, Bool.not_false]
      exact h1 (fun h => e (by injection h))
theorem pc_Same (l m : List (List UInt8)) (c1 c2 : Option Nat) (hl : Len l.length) (hm : Len m.length) : PCalls prog f_sautoirlaw04_Same [.fz l.length (btL l) c1, .fz m.length (btL m) c2] (.b (decide (l = m))) := by
  refine pcalls_of mixed t_sautoirlaw04_Same (by simp) fun T => ?_
  unfold s_sautoirlaw04_Same
  by_cases e : l.length = m.length
  · have d : decide ((l.length : Int) = m.length) = true := decide_eq_true (by omega)
    simp -implicitDefEqProofs -dsimp only [go_sem, Nat.reduceEqDiff, Nat.reduceAdd, Nat.reduceMul, Nat.reduceSub, Nat.reduceLT, Nat.reduceLeDiff, Nat.reduceBEq, reduceIte, reduceCtorEq, Int.reduceLT, Int.reduceLE, Int.reduceEq, Int.reduceNeg, Int.reduceToNat, Int.reduceAdd, Int.reduceSub, d, Bool.not_true]
    refine lp_Same (l := l) (m := m) (c1 := c1) (c2 := c2) (by repeat' (first | exact finX_ext _ _ | assumption | apply blkR_ext | apply thenR_ext | apply AW_ext)) hl e m 0 rfl (by omega) (fun h => ?_) (fun h => ?_)
    · simp -implicitDefEqProofs -dsimp only [go_sem, Nat.reduceEqDiff, Nat.reduceAdd, Nat.reduceMul, Nat.reduceSub, Nat.reduceLT, Nat.reduceLeDiff, Nat.reduceBEq, reduceIte, reduceCtorEq, Int.reduceLT, Int.reduceLE, Int.reduceEq, Int.reduceNeg, Int.reduceToNat, Int.reduceAdd, Int.reduceSub]
      rw [decide_eq_false (by simpa using h)]
      exact finL_pure rfl
    · simp -implicitDefEqProofs -dsimp only [go_sem, Nat.reduceEqDiff, Nat.reduceAdd, Nat.reduceMul, Nat.reduceSub, Nat.reduceLT, Nat.reduceLeDiff, Nat.reduceBEq, reduceIte, reduceCtorEq, Int.reduceLT, Int.reduceLE, Int.reduceEq, Int.reduceNeg, Int.reduceToNat, Int.reduceAdd, Int.reduceSub]
      rw [decide_eq_true (by simpa using h)]
      exact finL_pure rfl
  · have d : decide ((l.length : Int) = m.length) = false := decide_eq_false (by omega)
    simp -implicitDefEqProofs -dsimp only [go_sem, Nat.reduceEqDiff, Nat.reduceAdd, Nat.reduceMul, Nat.reduceSub, Nat.reduceLT, Nat.reduceLeDiff, Nat.reduceBEq, reduceIte, reduceCtorEq, Int.reduceLT, Int.reduceLE, Int.reduceEq, Int.reduceNeg, Int.reduceToNat, Int.reduceAdd, Int.reduceSub, d, Bool.not_false]
    rw [decide_eq_false (fun h => e (by rw [h]))]
    exact finL_pure rfl
end Go.Aw
