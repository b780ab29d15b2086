import Derived.Test.YtdgknlkijgomoaaDoorF04LA
namespace Go.Aw
open Go
open Go.Proofs.Tryd (prog)
set_option linter.all false
set_option maxHeartbeats 4000000

/-! Frames, cut off. -/
def frms (rs : List (List UInt8)) : List UInt8 := rs.flatMap frm
def ends : Nat → List (List UInt8) → List Int
  | _, [] => []
  | s, r :: rs => ((s + r.length + 7 : Nat) : Int) :: ends (s + r.length + 7) rs
theorem ends_len : ∀ (s : Nat) (rs : List (List UInt8)), (ends s rs).length = rs.length
  | _, [] => rfl
  | s, r :: rs => by simp [ends, ends_len]
theorem frms_append (rs qs : List (List UInt8)) : frms (rs ++ qs) = frms rs ++ frms qs := by simp [frms]
theorem frms_cons (r : List UInt8) (qs : List (List UInt8)) : frms (r :: qs) = frm r ++ frms qs := by simp [frms]
theorem frms_one (r : List UInt8) : frms [r] = frm r := by simp [frms]
theorem ends_append : ∀ (s : Nat) (rs : List (List UInt8)) (r : List UInt8), ends s (rs ++ [r]) = ends s rs ++ [((s + (frms (rs ++ [r])).length : Nat) : Int)]
  | s, [], r => by simp only [List.nil_append, ends, frms_one, frm_len]; congr 2
  | s, q :: rs, r => by
    have := ends_append (s + q.length + 7) rs r
    simp only [List.cons_append, ends, this, frms_cons, List.length_append, frm_len]
    congr 4
    omega
/-- How many end at a place or ahead of it, and where the last of them does. -/
def cnt (cut : Nat) : Nat → List (List UInt8) → Nat × Nat → Nat × Nat
  | _, [], p => p
  | s, r :: rs, p => cnt cut (s + r.length + 7) rs (if s + r.length + 7 ≤ cut then (p.1 + 1, s + r.length + 7) else p)
theorem cnt_past {cut : Nat} : ∀ (rs : List (List UInt8)) (s : Nat) (p : Nat × Nat), cut < s → cnt cut s rs p = p
  | [], _, _, _ => rfl
  | r :: rs, s, p, h => by
    unfold cnt
    rw [if_neg (by omega)]
    exact cnt_past rs _ p (by omega)
def okR (r : List UInt8) : Prop := 1 ≤ r.length ∧ r.length ≤ 200
theorem nx_cut {r : List UInt8} (h : okR r) {j : Nat} (h0 : 0 < j) (hj : j < r.length + 7) : ∃ w, nxE ((frm r).take j) = some (w, 4) := by
  have hl := frm_len r
  have hlen : ((frm r).take j).length = j := by rw [List.length_take]; omega
  have hb : ∀ k, k < j → bAt ((frm r).take j) k = bAt (frm r) k := fun k hk => by unfold bAt; rw [List.getElem?_take_of_lt hk]
  have hb0 : bAt (frm r) 0 = 197 := (bAt_frm r []).1
  unfold nxE
  rw [if_neg (by intro e; rw [e] at hlen; simp at hlen; omega), if_neg (by rw [hb 0 h0, hb0]; simp)]
  by_cases h3 : j < 3
  · rw [if_pos (by omega)]; exact ⟨_, rfl⟩
  · have hs : szOf ((frm r).take j) = r.length := by
      unfold szOf
      rw [hb 1 (by omega), hb 2 (by omega)]
      have := sz_frm (p := r) (by have := h.2; omega) []
      rw [List.append_nil] at this
      exact this
    have h1 := h.1
    rw [if_neg (by omega), hs, if_neg (by omega), if_pos (by omega)]
    exact ⟨_, rfl⟩
theorem torn {cut : Nat} : ∀ (rs : List (List UInt8)) (s f n : Nat), (∀ r ∈ rs, okR r) → s ≤ cut → cut ≤ s + (frms rs).length → cut < f + s → 
    recs f s ((frms rs).take (cut - s)) = (rs.take ((cnt cut s rs (n, s)).1 - n), (cnt cut s rs (n, s)).2, if (cnt cut s rs (n, s)).2 = cut then 6 else 4) ∧ n ≤ (cnt cut s rs (n, s)).1 ∧ (cnt cut s rs (n, s)).1 ≤ n + rs.length
  | [], s, f, n, _, h1, h2, h3 => by
    simp only [frms, List.flatMap_nil, List.length_nil, List.take_nil] at h2 ⊢
    obtain ⟨f, rfl⟩ : ∃ g, f = g + 1 := ⟨f - 1, by omega⟩
    have e : nxE ([] : List UInt8) = some ([101, 110, 100], 6) := rfl
    unfold recs cnt
    rw [e, if_pos (show s = cut by omega)]
    exact ⟨rfl, Nat.le_refl _, Nat.le_add_right _ _⟩
  | r :: rs, s, f, n, hr, h1, h2, h3 => by
    obtain ⟨f, rfl⟩ : ∃ g, f = g + 1 := ⟨f - 1, by omega⟩
    have hok := hr r (List.mem_cons_self ..)
    have hfl := frm_len r
    rw [frms_cons, List.length_append] at h2
    rw [frms_cons]
    unfold cnt
    by_cases hc : s + r.length + 7 ≤ cut
    · simp only [if_pos hc]
      have ht : (frm r ++ frms rs).take (cut - s) = frm r ++ (frms rs).take (cut - (s + r.length + 7)) := by
        rw [List.take_append, List.take_of_length_le (by omega), hfl, show cut - s - (r.length + 7) = cut - (s + r.length + 7) by omega]
      rw [ht]
      obtain ⟨x1, x2⟩ := nx_frm (p := r) ⟨hok.1, by have := hok.2; omega⟩ ((frms rs).take (cut - (s + r.length + 7)))
      have x3 := sz_frm (p := r) (by have := hok.2; omega) ((frms rs).take (cut - (s + r.length + 7)))
      obtain ⟨i1, i2, i3⟩ := torn rs (s + r.length + 7) f (n + 1) (fun q hq => hr q (List.mem_cons_of_mem _ hq)) hc (by omega) (by omega)
      unfold recs
      rw [x1]
      simp only
      rw [x2, x3, ← hfl, List.drop_left, hfl, ← Nat.add_assoc, i1]
      refine ⟨?_, by omega, by simp only [List.length_cons]; omega⟩
      simp only
      obtain ⟨d, hd⟩ : ∃ d, (cnt cut (s + r.length + 7) rs (n + 1, s + r.length + 7)).1 = n + 1 + d := ⟨_, (Nat.add_sub_cancel' i2).symm⟩
      rw [hd, show n + 1 + d - n = d + 1 by omega, show n + 1 + d - (n + 1) = d by omega, List.take_succ_cons]
    · simp only [if_neg hc]
      rw [cnt_past _ _ _ (by omega)]
      have ht : (frm r ++ frms rs).take (cut - s) = (frm r).take (cut - s) := by
        rw [List.take_append, show cut - s - (frm r).length = 0 by omega, List.take_zero, List.append_nil]
      rw [ht]
      simp only [Nat.sub_self, List.take_zero]
      by_cases h0 : s = cut
      · have e : nxE ([] : List UInt8) = some ([101, 110, 100], 6) := rfl
        rw [if_pos h0, show cut - s = 0 by omega, List.take_zero]
        unfold recs
        rw [e]
        exact ⟨rfl, Nat.le_refl _, Nat.le_add_right _ _⟩
      · obtain ⟨w, hw⟩ := nx_cut hok (j := cut - s) (by omega) (by omega)
        rw [if_neg h0]
        unfold recs
        rw [hw]
        exact ⟨rfl, Nat.le_refl _, Nat.le_add_right _ _⟩

theorem btK_at {l : List (List UInt8 × Option Nat)} {k : Nat} {r : List UInt8 × Option Nat} (h : l[k]? = some r) : ((btK l).drop k)[0]? = some (bts r.1 r.2) := by simp [btK, h]
def tows (ve vw va : AV) (rs : List (List UInt8)) : List Ow := [⟨1, va, (frms rs).length, byteCells (frms rs)⟩, ⟨1, ve, rs.length, ints (ends 0 rs)⟩, ⟨1, vw, rs.length, btL rs⟩]

theorem lp_tornA {R : RPost} (hR : ExtR R) {T : Tab} {l : List (List UInt8 × Option Nat)} {cap : Option Nat} {a : Nat} (hl : Len l.length) (hlr : ∀ r ∈ l, Len r.1.length) : ∀ (ys : List (List UInt8 × Option Nat)) (k : Nat), l.drop k = ys → k ≤ l.length → k ≤ 8 → ∀ (rs : List (List UInt8)) (va ve vw : AV) (T1 : Tab),
    (∀ r ∈ rs, okR r) → rs.length ≤ k → (frms rs).length ≤ 207 * k → Owns T (tows ve vw va rs) T1 →
    (∀ rs va ve vw T1 tail, (∀ r ∈ rs, okR r) → rs.length ≤ 8 → (frms rs).length ≤ 2000 → Owns T (tows ve vw va rs) T1 → R (.exit 0) ((1, .i .u16 a) :: (5, va) :: (6, ve) :: (7, vw) :: tail) [] T1) →
    AW prog sautoirlaw04_FrameTorn_l0 R [(1, .i .u16 a), (5, va), (6, ve), (7, vw), (21, .fz l.length (btK l) cap), (22, .i .i64 l.length), (23, .i .i64 k)] [] T1 := by
  unfold Len at hl
  intro ys
  induction ys with
  | nil =>
    intro k hk hle h8 rs va ve vw T1 hok hn ht ho h2
    have hk' := drop_nil hk hle
    obtain ⟨a1, a2, a3, a4, a5, a6⟩ := ho.form (List.mem_cons_self ..)
    obtain ⟨b1, b2, b3, b4, b5, b6⟩ := ho.form (List.mem_cons_of_mem _ (List.mem_cons_self ..))
    obtain ⟨c1, c2, c3, c4, c5, c6⟩ := ho.form (List.mem_cons_of_mem _ (List.mem_cons_of_mem _ (List.mem_cons_self ..)))
    refine AW_loop hR ?_
    unfold sautoirlaw04_FrameTorn_l0b
    simp -implicitDefEqProofs -dsimp only [go_sem, Nat.reduceEqDiff, Nat.reduceAdd, Nat.reduceMul, Nat.reduceSub, Nat.reduceLT, Nat.reduceLeDiff, Nat.reduceBEq, reduceIte, reduceCtorEq, Int.reduceLT, Int.reduceLE, Int.reduceEq, Int.reduceNeg, Int.reduceToNat, Int.reduceAdd, Int.reduceSub, hk', Int.lt_irrefl, a1, a2, a3, a4, a5, a6, b1, b2, b3, b4, b5, b6, c1, c2, c3, c4, c5, c6]
    exact h2 rs va ve vw T1 _ hok (by omega) (by omega) ho
  | cons y ys ih =>
    intro k hk hle h8 rs va ve vw T1 hok hn ht ho h2
    obtain ⟨hlt, hy, hk'⟩ := drop_lt hk
    have hws : IntKind.i64.wrap ((k : Int) + 1) = ((k + 1 : Nat) : Int) := wrap_succ (by omega)
    have hc := btK_at hy
    obtain ⟨a1, a2, a3, a4, a5, a6⟩ := ho.form (List.mem_cons_self ..)
    obtain ⟨b1, b2, b3, b4, b5, b6⟩ := ho.form (List.mem_cons_of_mem _ (List.mem_cons_self ..))
    obtain ⟨c1, c2, c3, c4, c5, c6⟩ := ho.form (List.mem_cons_of_mem _ (List.mem_cons_of_mem _ (List.mem_cons_self ..)))
    have hy1 := hlr y (List.mem_of_getElem? hy)
    refine AW_loopD (l := sautoirlaw04_FrameTorn_l0) rfl hR ?_
    unfold sautoirlaw04_FrameTorn_l0b
    by_cases h88 : k = 8
    · have d8 : decide ((8 : Int) ≤ k) = true := decide_eq_true (by omega)
      simp -implicitDefEqProofs -dsimp only [go_sem, Nat.reduceEqDiff, Nat.reduceAdd, Nat.reduceMul, Nat.reduceSub, Nat.reduceLT, Nat.reduceLeDiff, Nat.reduceBEq, reduceIte, reduceCtorEq, Int.reduceLT, Int.reduceLE, Int.reduceEq, Int.reduceNeg, Int.reduceToNat, Int.reduceAdd, Int.reduceSub, Int.ofNat_lt, hlt, Int.natCast_nonneg, Int.toNat_natCast, Nat.mul_one, hc, d8, a1, a2, a3, a4, a5, a6, b1, b2, b3, b4, b5, b6, c1, c2, c3, c4, c5, c6]
      exact h2 rs va ve vw T1 _ hok (by omega) (by omega) ho
    have d8 : decide ((8 : Int) ≤ k) = false := decide_eq_false (by omega)
    have hf := few_len y.1
    have cF := pc_few y.1 y.2 hy1
    have cP := pc_Put (fewL y.1) none (by omega)
    generalize fewL y.1 = q at hf cF cP
    simp -implicitDefEqProofs -dsimp only [go_sem, Nat.reduceEqDiff, Nat.reduceAdd, Nat.reduceMul, Nat.reduceSub, Nat.reduceLT, Nat.reduceLeDiff, Nat.reduceBEq, reduceIte, reduceCtorEq, Int.reduceLT, Int.reduceLE, Int.reduceEq, Int.reduceNeg, Int.reduceToNat, Int.reduceAdd, Int.reduceSub, Int.ofNat_lt, hlt, Int.natCast_nonneg, Int.toNat_natCast, Nat.mul_one, hc, d8, a1, a2, a3, a4, a5, a6, b1, b2, b3, b4, b5, b6, c1, c2, c3, c4, c5, c6, ↓g_call _ _ c_sautoirlaw04_few]
    refine CallK.pure cF (aft_nil ?_)
    simp -implicitDefEqProofs -dsimp only [go_sem, Nat.reduceEqDiff, Nat.reduceAdd, Nat.reduceMul, Nat.reduceSub, Nat.reduceLT, Nat.reduceLeDiff, Nat.reduceBEq, reduceIte, reduceCtorEq, Int.reduceLT, Int.reduceLE, Int.reduceEq, Int.reduceNeg, Int.reduceToNat, Int.reduceAdd, Int.reduceSub, a1, a2, a3, a4, a5, a6, b1, b2, b3, b4, b5, b6, c1, c2, c3, c4, c5, c6, ↓g_call _ _ c_frame_Put]
    by_cases h0 : q.length = 0
    · rw [put_bad h0] at cP
      refine CallK.pure cP (aft_nil ?_)
      simp -implicitDefEqProofs -dsimp only [go_sem, Nat.reduceEqDiff, Nat.reduceAdd, Nat.reduceMul, Nat.reduceSub, Nat.reduceLT, Nat.reduceLeDiff, Nat.reduceBEq, reduceIte, reduceCtorEq, Int.reduceLT, Int.reduceLE, Int.reduceEq, Int.reduceNeg, Int.reduceToNat, Int.reduceAdd, Int.reduceSub, a1, a2, a3, a4, a5, a6, b1, b2, b3, b4, b5, b6, c1, c2, c3, c4, c5, c6, hws]
      exact ih (k + 1) hk' hlt (by omega) rs va ve vw T1 hok (by omega) (by omega) ho h2
    · rw [put_ok (by omega) (by omega)] at cP
      have hfl := frm_len q
      refine CallK.pure cP (aft_nil ?_)
      simp -implicitDefEqProofs -dsimp only [go_sem, Nat.reduceEqDiff, Nat.reduceAdd, Nat.reduceMul, Nat.reduceSub, Nat.reduceLT, Nat.reduceLeDiff, Nat.reduceBEq, reduceIte, reduceCtorEq, Int.reduceLT, Int.reduceLE, Int.reduceEq, Int.reduceNeg, Int.reduceToNat, Int.reduceAdd, Int.reduceSub, decide_true, a1, a2, a3, a4, a5, a6, b1, b2, b3, b4, b5, b6, c1, c2, c3, c4, c5, c6, hws]
      refine Owns.app (a := ⟨1, va, (frms rs).length, byteCells (frms rs)⟩) ho (m := (frm q).length) (slCells_bytes _ _) rfl (by simp only; omega) (by simp only; omega) fun va' T2 ho2 => aft_nil ?_
      rw [byteCells_append, ← frms_one, ← frms_append, ← List.length_append, ← frms_append] at ho2
      obtain ⟨a1, a2, a3, a4, a5, a6⟩ := ho2.form (List.mem_cons_self ..)
      have hlen : lenAv false va' = some (.i .i64 ((frms (rs ++ [q])).length : Nat)) := Owns.lenAv ho2
      have htot : (frms (rs ++ [q])).length = (frms rs).length + q.length + 7 := by rw [frms_append, frms_one, List.length_append, hfl]; omega
      simp -implicitDefEqProofs -dsimp only [go_sem, Nat.reduceEqDiff, Nat.reduceAdd, Nat.reduceMul, Nat.reduceSub, Nat.reduceLT, Nat.reduceLeDiff, Nat.reduceBEq, reduceIte, reduceCtorEq, Int.reduceLT, Int.reduceLE, Int.reduceEq, Int.reduceNeg, Int.reduceToNat, Int.reduceAdd, Int.reduceSub, ↓hlen, a1, a2, a3, a4, a5, a6, b1, b2, b3, b4, b5, b6, c1, c2, c3, c4, c5, c6]
      have ho3 : Owns T [⟨1, ve, rs.length, ints (ends 0 rs)⟩, ⟨1, vw, rs.length, btL rs⟩, ⟨1, va', (frms (rs ++ [q])).length, byteCells (frms (rs ++ [q]))⟩] T2 := Owns.perm (by
        exact (List.perm_append_comm (l₁ := [_]) (l₂ := [_, _]))) ho2
      refine Owns.app (a := ⟨1, ve, rs.length, ints (ends 0 rs)⟩) ho3 (m := 1) (news := ints [((frms (rs ++ [q])).length : Int)]) (by simp [slCells, ints]) rfl (by simp only; omega) (by simp only; omega) fun ve' T3 ho3 => aft_nil ?_
      have e1 : ints (ends 0 rs) ++ ints [((frms (rs ++ [q])).length : Int)] = ints (ends 0 (rs ++ [q])) := by rw [ints_append, ends_append]; simp
      simp only [e1] at ho3
      obtain ⟨b1, b2, b3, b4, b5, b6⟩ := ho3.form (List.mem_cons_self ..)
      simp -implicitDefEqProofs -dsimp only [go_sem, Nat.reduceEqDiff, Nat.reduceAdd, Nat.reduceMul, Nat.reduceSub, Nat.reduceLT, Nat.reduceLeDiff, Nat.reduceBEq, reduceIte, reduceCtorEq, Int.reduceLT, Int.reduceLE, Int.reduceEq, Int.reduceNeg, Int.reduceToNat, Int.reduceAdd, Int.reduceSub, a1, a2, a3, a4, a5, a6, b1, b2, b3, b4, b5, b6, c1, c2, c3, c4, c5, c6]
      have ho4 : Owns T [⟨1, vw, rs.length, btL rs⟩, ⟨1, va', (frms (rs ++ [q])).length, byteCells (frms (rs ++ [q]))⟩, ⟨1, ve', rs.length + 1, ints (ends 0 (rs ++ [q]))⟩] T3 := Owns.perm (by
        exact (List.perm_append_comm (l₁ := [_]) (l₂ := [_, _]))) ho3
      refine Owns.app (a := ⟨1, vw, rs.length, btL rs⟩) ho4 (m := 1) (news := [bts q none]) (by simp [slCells]) rfl (by simp only; omega) (by simp only; omega) fun vw' T4 ho4 => aft_nil ?_
      have e2 : btL rs ++ [bts q none] = btL (rs ++ [q]) := btL_append rs [q]
      simp only [e2] at ho4
      obtain ⟨c1, c2, c3, c4, c5, c6⟩ := ho4.form (List.mem_cons_self ..)
      simp -implicitDefEqProofs -dsimp only [go_sem, Nat.reduceEqDiff, Nat.reduceAdd, Nat.reduceMul, Nat.reduceSub, Nat.reduceLT, Nat.reduceLeDiff, Nat.reduceBEq, reduceIte, reduceCtorEq, Int.reduceLT, Int.reduceLE, Int.reduceEq, Int.reduceNeg, Int.reduceToNat, Int.reduceAdd, Int.reduceSub, a1, a2, a3, a4, a5, a6, b1, b2, b3, b4, b5, b6, c1, c2, c3, c4, c5, c6, hws]
      have ho5 : Owns T (tows ve' vw' va' (rs ++ [q])) T4 := by
        unfold tows
        have e3 : (rs ++ [q]).length = rs.length + 1 := by simp
        rw [e3]
        exact Owns.perm (List.perm_append_comm (l₁ := [_]) (l₂ := [_, _])) ho4
      refine ih (k + 1) hk' hlt (by omega) (rs ++ [q]) va' ve' vw' T4 (fun r hr => ?_) (by simp; omega) (by omega) ho5 h2
      rcases List.mem_append.1 hr with hr | hr
      · exact hok r hr
      · rw [List.mem_singleton.1 hr]; exact ⟨by omega, by omega⟩

theorem ints_get {l : List Int} {k : Nat} {n : Int} (h : l[k]? = some n) : ((ints l).drop k)[0]? = some (.i .i64 n) := by rw [ints_at, h]; rfl
theorem lp_tornB {R : RPost} (hR : ExtR R) {T : Tab} {es : List Int} {cap : Option Nat} {cut : Nat} {x y : AV} (hx : x.plain = true) (hy : y.plain = true) (hl : es.length ≤ 8) : ∀ (qs : List (List UInt8)) (k s : Nat) (p : Nat × Nat), es.drop k = ends s qs → k ≤ es.length → p.1 ≤ k →
    R (.exit 2) [(5, x), (7, y), (12, .i .i64 cut), (13, .i .i64 (cnt cut s qs p).1), (14, .i .i64 (cnt cut s qs p).2), (58, .fz es.length (ints es) cap), (59, .i .i64 es.length), (60, .i .i64 es.length), (61, .b false)] [] T →
    AW prog sautoirlaw04_FrameTorn_l1 R [(5, x), (7, y), (12, .i .i64 cut), (13, .i .i64 p.1), (14, .i .i64 p.2), (58, .fz es.length (ints es) cap), (59, .i .i64 es.length), (60, .i .i64 k)] [] T := by
  intro qs
  induction qs with
  | nil =>
    intro k s p hk hle hp h2
    have hk' := drop_nil hk hle
    refine AW_loop hR ?_
    unfold sautoirlaw04_FrameTorn_l1b
    rw [hk'] at h2 ⊢
    simp -implicitDefEqProofs -dsimp only [go_sem, Nat.reduceEqDiff, Nat.reduceAdd, Nat.reduceMul, Nat.reduceSub, Nat.reduceLT, Nat.reduceLeDiff, Nat.reduceBEq, reduceIte, reduceCtorEq, Int.reduceLT, Int.reduceLE, Int.reduceEq, Int.reduceNeg, Int.reduceToNat, Int.reduceAdd, Int.reduceSub, Int.lt_irrefl, hx, hy]
    exact h2
  | cons q qs ih =>
    intro k s p hk hle hp h2
    rw [ends] at hk
    obtain ⟨hlt, hq, hk'⟩ := drop_lt hk
    have hws : IntKind.i64.wrap ((k : Int) + 1) = ((k + 1 : Nat) : Int) := wrap_succ (by omega)
    have hwn : IntKind.i64.wrap ((p.1 : Int) + 1) = ((p.1 + 1 : Nat) : Int) := wrap_succ (by omega)
    have hc := ints_get hq
    rw [cnt] at h2
    refine AW_loopD (l := sautoirlaw04_FrameTorn_l1) rfl hR ?_
    unfold sautoirlaw04_FrameTorn_l1b
    by_cases hcu : s + q.length + 7 ≤ cut
    · have d : decide (((s + q.length + 7 : Nat) : Int) ≤ cut) = true := decide_eq_true (by omega)
      rw [if_pos hcu] at h2
      simp -implicitDefEqProofs -dsimp only [go_sem, Nat.reduceEqDiff, Nat.reduceAdd, Nat.reduceMul, Nat.reduceSub, Nat.reduceLT, Nat.reduceLeDiff, Nat.reduceBEq, reduceIte, reduceCtorEq, Int.reduceLT, Int.reduceLE, Int.reduceEq, Int.reduceNeg, Int.reduceToNat, Int.reduceAdd, Int.reduceSub, Int.ofNat_lt, hlt, Int.natCast_nonneg, Int.toNat_natCast, Nat.mul_one, hc, d, hx, hy, hws, hwn]
      exact ih (k + 1) _ (p.1 + 1, s + q.length + 7) hk' hlt (by simp only; omega) h2
    · have d : decide (((s + q.length + 7 : Nat) : Int) ≤ cut) = false := decide_eq_false (by omega)
      rw [if_neg hcu] at h2
      simp -implicitDefEqProofs -dsimp only [go_sem, Nat.reduceEqDiff, Nat.reduceAdd, Nat.reduceMul, Nat.reduceSub, Nat.reduceLT, Nat.reduceLeDiff, Nat.reduceBEq, reduceIte, reduceCtorEq, Int.reduceLT, Int.reduceLE, Int.reduceEq, Int.reduceNeg, Int.reduceToNat, Int.reduceAdd, Int.reduceSub, Int.ofNat_lt, hlt, Int.natCast_nonneg, Int.toNat_natCast, Nat.mul_one, hc, d, hx, hy, hws, hwn]
      exact ih (k + 1) _ p hk' hlt (by omega) h2

theorem btL_take (l : List (List UInt8)) (k : Nat) : (btL l).take k = btL (l.take k) := by simp [btL, List.map_take]
theorem pc_FrameTorn (l : List (List UInt8 × Option Nat)) (cap : Option Nat) (a : Nat) (hl : Len l.length) (hlr : ∀ r ∈ l, Len r.1.length) (ha : a < 65536) : PCalls prog f_sautoirlaw04_FrameTorn [.fz l.length (btK l) cap, .i .u16 a] (.b true) := by
  refine pcalls_of mixed t_sautoirlaw04_FrameTorn (by simp) fun T => ?_
  have wa : IntKind.i64.wrap (a : Int) = a := wrap_i64 (by unfold I64; omega)
  unfold s_sautoirlaw04_FrameTorn
  simp -implicitDefEqProofs -dsimp only [go_sem, Nat.reduceEqDiff, Nat.reduceAdd, Nat.reduceMul, Nat.reduceSub, Nat.reduceLT, Nat.reduceLeDiff, Nat.reduceBEq, reduceIte, reduceCtorEq, Int.reduceLT, Int.reduceLE, Int.reduceEq, Int.reduceNeg, Int.reduceToNat, Int.reduceAdd, Int.reduceSub]
  refine lp_tornA (T := T) (l := l) (cap := cap) (a := a) (by repeat' (first | exact finX_ext _ _ | assumption | apply blkR_ext | apply thenR_ext | apply AW_ext)) hl hlr l 0 rfl (Nat.zero_le _) (by omega) [] _ _ _ T (by simp) (by simp) (by simp [frms])
    ⟨T, ⟨T, ⟨T, rfl, Own.nil T 1⟩, Own.nil T 1⟩, Own.nil T 1⟩ (fun rs va ve vw T1 tail hok hn ht ho => ?_)
  obtain ⟨a1, a2, a3, a4, a5, a6⟩ := ho.form (List.mem_cons_self ..)
  obtain ⟨b1, b2, b3, b4, b5, b6⟩ := ho.form (List.mem_cons_of_mem _ (List.mem_cons_self ..))
  obtain ⟨c1, c2, c3, c4, c5, c6⟩ := ho.form (List.mem_cons_of_mem _ (List.mem_cons_of_mem _ (List.mem_cons_self ..)))
  simp -implicitDefEqProofs -dsimp only [go_sem, Nat.reduceEqDiff, Nat.reduceAdd, Nat.reduceMul, Nat.reduceSub, Nat.reduceLT, Nat.reduceLeDiff, Nat.reduceBEq, reduceIte, reduceCtorEq, Int.reduceLT, Int.reduceLE, Int.reduceEq, Int.reduceNeg, Int.reduceToNat, Int.reduceAdd, Int.reduceSub]
  have ho2 := ho
  refine gzS_owns ho fun S hS => ?_
  obtain ⟨T2, ⟨T3, ⟨T4, _, ow⟩, oe⟩, oa⟩ := ho2
  obtain ⟨k1, e1⟩ := hS _ (List.mem_cons_self ..)
  obtain ⟨k2, e2⟩ := hS _ (List.mem_cons_of_mem _ (List.mem_cons_self ..))
  obtain ⟨k3, e3⟩ := hS _ (List.mem_cons_of_mem _ (List.mem_cons_of_mem _ (List.mem_cons_self ..)))
  simp only at e1 e2 e3
  simp only [frE, frX_i, oa.frX, oe.frX, ow.frX, e1, e2, e3]
  obtain ⟨n, hnn⟩ : ∃ n, n = (frms rs).length := ⟨_, rfl⟩
  have wn : IntKind.i64.wrap (((frms rs).length : Int) + 1) = ((n + 1 : Nat) : Int) := (wrap_i64 (by unfold I64; omega)).trans (by omega)
  have wt : ((a : Int)).tmod ((n + 1 : Nat) : Int) = ((a % (n + 1) : Nat) : Int) := by rw [Int.tmod_eq_emod_of_nonneg (Int.natCast_nonneg _)]; norm_cast
  have hz : (((n + 1 : Nat) : Int) = 0) = False := eq_false (by omega)
  have hcut : a % (n + 1) < n + 1 := Nat.mod_lt _ (by omega)
  simp -implicitDefEqProofs -dsimp only [go_sem, Nat.reduceEqDiff, Nat.reduceAdd, Nat.reduceMul, Nat.reduceSub, Nat.reduceLT, Nat.reduceLeDiff, Nat.reduceBEq, reduceIte, reduceCtorEq, Int.reduceLT, Int.reduceLE, Int.reduceEq, Int.reduceNeg, Int.reduceToNat, Int.reduceAdd, Int.reduceSub, wa, wn, wt, hz]
  generalize a % (n + 1) = cut at hcut ⊢
  have hel : (ends 0 rs).length = rs.length := ends_len 0 rs
  rw [← hel]
  refine lp_tornB (es := ends 0 rs) (cap := k2) (cut := cut) (by repeat' (first | exact finX_ext _ _ | assumption | apply blkR_ext | apply thenR_ext | apply AW_ext)) rfl rfl (by omega) rs 0 0 (0, 0) rfl (Nat.zero_le _) (Nat.le_refl _) ?_
  obtain ⟨t1, t2, t3⟩ := torn (cut := cut) rs 0 (cut + 1) 0 hok (Nat.zero_le _) (by omega) (by omega)
  simp only [Nat.sub_zero, Nat.zero_add] at t1 t2 t3
  generalize cnt cut 0 rs (0, 0) = p at t1 t2 t3 ⊢
  have hcl : cut ≤ (frms rs).length := by omega
  have hpl : p.1 ≤ rs.length := t3
  have etl : ((frms rs).take cut).length = cut := by rw [List.length_take]; omega
  have eql : (rs.take p.1).length = p.1 := by rw [List.length_take]; omega
  have cA := pc_All ((frms rs).take cut) (Option.map (fun x => x) k1) (by omega)
  rw [etl, t1] at cA
  simp only [bts, allA, etl, eql] at cA
  have cS := pc_Same (rs.take p.1) (rs.take p.1) none (Option.map (fun x => x) k3) (by unfold Len; omega) (by unfold Len; omega)
  rw [decide_eq_true rfl] at cS
  simp only [eql] at cS
  have dp : decide ((p.1 : Int) ≤ rs.length) = true := decide_eq_true (by omega)
  have dpe : (p.1 : Int) ≤ rs.length := by omega
  simp -implicitDefEqProofs -dsimp only [go_sem, Nat.reduceEqDiff, Nat.reduceAdd, Nat.reduceMul, Nat.reduceSub, Nat.reduceLT, Nat.reduceLeDiff, Nat.reduceBEq, reduceIte, reduceCtorEq, Int.reduceLT, Int.reduceLE, Int.reduceEq, Int.reduceNeg, Int.reduceToNat, Int.reduceAdd, Int.reduceSub, bts, hcl, Int.ofNat_le, Int.natCast_nonneg, Int.toNat_natCast, Nat.mul_one, byteCells_take, Nat.zero_le, ↓g_call _ _ c_frame_All]
  refine CallK.pure cA (aft_nil ?_)
  by_cases hcu : p.2 = cut
  · have d : decide ((p.2 : Int) = cut) = true := decide_eq_true (by omega)
    rw [if_pos hcu]
    simp -implicitDefEqProofs -dsimp only [go_sem, Nat.reduceEqDiff, Nat.reduceAdd, Nat.reduceMul, Nat.reduceSub, Nat.reduceLT, Nat.reduceLeDiff, Nat.reduceBEq, reduceIte, reduceCtorEq, Int.reduceLT, Int.reduceLE, Int.reduceEq, Int.reduceNeg, Int.reduceToNat, Int.reduceAdd, Int.reduceSub, d, hel, dp, dpe, hpl, bts, Int.ofNat_le, Int.natCast_nonneg, Int.toNat_natCast, Nat.mul_one, btL_take, Nat.zero_le, ↓g_gdc, rcOk, true_and, ↓g_call _ _ c_sautoirlaw04_Same]
    refine CallK.pure cS (aft_nil ?_)
    simp -implicitDefEqProofs -dsimp only [go_sem, Nat.reduceEqDiff, Nat.reduceAdd, Nat.reduceMul, Nat.reduceSub, Nat.reduceLT, Nat.reduceLeDiff, Nat.reduceBEq, reduceIte, reduceCtorEq, Int.reduceLT, Int.reduceLE, Int.reduceEq, Int.reduceNeg, Int.reduceToNat, Int.reduceAdd, Int.reduceSub, decide_true, eq_self, ↓g_gdc, rcOk, true_and, ↓g_call _ _ c_sautoirlaw04_awake]
    refine CallK.pure pc_awake (aft_nil ?_)
    simp -implicitDefEqProofs -dsimp only [go_sem, Nat.reduceEqDiff, Nat.reduceAdd, Nat.reduceMul, Nat.reduceSub, Nat.reduceLT, Nat.reduceLeDiff, Nat.reduceBEq, reduceIte, reduceCtorEq, Int.reduceLT, Int.reduceLE, Int.reduceEq, Int.reduceNeg, Int.reduceToNat, Int.reduceAdd, Int.reduceSub]
    exact finL_pure rfl
  · have d : decide ((p.2 : Int) = cut) = false := decide_eq_false (by omega)
    rw [if_neg hcu]
    simp -implicitDefEqProofs -dsimp only [go_sem, Nat.reduceEqDiff, Nat.reduceAdd, Nat.reduceMul, Nat.reduceSub, Nat.reduceLT, Nat.reduceLeDiff, Nat.reduceBEq, reduceIte, reduceCtorEq, Int.reduceLT, Int.reduceLE, Int.reduceEq, Int.reduceNeg, Int.reduceToNat, Int.reduceAdd, Int.reduceSub, d, hel, dp, dpe, hpl, bts, Int.ofNat_le, Int.natCast_nonneg, Int.toNat_natCast, Nat.mul_one, btL_take, Nat.zero_le, ↓g_gdc, rcOk, true_and, ↓g_call _ _ c_sautoirlaw04_Same]
    refine CallK.pure cS (aft_nil ?_)
    simp -implicitDefEqProofs -dsimp only [go_sem, Nat.reduceEqDiff, Nat.reduceAdd, Nat.reduceMul, Nat.reduceSub, Nat.reduceLT, Nat.reduceLeDiff, Nat.reduceBEq, reduceIte, reduceCtorEq, Int.reduceLT, Int.reduceLE, Int.reduceEq, Int.reduceNeg, Int.reduceToNat, Int.reduceAdd, Int.reduceSub, decide_true, eq_self, ↓g_gdc, rcOk, true_and, ↓g_call _ _ c_sautoirlaw04_awake]
    refine CallK.pure pc_awake (aft_nil ?_)
    simp -implicitDefEqProofs -dsimp only [go_sem, Nat.reduceEqDiff, Nat.reduceAdd, Nat.reduceMul, Nat.reduceSub, Nat.reduceLT, Nat.reduceLeDiff, Nat.reduceBEq, reduceIte, reduceCtorEq, Int.reduceLT, Int.reduceLE, Int.reduceEq, Int.reduceNeg, Int.reduceToNat, Int.reduceAdd, Int.reduceSub]
    exact finL_pure rfl
end Go.Aw
