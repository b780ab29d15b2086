import Derived.Test.YtjimaapiajldpaaR28X
import Derived.Test.YtjimaapiajldpaaR28S
import Derived.Test.YtjimaapiajldpaaV28J
import Derived.Test.YtjimaapiajldpaaV28N
import Derived.Test.YtjimaapiajldpaaV28X
import Derived.Test.YtjimaapiajldpaaAwD
namespace Go.Aw
open Go
open Go.Proofs.Try (prog)
set_option linter.all false
set_option maxHeartbeats 4000000

/-! The reference's route: its row, the row of what it knows, and of some of these the rows of their members. -/
def SlV (T : Tab) (v : AV) (n : Nat) (xs : List AV) : Prop := (∃ cap, v = .fz n xs cap) ∨ (∃ id, v = .sl id 0 n none ∧ T id = .row 2 xs)
def rvC (x : Cf × AV) : List AV := [.i .u64 x.1.ep, .i .i64 x.1.sh, x.2, .i .i64 x.1.ln]
theorem rvC_len (x : Cf × AV) : (rvC x).length = 4 := rfl
def RRt (T : Tab) (id : Nat) (l : List (Cf × AV)) : Prop := ∃ rL, T id = .row 1 [.sl rL 0 l.length none] ∧ T rL = .row 4 (l.flatMap rvC) ∧ ∀ x ∈ l, SlV T x.2 x.1.ch.length (mem x.1.plain.l)

theorem plain0 : ∀ L : Fin 9, ∀ k : Fin 4, (cf0 L.val k.val).plain.l = chr k.val L.val L.val := by decide +kernel
theorem cels_eq (L : Nat) : ∀ (ps : List AV) (k : Nat), celsR k ps = (((List.range' k ps.length).map (cf0 L)).zip ps).flatMap rvC
  | [], k => rfl
  | p :: ps, k => by
    simp only [celsR, List.length_cons, List.range'_succ, List.map_cons, List.zip_cons_cons, List.flatMap_cons]
    rw [cels_eq L ps (k + 1)]; rfl
theorem ows_at (L : Nat) : ∀ (ps : List AV) (k : Nat), ∀ x ∈ ((List.range' k ps.length).map (cf0 L)).zip ps, ∃ j, k ≤ j ∧ j < k + ps.length ∧ x.1 = cf0 L j ∧ (⟨2, x.2, L, mem (chr (j : Int) L L)⟩ : Ow) ∈ owsR L k ps
  | [], k, x, h => by simp at h
  | p :: ps, k, x, h => by
    simp only [List.length_cons, List.range'_succ, List.map_cons, List.zip_cons_cons, List.mem_cons] at h
    rcases h with rfl | h
    · exact ⟨k, by omega, by simp, rfl, by simp [owsR]⟩
    · obtain ⟨j, h1, h2, h3, h4⟩ := ows_at L ps (k + 1) x h
      exact ⟨j, by omega, by simp only [List.length_cons]; omega, h3, List.mem_cons_of_mem _ h4⟩

def rtQ (T : Tab) (S L : Nat) (r : AV) (T' : Tab) : Prop := ∃ id l, r = .ptr id 0 ∧ T id = .unused ∧ RRt T' id l ∧ l.map (·.1) = cfs0 L S ∧ TabLe T T' ∧ ∀ j, T j ≠ .unused → T' j = T j

theorem ac_rRNew {T : Tab} {S L : Nat} {v : Int} (h : sok S L v = true) : ACalls prog f_sautoirref28_New [.agg (stC S L v)] T (rtQ T S L) := by
  refine acalls_of mixed t_sautoirref28_New (by simp) ?_
  have hh := of_decide_eq_true h
  unfold s_sautoirref28_New
  have hN := ac_rNew (T0 := T) h
  simp only [stC] at hN
  simp -implicitDefEqProofs -dsimp only [go_sem, Nat.reduceEqDiff, Nat.reduceAdd, Nat.reduceMul, Nat.reduceSub, Nat.reduceLT, Nat.reduceLeDiff, Nat.reduceBEq, reduceIte, reduceCtorEq, Int.reduceLT, Int.reduceLE, Int.reduceEq, Int.reduceNeg, Int.reduceToNat, Int.reduceAdd, Int.reduceSub, stC, ↓g_call _ _ c_sautoirref21_New]
  refine CallK.of hN (fun r T1 ⟨id, vC, ps, e1, hid, hps, how⟩ => aft_nil ?_)
  subst e1
  obtain ⟨rL, e2, t2, u2⟩ := how.get (List.mem_cons_self ..) (by simp only; omega)
  simp only at e2 t2
  subst e2
  have e3 : T1 id = stR S L v (.sl rL 0 S none) := by
    rw [how.base_get (by rw [Tab.put_same]; simp [stR]), Tab.put_same]
  simp -implicitDefEqProofs -dsimp only [go_sem, Nat.reduceEqDiff, Nat.reduceAdd, Nat.reduceMul, Nat.reduceSub, Nat.reduceLT, Nat.reduceLeDiff, Nat.reduceBEq, reduceIte, reduceCtorEq, Int.reduceLT, Int.reduceLE, Int.reduceEq, Int.reduceNeg, Int.reduceToNat, Int.reduceAdd, Int.reduceSub, e3, stR]
  refine fun id2 hid2 => aft_nil ?_
  simp -implicitDefEqProofs -dsimp only [go_sem, Nat.reduceEqDiff, Nat.reduceAdd, Nat.reduceMul, Nat.reduceSub, Nat.reduceLT, Nat.reduceLeDiff, Nat.reduceBEq, reduceIte, reduceCtorEq, Int.reduceLT, Int.reduceLE, Int.reduceEq, Int.reduceNeg, Int.reduceToNat, Int.reduceAdd, Int.reduceSub]
  have hle : TabLe T T1 := fun j => by
    by_cases e : j = id
    · subst e; exact .inl hid
    · have := how.le j; rwa [Tab.put_ne _ _ e] at this
  have hl : (((List.range' 0 ps.length).map (cf0 L)).zip ps).length = S := by simp [hps]
  refine finL_of _ (fun _ => .inr (.inl rfl)) ⟨id2, ((List.range' 0 ps.length).map (cf0 L)).zip ps, rfl, hle.unused hid2, ⟨rL, ?_, ?_, ?_⟩, ?_, hle.put (hle.unused hid2), fun j hj => ?_⟩
  · rw [Tab.put_same, hl]
  · rw [Tab.put_ne _ _ (fun e => by subst e; rw [t2] at hid2; cases hid2), t2, cels_eq L]
  · intro x hx
    obtain ⟨j, h1, h2, h3, h4⟩ := ows_at L ps 0 x hx
    obtain ⟨i, e4, t4, u4⟩ := how.get (List.mem_cons_of_mem _ h4) (by simp only; omega)
    simp only at e4 t4
    refine .inr ⟨i, ?_, ?_⟩
    · rw [e4, h3]; simp [cf0, chn_len]
    · rw [Tab.put_ne _ _ (fun e => by subst e; rw [t4] at hid2; cases hid2), t4, h3]
      have := plain0 ⟨L, by omega⟩ ⟨j, by omega⟩
      simp only at this
      rw [this]
  · rw [List.map_fst_zip (by simp), hps]; simp [cfs0, List.range_eq_range']
  · have e : (T.put id (stR S L v (.sl rL 0 S none))) j = T j := Tab.put_ne _ _ (fun e => by subst e; exact hj hid)
    have e4 := how.base_get (id := j) (by rw [e]; exact hj)
    rw [Tab.put_ne _ _ (fun e => by subst e; exact hj (hle.unused hid2)), e4, e]

theorem RRt.keep {T T' : Tab} {id : Nat} {l : List (Cf × AV)} (h : RRt T id l) (hk : ∀ j z xs, T j = .row z xs → z ≠ 5 → T' j = T j) : RRt T' id l := by
  obtain ⟨rL, h1, h2, h3⟩ := h
  refine ⟨rL, by rw [hk _ _ _ h1 (by omega), h1], by rw [hk _ _ _ h2 (by omega), h2], fun x hx => ?_⟩
  rcases h3 x hx with h | ⟨i, e, t⟩
  · exact .inl h
  · exact .inr ⟨i, e, by rw [hk _ _ _ t (by omega), t]⟩

theorem flat_set {α : Type} {f : α → List AV} {z : Nat} (hf : ∀ x, (f x).length = z) {l : List α} {k : Nat} {x : α} (h : k < l.length) : stCells (l.flatMap f) (k * z) (f x) = (l.set k x).flatMap f := by
  induction l generalizing k with
  | nil => simp at h
  | cons a l ih =>
    cases k with
    | zero =>
      simp only [stCells, List.flatMap_cons, Nat.zero_mul, List.take_zero, List.nil_append, List.set_cons_zero, Nat.zero_add, hf]
      rw [List.drop_append_of_le_length (by rw [hf]; omega), List.drop_of_length_le (by rw [hf]; omega), List.nil_append]
    | succ k =>
      have := ih (k := k) (by simpa using h)
      simp only [stCells, hf] at this ⊢
      rw [show (k + 1) * z = (f a).length + k * z by rw [hf, Nat.add_mul]; omega, List.flatMap_cons, List.set_cons_succ, List.flatMap_cons, ← this]
      rw [List.take_length_add_append, Nat.add_assoc, List.drop_length_add_append]
      simp only [List.append_assoc]
theorem right_sh {c : Cf} (h : c.right = true) : 0 ≤ c.sh := by
  simp only [Cf.right, Bool.and_eq_true, Bool.not_eq_true', decide_eq_false_iff_not, Bool.not_eq_false', decide_eq_true_eq] at h
  obtain ⟨⟨⟨⟨⟨⟨⟨⟨h1, h2⟩, h3⟩, h4⟩, h5⟩, h6⟩, h7⟩, h8⟩, h9⟩ := h
  omega
def rlQ (T : Tab) (id : Nat) (m : List Cf) (c : Cf) (r : AV) (T' : Tab) : Prop := r = .b (lrn m c) ∧ (∃ l, RRt T' id l ∧ l.map (·.1) = lrnd m c) ∧ ∀ j, j ≠ id → T j ≠ .unused → T' j = T j

theorem ac_RLearn {T : Tab} {id : Nat} {l : List (Cf × AV)} (hR : RRt T id l) (c : Cf) (k : Option Nat) (hc : c.fu.length = c.ch.length) (hcl : Len c.ch.length) (hn : 1 ≤ l.length ∧ l.length ≤ 4) : ACalls prog f_sautoirref28_Route_Learn [.ptr id 0, .agg (c.plain.cells k)] T (rlQ T id (l.map (·.1)) c) := by
  refine acalls_of mixed t_sautoirref28_Route_Learn (by simp) ?_
  have hR0 := hR
  obtain ⟨rL, h1, h2, h3⟩ := hR
  have c1 := pc_RRight c.plain k (by rw [c.plain_len]; exact hcl)
  rw [c.plain_right hc] at c1
  have hstop : lrn (l.map (·.1)) c = false → rlQ T id (l.map (·.1)) c (.b false) T := fun h => ⟨by rw [h], ⟨l, hR0, by rw [lrnd, if_neg (by rw [h]; simp)]⟩, fun _ _ _ => rfl⟩
  have hlr : lrn (l.map (·.1)) c = match at? (l.map (·.1)) c.sh with
      | some o => c.right && decide (o.ep < c.ep)
      | none => false := rfl
  simp only [Rf.cells, Cf.plain] at c1
  unfold s_sautoirref28_Route_Learn
  simp -implicitDefEqProofs -dsimp only [go_sem, Nat.reduceEqDiff, Nat.reduceAdd, Nat.reduceMul, Nat.reduceSub, Nat.reduceLT, Nat.reduceLeDiff, Nat.reduceBEq, reduceIte, reduceCtorEq, Int.reduceLT, Int.reduceLE, Int.reduceEq, Int.reduceNeg, Int.reduceToNat, Int.reduceAdd, Int.reduceSub, Rf.cells, Cf.plain, ↓g_call _ _ c_sautoirref16_Right]
  refine CallK.pure c1 (aft_nil ?_)
  rcases hr : c.right with _ | _
  · simp -implicitDefEqProofs -dsimp only [go_sem, Nat.reduceEqDiff, Nat.reduceAdd, Nat.reduceMul, Nat.reduceSub, Nat.reduceLT, Nat.reduceLeDiff, Nat.reduceBEq, reduceIte, reduceCtorEq, Int.reduceLT, Int.reduceLE, Int.reduceEq, Int.reduceNeg, Int.reduceToNat, Int.reduceAdd, Int.reduceSub, hr, ↓g_gdc, Bool.not_false, h1]
    refine finL_of T (fun _ => .inr (.inl rfl)) (hstop ?_)
    rw [hlr]; split <;> simp [hr]
  have hs0 := right_sh hr
  by_cases hs : (l.length : Int) ≤ c.sh
  · simp -implicitDefEqProofs -dsimp only [go_sem, Nat.reduceEqDiff, Nat.reduceAdd, Nat.reduceMul, Nat.reduceSub, Nat.reduceLT, Nat.reduceLeDiff, Nat.reduceBEq, reduceIte, reduceCtorEq, Int.reduceLT, Int.reduceLE, Int.reduceEq, Int.reduceNeg, Int.reduceToNat, Int.reduceAdd, Int.reduceSub, hr, ↓g_gdc, Bool.not_true, h1, hs, decide_true]
    refine finL_of T (fun _ => .inr (.inl rfl)) (hstop ?_)
    rw [hlr, at?, if_pos hs0, List.getElem?_eq_none (by simp; omega)]
  obtain ⟨o, ho⟩ : ∃ o, l[c.sh.toNat]? = some o := ⟨_, List.getElem?_eq_getElem (show c.sh.toNat < l.length by omega)⟩
  have hat : at? (l.map (·.1)) c.sh = some o.1 := by rw [at?, if_pos hs0, List.getElem?_map, ho]; rfl
  have hlr' : lrn (l.map (·.1)) c = decide (o.1.ep < c.ep) := by rw [hlr, hat]; simp [hr]
  have hcell := flat_at rvC_len ho
  have hlt : c.sh < l.length := by omega
  have hlen : c.sh.toNat * 4 + 4 ≤ (l.flatMap rvC).length := by rw [flat_length rvC_len]; omega
  have hget : (l.flatMap rvC)[c.sh.toNat * 4]? = some (.i .u64 o.1.ep) := by
    have := congrArg (fun l : List AV => l[0]?) hcell
    simpa [List.getElem?_drop, rvC] using this
  have hd : decide ((l.length : Int) ≤ c.sh) = false := decide_eq_false hs
  simp -implicitDefEqProofs -dsimp only [go_sem, Nat.reduceEqDiff, Nat.reduceAdd, Nat.reduceMul, Nat.reduceSub, Nat.reduceLT, Nat.reduceLeDiff, Nat.reduceBEq, reduceIte, reduceCtorEq, Int.reduceLT, Int.reduceLE, Int.reduceEq, Int.reduceNeg, Int.reduceToNat, Int.reduceAdd, Int.reduceSub, hr, ↓g_gdc, Bool.not_true, h1, hd, h2, hs0, hlt, hget]
  refine br_split (fun h => ?_) (fun h => ?_)
  · have h' := of_decide_eq_true h
    simp -implicitDefEqProofs -dsimp only [go_sem, Nat.reduceEqDiff, Nat.reduceAdd, Nat.reduceMul, Nat.reduceSub, Nat.reduceLT, Nat.reduceLeDiff, Nat.reduceBEq, reduceIte, reduceCtorEq, Int.reduceLT, Int.reduceLE, Int.reduceEq, Int.reduceNeg, Int.reduceToNat, Int.reduceAdd, Int.reduceSub, h]
    exact finL_of T (fun _ => .inr (.inl rfl)) (hstop (by rw [hlr', decide_eq_false (by omega)]))
  have h' := of_decide_eq_false h
  have hf : lrn (l.map (·.1)) c = true := by rw [hlr', decide_eq_true (by omega)]
  simp -implicitDefEqProofs -dsimp only [go_sem, Nat.reduceEqDiff, Nat.reduceAdd, Nat.reduceMul, Nat.reduceSub, Nat.reduceLT, Nat.reduceLeDiff, Nat.reduceBEq, reduceIte, reduceCtorEq, Int.reduceLT, Int.reduceLE, Int.reduceEq, Int.reduceNeg, Int.reduceToNat, Int.reduceAdd, Int.reduceSub, h, h1]
  have hsl : slCells T 4 (.sl rL 0 l.length none) = some (l.flatMap rvC) := by
    have e : (l.flatMap rvC).length = l.length * 4 := flat_length rvC_len l
    simp only [slCells, h2]
    rw [if_pos ⟨trivial, by omega⟩, List.drop_zero, List.take_of_length_le (by omega)]
  refine (Own.nil T 4).app (m := l.length) hsl rfl (by omega) (by omega) fun v' T2 how => aft_nil ?_
  obtain ⟨i, rfl, hi, rfl⟩ := how.ne (by omega)
  rw [Nat.zero_add, List.nil_append]
  have hne : i ≠ id := fun e => by subst e; rw [h1] at hi; cases hi
  have t1 : (T.put i (.row 4 (l.flatMap rvC))) id = .row 1 [.sl rL 0 l.length none] := by rw [Tab.put_ne _ _ (Ne.symm hne), h1]
  simp -implicitDefEqProofs -dsimp only [go_sem, Nat.reduceEqDiff, Nat.reduceAdd, Nat.reduceMul, Nat.reduceSub, Nat.reduceLT, Nat.reduceLeDiff, Nat.reduceBEq, reduceIte, reduceCtorEq, Int.reduceLT, Int.reduceLE, Int.reduceEq, Int.reduceNeg, Int.reduceToNat, Int.reduceAdd, Int.reduceSub, hs0, hlt]
  refine stS_row (Tab.put_same ..) rfl rfl (by simpa using hlen) ?_
  refine aft_nil ?_
  rw [Tab.put_put]
  have t3 : (T.put i (.row 4 (stCells (l.flatMap rvC) (c.sh.toNat * 4) [.i .u64 c.ep, .i .i64 c.sh, .fz (plainF c.fu c.ch 0).length (mem (plainF c.fu c.ch 0)) k, .i .i64 c.ln]))) id = .row 1 [.sl rL 0 l.length none] := by rw [Tab.put_ne _ _ (Ne.symm hne), h1]
  simp -implicitDefEqProofs -dsimp only [go_sem, Nat.reduceEqDiff, Nat.reduceAdd, Nat.reduceMul, Nat.reduceSub, Nat.reduceLT, Nat.reduceLeDiff, Nat.reduceBEq, reduceIte, reduceCtorEq, Int.reduceLT, Int.reduceLE, Int.reduceEq, Int.reduceNeg, Int.reduceToNat, Int.reduceAdd, Int.reduceSub]
  refine stS_row t3 rfl rfl (by simp) ?_
  refine aft_nil ?_
  simp -implicitDefEqProofs -dsimp only [go_sem, Nat.reduceEqDiff, Nat.reduceAdd, Nat.reduceMul, Nat.reduceSub, Nat.reduceLT, Nat.reduceLeDiff, Nat.reduceBEq, reduceIte, reduceCtorEq, Int.reduceLT, Int.reduceLE, Int.reduceEq, Int.reduceNeg, Int.reduceToNat, Int.reduceAdd, Int.reduceSub]
  refine finL_of _ (fun _ => .inr (.inl rfl)) ⟨by rw [hf], ⟨l.set c.sh.toNat (c, .fz (plainF c.fu c.ch 0).length (mem (plainF c.fu c.ch 0)) k), ⟨i, ?_, ?_, ?_⟩, ?_⟩, ?_⟩
  · rw [Tab.put_same, List.length_set]
    first | done | rfl
  · rw [Tab.put_ne _ _ hne, Tab.put_same, ← flat_set rvC_len (by omega)]; rfl
  · intro x hx
    have hkeep : ∀ j xs, T j = .row 2 xs → ((T.put i (.row 4 (stCells (l.flatMap rvC) (c.sh.toNat * 4) [.i .u64 c.ep, .i .i64 c.sh, .fz (plainF c.fu c.ch 0).length (mem (plainF c.fu c.ch 0)) k, .i .i64 c.ln]))).put id (.row 1 (stCells [.sl rL 0 l.length none] 0 [.sl i 0 l.length none]))) j = .row 2 xs := fun j xs ht => by
      rw [Tab.put_ne _ _ (fun e => by subst e; rw [h1] at ht; cases ht), Tab.put_ne _ _ (fun e => by subst e; rw [hi] at ht; cases ht), ht]
    rcases List.mem_or_eq_of_mem_set hx with hx | rfl
    · rcases h3 x hx with h | ⟨j, e, t⟩
      · exact .inl h
      · exact .inr ⟨j, e, hkeep j _ t⟩
    · exact .inl ⟨k, by simp only [plainF_length]; rfl⟩
  · rw [lrnd, if_pos hf, List.map_set]
  · intro j hj hu
    rw [Tab.put_ne _ _ hj, Tab.put_ne _ _ (fun e => by subst e; exact hu hi)]
end Go.Aw
