import Derived.Test.YtmicojcojlgefaaK29R28X
import Derived.Test.YtmicojcojlgefaaK29R28S
import Derived.Test.YtmicojcojlgefaaK29R28G
import Derived.Test.YtmicojcojlgefaaK29S12X
import Derived.Test.YtmicojcojlgefaaAwD
namespace Go.Aw
open Go
open Go.Proofs.Try (prog)
set_option linter.all false
set_option maxHeartbeats 4000000

/-! The reference's route: its row, the row of what it knows, and of some of these the rows of their members. -/
def SlV (T : Tab) (v : AV) (n : Nat) (xs : List AV) : Prop := (∃ cap, v = .fz n xs cap) ∨ (∃ id, v = .sl id 0 n none ∧ T id = .row 2 xs)
def rvC (x : Cf × AV) : List AV := [.i .u64 x.1.ep, .i .i64 x.1.sh, x.2, .i .i64 x.1.ln]
def RRt (T : Tab) (id : Nat) (l : List (Cf × AV)) : Prop := ∃ rL, T id = .row 1 [.sl rL 0 l.length none] ∧ T rL = .row 4 (l.flatMap rvC) ∧ ∀ x ∈ l, SlV T x.2 x.1.ch.length (mem x.1.plain.l)

theorem plain0 : ∀ L : Fin 9, ∀ k : Fin 4, (cf0 L.val k.val).plain.l = chr k.val L.val L.val := by decide +kernel
theorem cels_eq (L : Nat) : ∀ (ps : List AV) (k : Nat), celsR k ps = (((List.range' k ps.length).map (cf0 L)).zip ps).flatMap rvC
  | [], k => rfl
  | p :: ps, k => by
    simp only [celsR, List.length_cons, List.range'_succ, List.map_cons, List.zip_cons_cons, List.flatMap_cons]
    rw [cels_eq L ps (k + 1)]; rfl
theorem ows_at (L : Nat) : ∀ (ps : List AV) (k : Nat), ∀ x ∈ ((List.range' k ps.length).map (cf0 L)).zip ps, ∃ j, k ≤ j ∧ j < k + ps.length ∧ x.1 = cf0 L j ∧ (⟨2, x.2, L, mem (chr (j : Int) L L)⟩ : Ow) ∈ owsR L k ps
  | [], k, x, h => by simp at h
  | p :: ps, k, x, h => by
    simp only [List.length_cons, List.range'_succ, List.map_cons, List.zip_cons_cons, List.mem_cons] at h
    rcases h with rfl | h
    · exact ⟨k, by omega, by simp, rfl, by simp [owsR]⟩
    · obtain ⟨j, h1, h2, h3, h4⟩ := ows_at L ps (k + 1) x h
      exact ⟨j, by omega, by simp only [List.length_cons]; omega, h3, List.mem_cons_of_mem _ h4⟩

def rtQ (T : Tab) (S L : Nat) (r : AV) (T' : Tab) : Prop := ∃ id l, r = .ptr id 0 ∧ T id = .unused ∧ RRt T' id l ∧ l.map (·.1) = cfs0 L S ∧ TabLe T T' ∧ ∀ j, T j ≠ .unused → T' j = T j

theorem ac_rRNew {T : Tab} {S L : Nat} {v : Int} (h : sok S L v = true) : ACalls prog f_sautoirref28_New [.agg (stC S L v)] T (rtQ T S L) := by
  refine acalls_of mixed t_sautoirref28_New (by simp) ?_
  have hh := of_decide_eq_true h
  unfold s_sautoirref28_New
  have hN := ac_rNew (T0 := T) h
  simp only [stC] at hN
  simp -implicitDefEqProofs -dsimp only [go_sem, seval, stC, ↓g_call _ _ c_sautoirref21_New]
  refine CallK.of hN (fun r T1 ⟨id, vC, ps, e1, hid, hps, how⟩ => aft_nil ?_)
  subst e1
  obtain ⟨rL, e2, t2, u2⟩ := how.get (List.mem_cons_self ..) (by simp only; omega)
  simp only at e2 t2
  subst e2
  have e3 : T1 id = stR S L v (.sl rL 0 S none) := by
    rw [how.base_get (by rw [Tab.put_same]; simp [stR]), Tab.put_same]
  simp -implicitDefEqProofs -dsimp only [go_sem, seval, e3, stR]
  refine fun id2 hid2 => aft_nil ?_
  simp -implicitDefEqProofs -dsimp only [go_sem, seval]
  have hle : TabLe T T1 := fun j => by
    by_cases e : j = id
    · subst e; exact .inl hid
    · have := how.le j; rwa [Tab.put_ne _ _ e] at this
  have hl : (((List.range' 0 ps.length).map (cf0 L)).zip ps).length = S := by simp [hps]
  refine finL_of _ (fun _ => .inr (.inl rfl)) ⟨id2, ((List.range' 0 ps.length).map (cf0 L)).zip ps, rfl, hle.unused hid2, ⟨rL, ?_, ?_, ?_⟩, ?_, hle.put (hle.unused hid2), fun j hj => ?_⟩
  · rw [Tab.put_same, hl]
  · rw [Tab.put_ne _ _ (fun e => by subst e; rw [t2] at hid2; cases hid2), t2, cels_eq L]
  · intro x hx
    obtain ⟨j, h1, h2, h3, h4⟩ := ows_at L ps 0 x hx
    obtain ⟨i, e4, t4, u4⟩ := how.get (List.mem_cons_of_mem _ h4) (by simp only; omega)
    simp only at e4 t4
    refine .inr ⟨i, ?_, ?_⟩
    · rw [e4, h3]; simp [cf0, chn_len]
    · rw [Tab.put_ne _ _ (fun e => by subst e; rw [t4] at hid2; cases hid2), t4, h3]
      have := plain0 ⟨L, by omega⟩ ⟨j, by omega⟩
      simp only at this
      rw [this]
  · rw [List.map_fst_zip (by simp), hps]; simp [cfs0, List.range_eq_range']
  · have e : (T.put id (stR S L v (.sl rL 0 S none))) j = T j := Tab.put_ne _ _ (fun e => by subst e; exact hj hid)
    have e4 := how.base_get (id := j) (by rw [e]; exact hj)
    rw [Tab.put_ne _ _ (fun e => by subst e; exact hj (hle.unused hid2)), e4, e]

theorem RRt.keep {T T' : Tab} {id : Nat} {l : List (Cf × AV)} (h : RRt T id l) (hk : ∀ j z xs, T j = .row z xs → z ≠ 5 → T' j = T j) : RRt T' id l := by
  obtain ⟨rL, h1, h2, h3⟩ := h
  refine ⟨rL, by rw [hk _ _ _ h1 (by omega), h1], by rw [hk _ _ _ h2 (by omega), h2], fun x hx => ?_⟩
  rcases h3 x hx with h | ⟨i, e, t⟩
  · exact .inl h
  · exact .inr ⟨i, e, by rw [hk _ _ _ t (by omega), t]⟩

end Go.Aw

