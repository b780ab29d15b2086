import Derived.Test.YtoeaikcebjideaaDoorE03J
namespace Go.Aw
open Go
open Go.Proofs.Tryd (prog)
open Go.Proofs
set_option linter.all false
set_option maxHeartbeats 4000000

theorem erAv_form (e : Option Er) : (erAv e).plain = true ∧ (erAv e).isOne = true ∧ (erAv e).sto = true ∧ (erAv e).cells = [erAv e] ∧ (erAv e).isLp = false ∧ ∀ k, (erAv e).offLp k = erAv e := by
  cases e with
  | none => exact ⟨rfl, rfl, rfl, rfl, rfl, fun _ => rfl⟩
  | some e =>
    obtain ⟨t, v, h⟩ := e.ifc
    simp only [erAv, h]
    exact ⟨rfl, rfl, rfl, rfl, rfl, fun _ => rfl⟩
def erIn (w : List UInt8) : Option Er → Option Er
  | none => none
  | some e => some (.flt w e)
def erNew (w : List UInt8) (n : Int) : Option Er := if n = 0 then none else some (.flt w (.num n))
theorem pc_In (w : List UInt8) (e : Option Er) : PCalls prog f_fault_In [.s w, erAv e] (erAv (erIn w e)) := by
  cases e with
  | none =>
    refine pcalls_of mixed t_fault_In (by simp) fun T => ?_
    unfold s_fault_In
    simp -implicitDefEqProofs -dsimp only [go_sem, Nat.reduceEqDiff, Nat.reduceAdd, Nat.reduceMul, Nat.reduceSub, Nat.reduceLT, Nat.reduceLeDiff, Nat.reduceBEq, reduceIte, reduceCtorEq, Int.reduceLT, Int.reduceLE, Int.reduceEq, Int.reduceNeg, Int.reduceToNat, Int.reduceAdd, Int.reduceSub, erAv, erIn]
    exact finL_pure rfl
  | some e => exact pc_fIn w e
theorem pc_New (w : List UInt8) (n : Int) : PCalls prog f_fault_New [.s w, .i .i64 n] (erAv (erNew w n)) := by
  have h := pc_fNew w n
  unfold erNew
  by_cases h0 : n = 0
  · rw [if_pos h0] at h ⊢; exact h
  · rw [if_neg h0] at h ⊢; exact h

/-! Wrapped, some times. -/
def wrapF (r : List (List UInt8)) (e : Option Er) : Option Er := r.foldl (fun e s => erIn s e) e
def wrapL : List (List UInt8) → Int → Option Er
  | [], _ => none
  | w :: r, n => wrapF r (erNew w n)
theorem wrapF_none : ∀ r, wrapF r none = none
  | [] => rfl
  | _ :: r => wrapF_none r
theorem wrapL_zero (l : List (List UInt8)) : wrapL l 0 = none := by
  cases l with
  | nil => rfl
  | cons w r => exact wrapF_none r
theorem wrapF_some : ∀ (r : List (List UInt8)) (e : Er), ∃ e', wrapF r (some e) = some e' ∧ e'.code = e.code ∧ e'.ps = r.reverse ++ e.ps
  | [], e => ⟨e, rfl, rfl, rfl⟩
  | w :: r, e => by
    obtain ⟨e', h1, h2, h3⟩ := wrapF_some r (.flt w e)
    exact ⟨e', h1, h2, by rw [h3]; simp [Er.ps]⟩
theorem wrapL_some {l : List (List UInt8)} {n : Int} (hl : l ≠ []) (hn : n ≠ 0) : ∃ e, wrapL l n = some e ∧ e.code = n ∧ e.ps = l.reverse := by
  cases l with
  | nil => exact (hl rfl).elim
  | cons w r =>
    obtain ⟨e', h1, h2, h3⟩ := wrapF_some r (.flt w (.num n))
    refine ⟨e', ?_, h2, by rw [h3]; simp [Er.ps]⟩
    show wrapF r (erNew w n) = some e'
    unfold erNew
    rw [if_neg hn]; exact h1
theorem strs_at {l : List (List UInt8)} {k : Nat} {y : List UInt8} (h : l[k]? = some y) : ((strs l).drop k)[0]? = some (.s y) := by simp [strs, h]
theorem strs_drop (l : List (List UInt8)) (k : Nat) : (strs l).drop k = strs (l.drop k) := by simp [strs]
theorem strs_take (l : List (List UInt8)) (k : Nat) : (strs l).take k = strs (l.take k) := by simp [strs]
end Go.Aw
