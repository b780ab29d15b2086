import Derived.Test.YtfphinopblfacaaGreatDoorH21R28I
namespace Go.Aw
open Go
open Go.Proofs.Tryz (prog)
set_option linter.all false
set_option maxHeartbeats 4000000

theorem celF_length : ∀ (ps : List (AV × AV)) (k : Nat), (celF k ps).length = ps.length * 5
  | [], _ => rfl
  | p :: ps, k => by simp only [celF, List.length_append, celF_length ps (k + 1), List.length_cons]; simp [cel]; omega
theorem celF_at : ∀ (ps : List (AV × AV)) (j i : Nat) {p : AV × AV}, ps[i]? = some p → (celF j ps).drop (i * 5) = cel (j + i) p.1 p.2 ++ celF (j + i + 1) (ps.drop (i + 1))
  | [], _, _, _, h => by simp at h
  | q :: ps, j, 0, p, h => by simp at h; subst h; simp [celF]
  | q :: ps, j, i + 1, p, h => by
    have := celF_at ps (j + 1) i (p := p) (by simpa using h)
    rw [show (i + 1) * 5 = i * 5 + 5 by omega]
    simp only [celF]
    rw [show i * 5 + 5 = (cel j q.1 q.2).length + i * 5 by simp [cel]; omega, List.drop_length_add_append, this, show j + 1 + i = j + (i + 1) by omega, List.drop_succ_cons]

/-- A configuration at the beginning. -/
def cf0 (L k : Nat) : Cf := ⟨(k : Int) + 1, k, chn k L L, alls L, -1⟩
def cfsC (l : List Cf) : List AV := l.flatMap fun c => c.cells none none
def cfs0 (L k : Nat) : List Cf := (List.range k).map (cf0 L)
theorem cfs0_succ (L k : Nat) : cfs0 L (k + 1) = cfs0 L k ++ [cf0 L k] := by simp [cfs0, List.range_succ]
theorem cfsC_append (l m : List Cf) : cfsC (l ++ m) = cfsC l ++ cfsC m := by simp [cfsC]
theorem cfsC_length (l : List Cf) : (cfsC l).length = l.length * 5 := by
  induction l with
  | nil => rfl
  | cons c l ih => simp only [cfsC, List.flatMap_cons, List.length_append, List.length_cons] at *; rw [ih]; simp [Cf.cells]; omega

end Go.Aw
