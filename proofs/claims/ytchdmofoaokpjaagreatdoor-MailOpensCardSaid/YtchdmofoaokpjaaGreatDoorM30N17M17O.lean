import Derived.Test.YtchdmofoaokpjaaGreatDoorM30N17T16J
namespace Go.Aw
open Go
set_option linter.all false
set_option maxHeartbeats 8000000
set_option maxRecDepth 8000
theorem qun (t : Tx) : txE t t = true := by
 simp only [txE, decide_true, Bool.true_and]
 rw [q9m (e := rdE) (fun x => by simp [rdE]), q9m (e := wtE) (fun x => by simp [wtE])]; rfl
theorem z25 (l : List Vt) : eqL vtE l l = true := q9m (fun x => by simp [vtE]) l
theorem z26 (l : List Cf) : eqL cfE l l = true := q9m (fun x => by
 simp only [cfE, decide_true, Bool.true_and]
 rw [q9m (e := qyx) (fun x => by simp [qyx]), q9m (e := qlb) (fun x => by simp [qlb])]; rfl) l
theorem z27 (l : List En) : eqL enE l l = true := q9m (fun x => by
 simp only [enE, decide_true, Bool.true_and, qun]) l
theorem z28 (l : Lt Cf) : ltE l l = true := by
 simp only [ltE, decide_true, Bool.true_and, qun, z25, z26, z27]
end Go.Aw
