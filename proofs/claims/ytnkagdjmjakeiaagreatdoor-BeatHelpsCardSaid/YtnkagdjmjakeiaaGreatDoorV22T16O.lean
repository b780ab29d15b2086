import Derived.Test.YtnkagdjmjakeiaaGreatDoorV22T16N
namespace Go.Aw
open Go
open Go.Proofs.Tryz (prog)
set_option linter.all false
set_option maxHeartbeats 4000000
theorem qhj {xs : List Int} : ∀ (ys : List Int) (k : Nat), xs.drop k = ys -> qla xs ys k = true -> (xs.take k).Nodup -> k <= xs.length -> xs.Nodup
 | [], k, hk, _, hn, hle => by
  have := q18 hk hle
  rwa [List.take_of_length_le (by omega)] at hn
 | y :: ys, k, hk, h, hn, hle => by
  obtain ⟨hlt, hy, hk'⟩ := q1e hk
  simp only [qla, Bool.and_eq_true, Bool.not_eq_true', qbe, decide_eq_false_iff_not] at h
  refine qhj ys (k + 1) hk' h.2 ?_ hlt
  rw [q6z hy, List.nodup_append]
  refine ⟨hn, by simp, ?_⟩
  intro a ha b hb e
  simp at hb
  subst hb; subst e
  exact h.1.2 ha
structure Agree (r : Cf × Int) (s : Rf × Int) : Prop where
 e : r.2 = s.2
 pl : r.1.plain = s.1
 len : r.1.fu.length = r.1.ch.length
 le : r.1.ch.length <= 9
section
variable {o : Cf} (hf : o.fu.length = o.ch.length)
include hf
theorem qpp (hr : o.right = true) : o.ln = -1 \/ (0 <= o.ln /\ o.ln < 8 /\ ¬ o.ln ∈ o.ch) := by
 simp only [Cf.right, Bool.and_eq_true, Bool.not_eq_true', decide_eq_false_iff_not, Bool.not_eq_false', decide_eq_true_eq, Bool.and_eq_false_iff, Bool.or_eq_false_iff, srv, qbe] at hr
 rcases hr.1.2 with h | h
 ·exact .inl h
 ·exact .inr ⟨h.1.1, h.1.2, h.2⟩
theorem qhk (hr : o.right = true) : qla o.ch o.ch 0 = true := by
 simp only [Cf.right, Bool.and_eq_true] at hr; exact hr.2
theorem qj2 (hr : o.right = true) : o.ch.Nodup := qhj o.ch 0 rfl (qhk hf hr) (by simp) (by omega)
theorem ql0 (hr : o.right = true) : o.fu[0]? = some true := by
 obtain ⟨r1, r2, r3⟩ := Cf.right_len hr
 simp only [Cf.right, Bool.and_eq_true, Bool.not_eq_true', Bool.not_eq_false'] at hr
 have := hr.1.1.2
 rw [List.getElem?_eq_getElem (by omega)] at this ⊢
 simpa using this
end
end Go.Aw
