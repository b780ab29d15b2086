import Derived.Test.YtmicojcojlgefaaC29M
import Derived.Test.YtmicojcojlgefaaK29M17Arg
import Derived.Test.YtmicojcojlgefaaC29R
namespace Go.Aw
open Go
open Go.Proofs.Try (prog)
set_option linter.all false
set_option maxHeartbeats 8000000
set_option maxRecDepth 8000

/-! The laws: which ops may be asked; a client that is not there. -/
structure Ev where
  k : Int
  o : Cp
  l : Lt Rf
def evC (e : Ev) : List AV := [.i .i64 e.k, .i .i64 e.o.k, .s e.o.key, .s e.o.v, .fz e.o.rs.length (e.o.rs.flatMap rdC) none, .fz e.o.ws.length (e.o.ws.flatMap wtC) none] ++ e.l.cells rfL
structure Ev.Arg (e : Ev) : Prop where
  o : e.o.Wide
  l : e.l.Arg
end Go.Aw

namespace Go.Aw
open Go
open Go.Proofs.Try (prog)
set_option linter.all false
set_option maxHeartbeats 8000000
set_option maxRecDepth 8000

/-! A letter of the law's. -/
theorem lenLe {n m : Nat} (h : n ≤ m) (hm : m < 9223372036854775808 := by decide) : Len n := by unfold Len; omega
theorem Lt.Fine.small {l : Lt Cf} (h : l.Fine) : l.Small := by
  obtain ⟨w1, w2, w3, w4, w5, w6, w7, w8⟩ := h
  exact ⟨lenLe w1, lenLe w2, lenLe w3, lenLe (Nat.le_of_lt w7.r), lenLe (Nat.le_of_lt w7.w), fun c hc => ⟨lenLe (w5 c hc).1, by rw [(w5 c hc).2]; exact lenLe (w5 c hc).1⟩, fun e he => w6 e he⟩
/-! Rows that stay. -/
theorem Ct.mono {T T1 : Tab} {id r l w x : Nat} {c : Cl} (h : Ct T id r l w x c) (hm : ∀ j, T j ≠ .unused → T1 j = T j) : Ct T1 id r l w x c := by
  refine ⟨?_, ⟨?_, ?_⟩, ?_, ?_⟩
  · rw [hm id (by rw [h.cr]; simp [clRow])]; exact h.cr
  · rw [hm r (by rw [h.rt.1]; simp)]; exact h.rt.1
  · rw [hm l (by rw [h.rt.2]; simp)]; exact h.rt.2
  · intro o ho
    rw [hm w (by rw [h.cw o ho]; simp [wRow])]; exact h.cw o ho
  · intro y hy
    obtain ⟨h1, h2⟩ := h.cy y hy
    exact ⟨by rw [hm x (by rw [h1]; simp [rRow])]; exact h1, h2⟩
theorem Own.keeps {B T1 : Tab} {z n : Nat} {v : AV} {xs : List AV} (h : Own B z v n xs T1) : ∀ j, B j ≠ .unused → T1 j = B j := fun j hj => Own.at h hj
end Go.Aw

