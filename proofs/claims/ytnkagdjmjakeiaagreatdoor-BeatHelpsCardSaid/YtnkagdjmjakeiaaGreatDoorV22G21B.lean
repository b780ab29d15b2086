import Derived.Test.YtnkagdjmjakeiaaGreatDoorV22G21A
namespace Go.Aw
open Go
open Go.Proofs.Tryz (prog)
set_option linter.all false
set_option maxHeartbeats 4000000
def Suf (b : List UInt8) (s : RS) : Prop := s.1.length <= b.length /\ b.drop (b.length - s.1.length) = s.1
theorem Suf.most {b : List UInt8} {s : RS} (h : Suf b s) (k : Nat) : Suf b (q1l k s).2 := by
 obtain ⟨h1, h2⟩ := h
 unfold q1l
 split
 ·exact ⟨h1, h2⟩
 ·split
  ·split
   ·rename_i n z hd hle
    obtain ⟨_, q, _⟩ := qfj hd
    refine ⟨by simp only [List.length_drop]; omega, ?_⟩
    simp only [List.length_drop]
    rw [<- h2, List.drop_drop]
    congr 1
    rw [h2]
    omega
   ·exact ⟨h1, h2⟩
  ·exact ⟨h1, h2⟩
end Go.Aw
