import Derived.Test.YtpbnmegmhhkloaaDoorW6K
namespace Go.Aw
open Go
open Go.Proofs.Tryd (prog)
set_option linter.all false
set_option maxHeartbeats 8000000
set_option maxRecDepth 8000
theorem qkx {T0 Ta : Tab} {z n did lid : Nat} {v : AV} {xs : List AV} {d : Dk} {w : Wl} (h : Own T0 z v n xs Ta) (h1 : ∀ j, T0 j = .unused -> Ta j ≠ .unused -> j ≠ did /\ j ≠ lid) : Own (tL T0 did lid d w) z v n xs (tL Ta did lid d w) := by
 refine ⟨h.1, ?_⟩
 rcases h.2 with ⟨e1, e2, rfl⟩ | ⟨j, e1, e2, rfl⟩
 ·exact .inl ⟨e1, e2, rfl⟩
 ·obtain ⟨n1, n2⟩ := h1 j e2 (by rw [Tab.put_same]; simp)
  refine .inr ⟨j, e1, ?_, ?_⟩
  ·unfold tL; rw [Tab.put_ne _ _ n2, Tab.put_ne _ _ n1]; exact e2
  ·unfold tL
   rw [Tab.put_comm _ n1, Tab.put_comm _ n2]
theorem qhg {T0 T2 : Tab} {z n did lid : Nat} {v : AV} {xs : List AV} {d : Dk} {w : Wl} (h : Own (tL T0 did lid d w) z v n xs T2) (hd : T0 did ≠ .unused) (hl : T0 lid ≠ .unused) : ∃ Ta, T2 = tL Ta did lid d w /\ Own T0 z v n xs Ta := by
 obtain ⟨h0, h2⟩ := h
 rcases h2 with ⟨e1, e2, rfl⟩ | ⟨j, e1, e2, rfl⟩
 ·exact ⟨T0, rfl, h0, .inl ⟨e1, e2, rfl⟩⟩
 ·unfold tL qsx at e2
  obtain ⟨n2, e2⟩ := Tab.unused_put e2
  obtain ⟨n1, e2⟩ := Tab.unused_put e2
  refine ⟨T0.put j (.row z xs), ?_, h0, .inr ⟨j, e1, e2, rfl⟩⟩
  unfold tL
  rw [Tab.put_comm _ n1, Tab.put_comm _ n2]
theorem qn9 {T0 Ta : Tab} {z n did lid : Nat} {v : AV} {xs : List AV} (h : Own T0 z v n xs Ta) (hd : T0 did ≠ .unused) (hl : T0 lid ≠ .unused) : ∀ j, T0 j = .unused -> Ta j ≠ .unused -> j ≠ did /\ j ≠ lid := fun j h1 _ => ⟨fun e => by subst e; exact hd h1, fun e => by subst e; exact hl h1⟩
theorem qvg {e : Env} {L : Loc} {T T1 : Tab} {z n : Nat} {v : AV} {xs : List AV} {K : Env -> Loc -> Tab -> Prop} {h : Hold K} (hg : Gr T z v n xs T1) (hk : ∀ S cap, (∀ id ∈ S, T id = .unused) -> frX T1 S v = .fz n xs cap -> K (frE T1 S e) L T) : gzS e L T1 h := by
 rcases hg with ho | ⟨rfl, h2, rfl⟩
 ·obtain ⟨S, k1, k2, k3, k4⟩ := (Owns.one ho).fin
  refine qn0 S k1 (fun id hid => (k2 id hid).1) ?_
  rw [k3]
  obtain ⟨cap, hc⟩ := k4 _ (List.mem_cons_self ..)
  exact hk S cap (fun id hid => (k2 id hid).2) (by rw [ho.frX]; exact hc)
 ·refine qn0 [] List.nodup_nil (by simp) ?_
  exact hk [] (some n) (by simp) rfl
theorem qp6 {T0 Ta T2 : Tab} {z n : Nat} {v : AV} {xs : List AV} {S : List Nat} (h : Own T0 z v n xs Ta) (hS : ∀ id ∈ S, Ta id = .unused) : frX T2 S v = v := by
 rcases h.2 with ⟨rfl, _⟩ | ⟨j, rfl, e2, rfl⟩
 ·rfl
 ·have hj : j ∉ S := fun hm => by have := hS j hm; rw [Tab.put_same] at this; cases this
  simp [frX, qf6, q65, q64, hj]
theorem qky {T : Tab} {S : List Nat} {n : Nat} {c : List AV} {k : Option Nat} : frX T S (.fz n c k) = .fz n c k := rfl
structure Fu (d : Dk) (all : List Bs) (r : Int) : Prop where
 un : Un d
 room : d.room = r
 a0 : d.a0.b = G1 (N4 1 0 :: all)
 a1 : d.a1.b = []
 left : d.left = 0
 recs : ∀ q ∈ all, okF q
end Go.Aw
