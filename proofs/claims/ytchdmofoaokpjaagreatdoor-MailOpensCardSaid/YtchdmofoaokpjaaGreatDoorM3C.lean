import Derived.Test.YtchdmofoaokpjaaGreatDoorM3B
namespace Go.Aw
open Go
open Go.Proofs.Tryz (prog)
set_option linter.all false
set_option maxHeartbeats 8000000
set_option maxRecDepth 8000
theorem z0g {T : Tab} {i : Nat} {b : Bs} (hi : T i = .row 1 (K8 b)) (h0 : 0 < b.length) (hn : b.length <= 100000) : ACalls prog Q4 [.sl i 0 b.length none] T (fun v T' => Own T 1 v b.length (K8 b) T') := by
 refine U7 U1 q1f (by simp) ?_
 unfold q0f
 have hy : Z4 T 1 (.sl i 0 b.length none) = some (K8 b) := by
  simp only [Z4, hi, Nat.zero_add, List.drop_zero, Nat.mul_one, true_and]
  rw [if_pos (by rw [Y2]; exact Nat.le_refl _), List.take_of_length_le (by rw [Y2]; exact Nat.le_refl _)]
 have main : ∀ K : AV -> Tab -> Prop, (∀ v T', Own T 1 v b.length (K8 b) T' -> K v T') -> q1k 1 1 T (.fz 0 [] (some 0)) (.sl i 0 b.length none) K := fun K hK =>
  (Own.nil T 1).app (m := b.length) hy rfl (by omega) (by omega) (by simpa using hK)
 simp -implicitDefEqProofs -dsimp only [go_sem, seval]
 refine main _ fun v T' h => ?_
 refine J1 ?_
 obtain ⟨q1, q2, q3, q4, q5, q6⟩ := h.form
 simp -implicitDefEqProofs -dsimp only [go_sem, seval, q1, q2, q3, q4, q5, q6]
 exact h.fin (fun _ _ h => h)
theorem quy {l : List Sn} {junk : List AV} {k : Nat} {s : Sn} (h : l[k]? = some s) : (snC l ++ junk).drop (k * 3) = s.cells ++ (snC (l.drop (k + 1)) ++ junk) := by
 have hk := (List.getElem?_eq_some_iff.1 h).1
 rw [List.drop_append_of_le_length (by rw [q1t]; omega), z48 h, List.append_assoc]
theorem z0h {l : List Sn} {junk : List AV} {k : Nat} {s : Sn} (h : l[k]? = some s) : (snC l ++ junk)[k * 3 + 2]? = some (.sl s.id 0 s.b.length none) /\ (snC l ++ junk)[k * 3]? = some (.i .i64 s.k) := by
 have hc := quy (junk := junk) h
 have e : ∀ j, (snC l ++ junk)[k * 3 + j]? = (s.cells ++ (snC (l.drop (k + 1)) ++ junk))[j]? := fun j => by rw [<- hc, List.getElem?_drop]
 exact ⟨by rw [e 2]; rfl, by have := e 0; rw [Nat.add_zero] at this; rw [this]; rfl⟩
theorem quz {B T : Tab} {id : Nat} {most : Int} {l : List Sn} {v : AV} (h : MS B T id most l v) (k : Int) {s : Sn} (hs : l[(k % l.length).toNat]? = some s) :
  ACalls prog q3x [.ptr id 0, .i .i64 k] T (fun r T' => ∃ w, r = .tup [w, .b true] /\ Own T 1 w s.b.length (K8 s.b) T') := by
 have hP := qly h k
 have t1 := h.row
 have hlt := (List.getElem?_eq_some_iff.1 hs).1
 obtain ⟨i, hi⟩ : ∃ i : Nat, k % (l.length : Int) = i := ⟨(k % (l.length : Int)).toNat, by have := Int.emod_nonneg k (show (l.length : Int) ≠ 0 by omega); omega⟩
 rw [hi, Int.toNat_natCast] at hs hlt
 rw [plR, if_neg (by omega), hi] at hP
 obtain ⟨b1, b2, b3, b4, b5⟩ := h.byt s (List.mem_of_getElem? hs)
 have cC := z0g b1 b4 (by omega)
 rcases h.sl with ⟨rfl, rfl⟩ | ⟨idC, junk, m, rfl, q2, q3, q4, q5, q6⟩
 ·simp at hs
 have hcell := quy (junk := junk) hs
 have hlen : i * 3 + 3 <= (snC l ++ junk).length := by rw [List.length_append, q1t]; omega
 have hg := (z0h (junk := junk) hs).1
 refine U7 U1 qj0 (by simp) ?_
 unfold qbu
 simp -implicitDefEqProofs -dsimp only [go_sem, seval, ↓J0 _ _ q7b]
 refine can hP ?_
 simp -implicitDefEqProofs -dsimp only [go_sem, seval, Bool.not_true, t1, q2, Int.ofNat_lt, hlt, Int.natCast_nonneg, Int.toNat_natCast, hlen, hg, ↓J0 _ _ Z5]
 refine CallK.of cC (fun w T' ho => J1 ?_)
 obtain ⟨q1, q2, q3, q4, q5, q6⟩ := ho.form
 simp -implicitDefEqProofs -dsimp only [go_sem, seval, q1, q2, q3, q4, q5, q6]
 exact Y3 _ (fun _ => .inr (.inl rfl)) ⟨w, rfl, ho⟩
theorem qlz {l : List Sn} {i : Nat} {s : Sn} (h : l[i]? = some s) : snC l = snC (l.take i) ++ (s.cells ++ snC (l.drop (i + 1))) := by
 have hc := z48 h
 have ht : (snC l).take (i * 3) = snC (l.take i) := qqo (f := Sn.cells) (z := 3) (fun _ => rfl) l i
 rw [<- hc, <- ht, List.take_append_drop]
theorem z0i {l : List Sn} {junk : List AV} {k : Nat} (h : k <= l.length) : (snC l ++ junk).drop (k * 3) = snC (l.drop k) ++ junk := by
 have : snC l = snC (l.take k) ++ snC (l.drop k) := by rw [<- qhq, List.take_append_drop]
 rw [List.drop_append_of_le_length (by rw [q1t]; omega)]
 congr 1
 conv => lhs; rw [this]
 rw [List.drop_append, List.drop_of_length_le (by rw [q1t, List.length_take]; omega), q1t, List.length_take, show k * 3 - min k l.length * 3 = 0 by omega, List.drop_zero, List.nil_append]
theorem z3f {l : List Sn} {junk : List AV} {i : Nat} (hi : i < l.length) : q07 (snC l ++ junk) (i * 3) (snC (l.drop (i + 1))) = snC (l.eraseIdx i) ++ (snC l ++ junk).drop ((l.length - 1) * 3) := by
 have hd : (snC (l.drop (i + 1))).length = (l.length - (i + 1)) * 3 := by rw [q1t, List.length_drop]
 have ht : (snC l ++ junk).take (i * 3) = snC (l.take i) := by
  rw [List.take_append_of_le_length (by rw [q1t]; omega)]
  exact qqo (f := Sn.cells) (z := 3) (fun _ => rfl) l i
 rw [q07, ht, List.eraseIdx_eq_take_drop_succ, qhq, hd, show i * 3 + (l.length - (i + 1)) * 3 = (l.length - 1) * 3 by omega]
theorem z49 {T : Tab} {idC : Nat} {l : List Sn} {junk : List AV} {i : Nat} {y : AV} {K : AV -> Tab -> Prop} (hT : T idC = .row 3 (snC l ++ junk)) (hi : i < l.length) (hl : l.length <= 2000)
  (hy : Z4 T 3 y = some (snC (l.drop (i + 1)))) (hm : q0a y = l.length - (i + 1))
  (hk : K (.sl idC 0 (l.length - 1) none) (T.put idC (.row 3 (snC (l.eraseIdx i) ++ (snC l ++ junk).drop ((l.length - 1) * 3))))) : q1k 3 40 T (.sl idC 0 i none) y K := by
 unfold q1k
 rw [hy]
 simp only [hT, hm, true_and, Nat.zero_add]
 have hlen : (snC l ++ junk).length = l.length * 3 + junk.length := by rw [List.length_append, q1t]
 rw [if_neg (by omega), z3f hi, show i + (l.length - (i + 1)) = l.length - 1 by omega]
 exact ⟨by omega, hk⟩
theorem zes {T : Tab} {id z o n : Nat} {cells zero : List AV} {cap : Option Nat} {k : AV -> Tab -> Prop} {h : Hold k} (hT : T id = .row z cells) (hz : zero.length = z) (hl : o + n * z <= cells.length)
  (h2 : k (.tup []) (T.put id (.row z (q07 cells o (rep zero n))))) : clS z zero (some (.sl id o n cap)) T h := by
 simp only [clS, hT]
 exact ⟨trivial, hz, hl, h2⟩
theorem qwm {T : Tab} {idC : Nat} {l : List Sn} {junk : List AV} {i : Nat} {s : Sn} (hT : T idC = .row 3 (snC l ++ junk)) (hs : l[i]? = some s) (hl : l.length <= 2000) :
  ACalls prog G3 [.sl idC 0 l.length none, .i .i64 i, .i .i64 ((i + 1 : Nat) : Int)] T (fun r T' => r = .sl idC 0 (l.eraseIdx i).length none /\ T' = T.put idC (.row 3 (snC (l.eraseIdx i) ++ ([.i .i64 0, .i .i64 0, .fz 0 [] (some 0)] ++ junk)))) := by
 have hlt := (List.getElem?_eq_some_iff.1 hs).1
 have he : (l.eraseIdx i).length = l.length - 1 := List.length_eraseIdx_of_lt hlt
 have hsp := qlz hs
 have hne : decide ((i : Int) = ((i + 1 : Nat) : Int)) = false := decide_eq_false (by omega)
 have hi1 : ¬ ((i + 1 : Nat) : Int) < 0 := by omega
 have hle1 : i + 1 <= l.length := hlt
 refine U7 U1 q64 (by simp) ?_
 unfold q23
 have k1 : (i <= i + 1 /\ i + 1 <= l.length /\ l.length <= l.length /\ (some (AV.i .i64 ((i + 1 : Nat) : Int))).isSome = true) = True := eq_true ⟨by omega, hlt, Nat.le_refl _, rfl⟩
 have k2 : (i < i + 1 \/ i = 0) = True := eq_true (.inl (by omega))
 have k3 : (0 <= i /\ (i <= l.length \/ z4a none 0 3 (snC l ++ junk).length i = true)) = True := eq_true ⟨by omega, .inl (by omega)⟩
 have k4 : (i + 1 <= l.length /\ (l.length <= l.length \/ z4a none 0 3 (snC l ++ junk).length l.length = true)) = True := eq_true ⟨by omega, .inl (Nat.le_refl _)⟩
 have hX : (snC (l.eraseIdx i) ++ (snC l ++ junk).drop ((l.length - 1) * 3)).length = (snC l ++ junk).length := by
  simp only [List.length_append, List.length_drop, q1t, he]; omega
 have hcl : q07 (snC (l.eraseIdx i) ++ (snC l ++ junk).drop ((l.length - 1) * 3)) ((l.length - 1) * 3) [.i .i64 0, .i .i64 0, .fz 0 [] (some 0)] = snC (l.eraseIdx i) ++ ([.i .i64 0, .i .i64 0, .fz 0 [] (some 0)] ++ junk) := by
  have e1 : (snC (l.eraseIdx i)).length = (l.length - 1) * 3 := by rw [q1t, he]
  rw [q07, List.take_append_of_le_length (by omega), List.take_of_length_le (by omega), List.drop_append, List.drop_of_length_le (by omega), List.nil_append, List.drop_drop, e1]
  rw [show (l.length - 1) * 3 + ((l.length - 1) * 3 + [AV.i .i64 0, .i .i64 0, .fz 0 [] (some 0)].length - (l.length - 1) * 3) = l.length * 3 by simp only [List.length_cons, List.length_nil]; omega]
  rw [List.drop_append, List.drop_of_length_le (by rw [q1t]; omega), q1t, Nat.sub_self, List.drop_zero, List.nil_append, List.append_assoc]
 have k6 : (l.length - 1 <= l.length /\ (l.length <= l.length - 1 \/ z4a none 0 3 (snC (l.eraseIdx i) ++ (snC l ++ junk).drop ((l.length - 1) * 3)).length l.length = true)) = True := eq_true ⟨by omega, .inr (by
  rw [hX]
  simp only [z4a, List.length_append, q1t, Bool.and_eq_true, decide_eq_true_eq]
  omega)⟩
 have k7 : (l.length - 1 < l.length \/ l.length - 1 = 0) = True := eq_true (.inl (by omega))
 have k8 : l.length - (l.length - 1) = 1 := by omega
 have k9 : (l.length - 1) * 3 + 1 * 3 <= (snC (l.eraseIdx i) ++ (snC l ++ junk).drop ((l.length - 1) * 3)).length := by
  simp only [hX, List.length_append, q1t]
  omega
 by_cases hend : i + 1 = l.length
 ·have k5 : (i + 1 < l.length \/ False) = False := eq_false (fun h => h.elim (fun h => by omega) id)
  simp -implicitDefEqProofs -dsimp only [go_sem, seval, hT, bnd, Int.natCast_nonneg, Int.toNat_natCast, k1, k2, k3, k4, k5, or_true, hne]
  refine z49 hT hlt hl (by rw [List.drop_of_length_le (by omega)]; rfl) (by simp only [q0a]; omega) (J1 ?_)
  generalize snC (l.eraseIdx i) ++ (snC l ++ junk).drop ((l.length - 1) * 3) = X at *
  simp -implicitDefEqProofs -dsimp only [go_sem, seval, Tab.put_same, bnd, Int.natCast_nonneg, Int.toNat_natCast, k6, k7, k8]
  refine zes (Tab.put_same ..) rfl k9 (J1 ?_)
  rw [Tab.put_put, show rep [AV.i .i64 0, .i .i64 0, .fz 0 [] (some 0)] 1 = [.i .i64 0, .i .i64 0, .fz 0 [] (some 0)] from rfl, hcl]
  simp -implicitDefEqProofs -dsimp only [go_sem, seval]
  exact Y3 _ (fun _ => .inr (.inl rfl)) ⟨by rw [he], rfl⟩
 ·have k5 : (i + 1 < l.length \/ False) = True := eq_true (.inl (by omega))
  simp -implicitDefEqProofs -dsimp only [go_sem, seval, hT, bnd, Int.natCast_nonneg, Int.toNat_natCast, k1, k2, k3, k4, k5, or_true, hne]
  refine z49 hT hlt hl ?_ (by simp only [q0a]) (J1 ?_)
  ·simp only [Z4, hT, true_and]
   rw [if_pos (by rw [List.length_append, q1t]; omega), z0i (by omega), List.take_append_of_le_length (by rw [q1t, List.length_drop]; omega), List.take_of_length_le (by rw [q1t, List.length_drop]; omega)]
  generalize snC (l.eraseIdx i) ++ (snC l ++ junk).drop ((l.length - 1) * 3) = X at *
  simp -implicitDefEqProofs -dsimp only [go_sem, seval, Tab.put_same, bnd, Int.natCast_nonneg, Int.toNat_natCast, k6, k7, k8]
  refine zes (Tab.put_same ..) rfl k9 (J1 ?_)
  rw [Tab.put_put, show rep [AV.i .i64 0, .i .i64 0, .fz 0 [] (some 0)] 1 = [.i .i64 0, .i .i64 0, .fz 0 [] (some 0)] from rfl, hcl]
  simp -implicitDefEqProofs -dsimp only [go_sem, seval]
  exact Y3 _ (fun _ => .inr (.inl rfl)) ⟨by rw [he], rfl⟩
theorem MS.tr {B T : Tab} {id : Nat} {most : Int} {l : List Sn} {v : AV} (h : MS B T id most l v) {j : Nat} (hj : T j = .unused) (s : Slot) : MS B (T.put j s) id most l v := by
 have ne : ∀ i, T i ≠ .unused -> i ≠ j := fun i hi e => hi (e ▸ hj)
 refine ⟨by rw [Tab.put_ne _ _ (ne id (by rw [h.row]; simp))]; exact h.row, ?_, h.bid, fun x hx => ?_, h.nd, h.le.put (h.le.unused hj), h.len, h.mo⟩
 ·rcases h.sl with q | ⟨idC, junk, m, q1, q2, q3, q4, q5, q6⟩
  ·exact .inl q
  ·exact .inr ⟨idC, junk, m, q1, by rw [Tab.put_ne _ _ (ne idC (by rw [q2]; simp))]; exact q2, q3, q4, q5, q6⟩
 ·obtain ⟨q1, q2, q3, q4⟩ := h.byt x hx
  exact ⟨by rw [Tab.put_ne _ _ (ne x.id (by rw [q1]; simp))]; exact q1, q2, q3, q4⟩
theorem qv0 {B T : Tab} {id : Nat} {most : Int} {l : List Sn} {v : AV} (h : MS B T id most l v) (k : Int) {s : Sn} (hs : l[(k % l.length).toNat]? = some s) :
  ACalls prog q3y [.ptr id 0, .i .i64 k] T (fun r T' => ∃ w T1 v', r = .tup [w, .b true] /\ Own T1 1 w s.b.length (K8 s.b) T' /\ MS B T1 id most (l.eraseIdx (k % l.length).toNat) v') := by
 have hC := quz h k hs
 have hlt := (List.getElem?_eq_some_iff.1 hs).1
 obtain ⟨i, hi⟩ : ∃ i : Nat, k % (l.length : Int) = i := ⟨(k % (l.length : Int)).toNat, by have := Int.emod_nonneg k (show (l.length : Int) ≠ 0 by omega); omega⟩
 rw [hi, Int.toNat_natCast] at hs hlt ⊢
 have hl2 := h.len
 refine U7 U1 qj2 (by simp) ?_
 unfold qbv
 simp -implicitDefEqProofs -dsimp only [go_sem, seval, ↓J0 _ _ q7x]
 refine CallK.of hC (fun r T1 ⟨w, e1, ho⟩ => J1 ?_)
 subst e1
 obtain ⟨p1, p2, p3, p4, p5, p6⟩ := ho.form
 obtain ⟨b1, b2, b3, b4, b5⟩ := h.byt s (List.mem_of_getElem? hs)
 obtain ⟨wi, rfl, hwi, hT1⟩ := ho.ne b4
 have h1 : MS B T1 id most l v := by rw [hT1]; exact h.tr hwi _
 have hP := qly h1 k
 rw [plR, if_neg (by omega), hi] at hP
 have t1 := h1.row
 have hw1 : IntKind.i64.wrap ((i : Int) + 1) = ((i + 1 : Nat) : Int) := O8 (by omega)
 rcases h1.sl with ⟨rfl, rfl⟩ | ⟨idC, junk, m, rfl, q2, q3, q4, q5, q6⟩
 ·simp at hs
 have hD := qwm q2 hs hl2
 have t2 : (T1.put idC (.row 3 (snC (l.eraseIdx i) ++ ([.i .i64 0, .i .i64 0, .fz 0 [] (some 0)] ++ junk)))) id = .row 2 [.i .i64 most, .sl idC 0 l.length none] := by rw [Tab.put_ne _ _ (Ne.symm q5)]; exact t1
 simp -implicitDefEqProofs -dsimp only [go_sem, seval, ↓J0 _ _ q7b]
 refine can hP ?_
 simp -implicitDefEqProofs -dsimp only [go_sem, seval, t1, hw1, ↓J0 _ _ q65]
 refine can hD ?_
 simp -implicitDefEqProofs -dsimp only [go_sem, seval]
 refine q11 t2 rfl rfl (by simp) (J1 ?_)
 simp -implicitDefEqProofs -dsimp only [go_sem, seval]
 have er : (l.eraseIdx i).Sublist l := List.eraseIdx_sublist l i
 have c1 : T idC = .row 3 (snC l ++ junk) := by
  have n1 : idC ≠ wi := fun e => by
   have := q6
   rw [hT1, e, Tab.put_same] at q2
   injection q2 with z1 z2
   cases z1
  rw [hT1, Tab.put_ne _ _ n1] at q2; exact q2
 have n1 : idC ≠ wi := fun e => by rw [e, hwi] at c1; cases c1
 have n2 : id ≠ wi := fun e => by have := h.row; rw [e, hwi] at this; cases this
 have u1 : ((T.put idC (.row 3 (snC (l.eraseIdx i) ++ ([.i .i64 0, .i .i64 0, .fz 0 [] (some 0)] ++ junk)))).put id (.row 2 [.i .i64 most, .sl idC 0 (l.eraseIdx i).length none])) wi = .unused := by
  rw [Tab.put_ne _ _ (Ne.symm n2), Tab.put_ne _ _ (Ne.symm n1)]; exact hwi
 refine Y3 _ (fun _ => .inr (.inl rfl)) ⟨_, (T.put idC (.row 3 (snC (l.eraseIdx i) ++ ([.i .i64 0, .i .i64 0, .fz 0 [] (some 0)] ++ junk)))).put id (.row 2 [.i .i64 most, .sl idC 0 (l.eraseIdx i).length none]), _, rfl, ⟨?_, .inr ⟨wi, rfl, u1, ?_⟩⟩, ⟨Tab.put_same .., .inr ⟨idC, [.i .i64 0, .i .i64 0, .fz 0 [] (some 0)] ++ junk, m + 1, rfl, ?_, ?_, q4, q5, fun x hx => q6 x (er.subset hx)⟩, h.bid, fun x hx => ?_, h.nd.sublist (er.map _), (h.le.put q4).put h.bid, ?_, h.mo⟩⟩
 ·rw [Y2, Nat.mul_one]
 ·rw [hT1, Tab.put_comm _ (Ne.symm n1), Tab.put_comm _ (Ne.symm n2)]; rfl
 ·rw [Tab.put_ne _ _ q5, Tab.put_same]
 ·rw [List.length_append, q3]; simp only [List.length_cons, List.length_nil]; omega
 ·obtain ⟨z1, z2, z3, z4⟩ := h.byt x (er.subset hx)
  exact ⟨by rw [Tab.put_ne _ _ z3, Tab.put_ne _ _ (q6 x (er.subset hx))]; exact z1, z2, z3, z4⟩
 ·exact Nat.le_trans er.length_le hl2
end Go.Aw
