import Derived.Test.YtmicojcojlgefaaGreatZ29R28J
namespace Go.Aw
open Go
open Go.Proofs.Tryz (prog)
set_option linter.all false
set_option maxHeartbeats 4000000
def Rt (T : Tab) (id idL : Nat) (l : List Cf) : Prop := T id = .row 1 [.sl idL 0 l.length none] /\ T idL = .row 5 (qk1 l)
theorem Rt.ne {T : Tab} {id idL : Nat} {l : List Cf} (h : Rt T id idL l) : id ≠ idL := fun e => by
 have := h.1; rw [e, h.2] at this; cases this
def Cf.nil : Cf := ⟨0, 0, [], [], 0⟩
def at? (l : List Cf) (k : Int) : Option Cf := if 0 <= k then l[k.toNat]? else none
def cfR (l : List Cf) (k : Int) : AV := match at? l k with
 | some c => .tup [.agg (c.cells none none), .b true]
 | none => .tup [.agg (Cf.nil.cells (some 0) (some 0)), .b false]
def q6r (c : Cf) : Prop := c.ch.length <= 1000000000 /\ c.fu.length <= 1000000000
theorem qvy {l : List Cf} {k : Nat} {c : Cf} (h : l[k]? = some c) : (qk1 l).drop (k * 5) = c.cells none none ++ qk1 (l.drop (k + 1)) := by
 induction l generalizing k with
 | nil => simp at h
 | cons a l ih =>
  cases k with
  | zero => simp at h; subst h; simp [qk1]
  | succ k =>
   have := ih (k := k) (by simpa using h)
   have e : qk1 (a :: l) = a.cells none none ++ qk1 l := by simp [qk1]
   have e5 : (a.cells none none).length = 5 := rfl
   rw [e, List.drop_succ_cons, <- this, show (k + 1) * 5 = (a.cells none none).length + k * 5 by omega, List.drop_length_add_append]
theorem z0j {T : Tab} {id idL : Nat} {l : List Cf} (hR : Rt T id idL l) (hl : ∀ c ∈ l, q6r c) (k : Int) : ACalls prog q3h [.ptr id 0, .i .i64 k] T (fun r T' => r = cfR l k /\ T' = T) := by
 obtain ⟨t1, t2⟩ := hR
 refine U9 Q7 qmd (by simp) ?_
 unfold qe6
 simp -implicitDefEqProofs -dsimp only [go_sem, seval, t1]
 refine J2 (fun h1 => ?_) (fun h1 => ?_)
 ·have := of_decide_eq_true h1
  simp -implicitDefEqProofs -dsimp only [go_sem, seval, h1]
  refine q80 ?_ rfl
  rw [cfR, at?, if_neg (by omega)]; exact .refl _
 have d1 := of_decide_eq_false h1
 simp -implicitDefEqProofs -dsimp only [go_sem, seval, h1, t1]
 refine J2 (fun h2 => ?_) (fun h2 => ?_)
 ·have := of_decide_eq_true h2
  simp -implicitDefEqProofs -dsimp only [go_sem, seval, h2]
  refine q80 ?_ rfl
  rw [cfR, at?, if_pos (by omega), List.getElem?_eq_none (by omega)]; exact .refl _
 have d2 := of_decide_eq_false h2
 have hlt : k.toNat < l.length := by omega
 have hget : l[k.toNat]? = some l[k.toNat] := List.getElem?_eq_getElem hlt
 have hcell := qvy hget
 have hlen : k.toNat * 5 + 5 <= (qk1 l).length := by rw [qll]; omega
 generalize hc : l[k.toNat] = c at hget hcell
 have hs : q6r c := hl c (by rw [<- hc]; exact List.getElem_mem hlt)
 have k0 : 0 <= k := by omega
 have k1 : k < l.length := by omega
 simp -implicitDefEqProofs -dsimp only [go_sem, seval, h2, t1, t2, k0, k1, hlen, hcell, Cf.cells, List.cons_append, List.nil_append, ↓J0 _ _ qk8]
 refine cpn (qrv c none none hs.1 hs.2) ?_
 simp -implicitDefEqProofs -dsimp only [go_sem, seval, Cf.cells]
 refine q80 ?_ rfl
 rw [cfR, at?, if_pos k0, hget]; exact .refl _
def lrn (l : List Cf) (c : Cf) : Bool := match at? l c.sh with
 | some o => c.right && decide (o.ep < c.ep)
 | none => false
def qv0 (l : List Cf) (c : Cf) : List Cf := if lrn l c = true then l.set c.sh.toNat c else l
theorem z39 {l : List Cf} {k : Nat} (h : k < l.length) (c : Cf) : q0o (qk1 l) (k * 5) (c.cells none none) = qk1 (l.set k c) := by
 induction l generalizing k with
 | nil => simp at h
 | cons a l ih =>
  have e : ∀ (a : Cf) (l : List Cf), qk1 (a :: l) = a.cells none none ++ qk1 l := fun a l => by simp [qk1]
  cases k with
  | zero => simp [e, q0o, Cf.cells]
  | succ k =>
   have := ih (k := k) (by simpa using h)
   simp only [q0o] at this ⊢
   rw [List.set_cons_succ, e, e, <- this]
   have e5 : (a.cells none none).length = 5 := rfl
   rw [show (k + 1) * 5 = (a.cells none none).length + k * 5 by omega, List.take_length_add_append, Nat.add_assoc, List.drop_length_add_append]
   simp only [List.append_assoc]
theorem z3a {T : Tab} {id idL : Nat} {l : List Cf} (hR : Rt T id idL l) (hl : ∀ c ∈ l, q6r c) (c : Cf) (k1 k2 : Option Nat) (hc : q6r c) (hn : ∀ c ∈ l, 0 <= c.ep) : ACalls prog q53 [.ptr id 0, .agg (c.cells k1 k2)] T
  (fun r T' => r = .b (lrn l c) /\ T' = T.put idL (.row 5 (qk1 (qv0 l c)))) := by
 refine U9 Q7 qkw (by simp) ?_
 have hself : ∀ b, lrn l c = b -> b = false -> T = T.put idL (.row 5 (qk1 (qv0 l c))) := fun b h1 h2 => by
  rw [qv0, if_neg (by rw [h1, h2]; simp)]; exact (Tab.put_self hR.2).symm
 unfold qcv
 simp -implicitDefEqProofs -dsimp only [go_sem, seval, Cf.cells, ↓J0 _ _ qe7]
 refine can (z0j hR hl c.sh) ?_
 rcases hat : at? l c.sh with _ | o
 ·have hl' : lrn l c = false := by rw [lrn, hat]
  rw [cfR, hat]
  simp -implicitDefEqProofs -dsimp only [go_sem, seval, Cf.cells, Cf.nil]
  refine q80 ?_ (hself _ hl' rfl)
  rw [hl']; exact .refl _
 have hl' : lrn l c = (c.right && decide (o.ep < c.ep)) := by rw [lrn, hat]
 have hcR := q7z c k1 k2 (by unfold Len; have := hc.1; omega)
 simp only [Cf.cells] at hcR
 rw [cfR, hat]
 simp -implicitDefEqProofs -dsimp only [go_sem, seval, Cf.cells, ↓J0 _ _ q24, ↓N1]
 refine cpn hcR ?_
 simp -implicitDefEqProofs -dsimp only [go_sem, seval]
 refine J2 (fun h1 => ?_) (fun h1 => ?_)
 ·have h1' : c.right = false := by simpa using h1
  have hf : lrn l c = false := by rw [hl', h1']; rfl
  simp -implicitDefEqProofs -dsimp only [go_sem, seval, h1]
  refine q80 ?_ (hself _ hf rfl)
  rw [hf]; exact .refl _
 have h1' : c.right = true := by simpa using h1
 simp -implicitDefEqProofs -dsimp only [go_sem, seval, h1]
 refine J2 (fun h2 => ?_) (fun h2 => ?_)
 ·have h2' := of_decide_eq_true h2
  have hf : lrn l c = false := by rw [hl', decide_eq_false (by omega), Bool.and_false]
  simp -implicitDefEqProofs -dsimp only [go_sem, seval, h2]
  refine q80 ?_ (hself _ hf rfl)
  rw [hf]; exact .refl _
 have h2' := of_decide_eq_false h2
 have hf : lrn l c = true := by rw [hl', h1', decide_eq_true (by omega)]; rfl
 obtain ⟨t1, t2⟩ := hR
 have hat' := hat
 unfold at? at hat'
 split at hat'
 case isFalse => cases hat'
 rename_i k0
 have hlt : c.sh.toNat < l.length := (List.getElem?_eq_some_iff.1 hat').1
 have hlen : c.sh.toNat * 5 + 5 <= (qk1 l).length := by rw [qll]; omega
 have k1' : c.sh < l.length := by omega
 have hcp := qrv c k1 k2 hc.1 hc.2
 simp only [Cf.cells] at hcp
 simp -implicitDefEqProofs -dsimp only [go_sem, seval, h2, t1, ↓J0 _ _ qk8]
 refine CallK.pure hcp (qk4 (fun _ => ⟨?_, trivial⟩) ?_)
 ·simp -implicitDefEqProofs -dsimp only [go_sem, seval, qdk, gdd, t1]
 simp -implicitDefEqProofs -dsimp only [go_sem, seval, k0, k1', Cf.cells]
 refine q4h t2 rfl rfl (by simpa using hlen) ?_
 refine J1 ?_
 simp -implicitDefEqProofs -dsimp only [go_sem, seval]
 refine q80 (by rw [hf]; exact .refl _) ?_
 rw [qv0, if_pos hf, <- z39 hlt c]; rfl
end Go.Aw
