import Derived.Test.YtchdmofoaokpjaaGreatDoorM30Q17K
import Derived.Test.YtchdmofoaokpjaaGreatDoorM30Q17H
import Derived.Test.YtchdmofoaokpjaaGreatDoorM30N17F04Y
namespace Go.Aw
open Go
open Go.Proofs.Tryz (prog)
set_option linter.all false
set_option maxHeartbeats 8000000
set_option maxRecDepth 8000
def OB (T : Tab) (b : Bs) (v : AV) (T1 : Tab) : Prop := ∃ rest, Owns T (⟨1, v, b.length, K8 b⟩ :: rest) T1
theorem OB.form {T T1 : Tab} {b : Bs} {v : AV} (h : OB T b v T1) : Frm v := by
 obtain ⟨r, h⟩ := h
 exact h.form (List.mem_cons_self ..)
theorem OB.nil (T : Tab) : OB T [] (.fz 0 [] (some 0)) T := ⟨[], T, rfl, .nil T 1⟩
theorem OB.fin {T T1 : Tab} {b : Bs} {v : AV} (h : OB T b v T1) : qn5 v (fun r T' => r = bts b none /\ T' = T) T1 := by
 obtain ⟨r, how⟩ := h
 refine q33 how fun S hS => ?_
 obtain ⟨c1, e2⟩ := hS _ (List.mem_cons_self ..)
 obtain ⟨T0, _, hv4⟩ := how
 have : qm5 T1 S v = qc6 T1 S v := by
  rcases hv4.2 with ⟨h, _⟩ | ⟨j, h, _⟩ <;> (simp only at h; rw [h]; rfl)
 rw [this, e2]
 exact .fz
end Go.Aw
namespace Go.Aw
open Go
open Go.Proofs.Tryz (prog)
set_option linter.all false
set_option maxHeartbeats 8000000
set_option maxRecDepth 8000
def RfG (c : Rf) : Prop := c.Ok /\ (qot c).length <= 130
end Go.Aw
namespace Go.Aw
open Go
open Go.Proofs.Tryz (prog)
set_option linter.all false
set_option maxHeartbeats 8000000
set_option maxRecDepth 8000
section
variable {γ : Type} {f : γ -> List AV} (o : Lt γ)
end
def hX (k : Int) (f X : Bs) : Bs := if zen k f = true then X else []
structure Lt.EncR (l : Lt Rf) : Prop where
 hd : ∀ x ∈ [l.fk, l.fn, l.tk, l.tn, l.k], 0 <= x /\ x < 1000
 sh : 0 <= l.sh /\ l.sh < 2000000
 ep : 0 <= l.ep /\ l.ep < 18446744073709551616
 n : 0 <= l.n /\ l.n < 2000000
 m : 0 <= l.m /\ l.m < 2000000
 nd : 0 <= l.nd /\ l.nd < 2000000
 br : 0 <= l.br /\ l.br < 18446744073709551616
 bn : qjk l.bn = true
 t : zen l.k [116, 120, 110] = true -> l.t.Good
 cl : 0 <= l.cl /\ l.cl < 2000000
 sq : 0 <= l.sq /\ l.sq < 18446744073709551616
 v : l.v.length <= 64
 q : 0 <= l.q /\ l.q < 18446744073709551616
 co : 0 <= l.co /\ l.co < 2000000
 vs : l.vs.length <= 400 /\ ∀ v ∈ l.vs, VtG v
 cs : l.cs.length <= 4 /\ ∀ c ∈ l.cs, RfG c
 es : l.es.length <= 8 /\ ∀ e ∈ l.es, EnG e
end Go.Aw
