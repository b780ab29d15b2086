import Derived.Test.YteiamcnjlpbihaaGreatDoorQ17L
namespace Go.Aw
open Go
open Go.Proofs.Tryz (prog)
set_option linter.all false
set_option maxHeartbeats 8000000
set_option maxRecDepth 8000
section
variable {γ : Type} {f : γ -> List AV} (o : Lt γ)
theorem zmg : (o.cells f)[21]? = some (.i .i64 o.cl) := rfl
theorem zmh : (o.cells f)[22]? = some (.i .u64 o.sq) := rfl
attribute [go_sem] zmg zmh
end
def hX (k : Int) (f X : Bs) : Bs := if q76 k f = true then X else []
theorem qcj {k : Int} {f X : Bs} {n : Nat} (h : X.length <= n) : (hX k f X).length <= n := by
 unfold hX
 split
 ·exact h
 ·exact Nat.zero_le _
structure Lt.EncR (l : Lt Rf) : Prop where
 hd : ∀ x ∈ [l.fk, l.fn, l.tk, l.tn, l.k], 0 <= x /\ x < 1000
 sh : 0 <= l.sh /\ l.sh < 2000000
 ep : 0 <= l.ep /\ l.ep < 18446744073709551616
 n : 0 <= l.n /\ l.n < 2000000
 m : 0 <= l.m /\ l.m < 2000000
 nd : 0 <= l.nd /\ l.nd < 2000000
 br : 0 <= l.br /\ l.br < 18446744073709551616
 bn : qh1 l.bn = true
 t : q76 l.k [116, 120, 110] = true -> l.t.Good
 cl : 0 <= l.cl /\ l.cl < 2000000
 sq : 0 <= l.sq /\ l.sq < 18446744073709551616
 v : l.v.length <= 64
 q : 0 <= l.q /\ l.q < 18446744073709551616
 co : 0 <= l.co /\ l.co < 2000000
 vs : l.vs.length <= 400 /\ ∀ v ∈ l.vs, VtG v
 cs : l.cs.length <= 4 /\ ∀ c ∈ l.cs, RfG c
 es : l.es.length <= 8 /\ ∀ e ∈ l.es, EnG e
def xV (l : Lt Rf) : Bs := enc l.vs.length ++ l.vs.flatMap qyz
def xC (l : Lt Rf) : Bs := enc l.cs.length ++ l.cs.flatMap qiq
def xE (l : Lt Rf) : Bs := enc l.es.length ++ l.es.flatMap z18
theorem zbm {l : Lt Rf} (h : l.EncR) : (xV l).length <= 41700 := by
 have h1 := h.vs.1
 have l1 := K6 (m := l.vs.length) (by omega)
 have l2 := q2u (g := qyz) (m := 104) l.vs fun v hv => z2n (h.vs.2 v hv)
 simp only [xV, List.length_append]; omega
theorem zbn {l : Lt Rf} (h : l.EncR) : (xC l).length <= 1000 := by
 have h1 := h.cs.1
 have l1 := K6 (m := l.cs.length) (by omega)
 have l2 := q2u (g := qiq) (m := 130) l.cs fun v hv => (h.cs.2 v hv).2
 simp only [xC, List.length_append]; omega
theorem zj0 {l : Lt Rf} (h : l.EncR) : (xE l).length <= 17000 := by
 have h1 := h.es.1
 have l1 := K6 (m := l.es.length) (by omega)
 have l2 := q2u (g := z18) (m := 2040) l.es fun v hv => by
  obtain ⟨q1, q2, q3⟩ := h.es.2 v hv
  have lc := qiu (En.good_of q1 q3)
  have l4 := K6 (m := (q8g v).length) (by omega)
  simp only [z18, q75, List.length_append]; omega
 simp only [xE, List.length_append]; omega
def lbF (l : Lt Rf) : Bs := hX l.k [118, 111, 116, 101, 115] (xV l) ++ hX l.k [99, 111, 110, 102, 115] (xC l) ++ hX l.k [101, 110, 116, 114, 105, 101, 115] (xE l)
theorem qz3 (l : Lt Rf) (h : l.EncR) : PCalls prog q2h [.agg (l.cells rfL)] (bts (lbF l) none) := by
 refine K7 U4 qfb (by simp) fun T => ?_
 have h1 := h.vs.1
 have h2 := h.cs.1
 have h3 := h.es.1
 have l1 := K6 (m := l.vs.length) (by omega)
 have l2 := K6 (m := l.cs.length) (by omega)
 have l3 := K6 (m := l.es.length) (by omega)
 have b1 := qcj (k := l.k) (f := [118, 111, 116, 101, 115]) (zbm h)
 have b2 := qcj (k := l.k) (f := [99, 111, 110, 102, 115]) (zbn h)
 unfold q9w
 refine q8i True [(1, .lp 1 0)] [(1, l.cells rfL)] T (fun K hK => by simp -implicitDefEqProofs -dsimp only [go_sem, seval]; exact hK trivial) fun _ => ?_
 refine q8i True [(1, .lp 1 0), (3, .fz 0 [] (some 0))] [(1, l.cells rfL)] T (fun K hK => by simp -implicitDefEqProofs -dsimp only [go_sem, seval]; exact hK trivial) fun _ => ?_
 have ho := OB.nil T
 obtain ⟨p1, p2, p3, p4, p5, p6⟩ := ho.form
 refine q9o (by repeat' (first | exact N2 _ _ | assumption | apply N1 | apply K8 | apply Q6)) (fun E L T1 => ∃ v, (E = [(1, .lp 1 0), (3, v), (12, .b false)] \/ E = [(1, .lp 1 0), (3, v), (20, .fz l.vs.length (l.vs.flatMap vtC) none), (21, .i .i64 l.vs.length), (22, .i .i64 l.vs.length), (23, .b false)]) /\ L = [(1, l.cells rfL)] /\ OB T (hX l.k [118, 111, 116, 101, 115] (xV l)) v T1) (fun K hE hK => ?_) fun E L T1 hq => ?_
 ·simp -implicitDefEqProofs -dsimp only [go_sem, seval, Q3, p1, p2, p3, p4, p5, p6, ↓J0 _ _ J6]
  refine cpn (V3 l.k [118, 111, 116, 101, 115]) ?_
  rcases hh : q76 l.k [118, 111, 116, 101, 115] with _ | _
  ·simp -implicitDefEqProofs -dsimp only [go_sem, seval, Q3, p1, p2, p3, p4, p5, p6]
   exact hK _ _ _ ⟨_, .inl rfl, rfl, by simpa only [hX, hh, Bool.false_eq_true, if_false] using ho⟩
  ·simp -implicitDefEqProofs -dsimp only [go_sem, seval, Q3, p1, p2, p3, p4, p5, p6, ↓J0 _ _ G6]
   refine cpn (qav (l.vs.length : Nat) (by omega)) ?_
   rw [Int.toNat_natCast]
   simp -implicitDefEqProofs -dsimp only [go_sem, seval, Q3, p1, p2, p3, p4, p5, p6]
   refine ho.appB (by simp only [List.length_nil]; omega) fun v2 T2 ho => J1 ?_
   obtain ⟨p1, p2, p3, p4, p5, p6⟩ := ho.form
   simp -implicitDefEqProofs -dsimp only [go_sem, seval, Q3, p1, p2, p3, p4, p5, p6]
   refine zeg (T := T) (by repeat' (first | exact N2 _ _ | assumption | apply N1 | apply K8 | apply Q6)) (by omega) h.vs.2 l.vs 0 rfl (Nat.zero_le _) _ _ _ (by simp only [List.length_append, List.length_nil]; omega) ho (fun v3 T3 ho => ?_)
   obtain ⟨p1, p2, p3, p4, p5, p6⟩ := ho.form
   simp -implicitDefEqProofs -dsimp only [go_sem, seval, Q3, p1, p2, p3, p4, p5, p6]
   exact hK _ _ _ ⟨_, .inr rfl, rfl, by simpa only [hX, hh, if_true, xV, List.nil_append] using ho⟩
 obtain ⟨v, hq, rfl, ho⟩ := hq
 obtain ⟨p1, p2, p3, p4, p5, p6⟩ := ho.form
 refine q9o (by repeat' (first | exact N2 _ _ | assumption | apply N1 | apply K8 | apply Q6)) (fun E L T1 => ∃ v, (E = [(1, .lp 1 0), (3, v), (44, .b false)] \/ E = [(1, .lp 1 0), (3, v), (52, .fz l.cs.length (l.cs.flatMap rfL) none), (53, .i .i64 l.cs.length), (54, .i .i64 l.cs.length), (55, .b false)]) /\ L = [(1, l.cells rfL)] /\ OB T (hX l.k [118, 111, 116, 101, 115] (xV l) ++ hX l.k [99, 111, 110, 102, 115] (xC l)) v T1) (fun K hE hK => ?_) fun E L T1 hq => ?_
 ·rcases hq with rfl | rfl
  all_goals
   simp -implicitDefEqProofs -dsimp only [go_sem, seval, Q3, p1, p2, p3, p4, p5, p6, ↓J0 _ _ J6]
   refine cpn (V3 l.k [99, 111, 110, 102, 115]) ?_
   rcases hh : q76 l.k [99, 111, 110, 102, 115] with _ | _
   ·simp -implicitDefEqProofs -dsimp only [go_sem, seval, Q3, p1, p2, p3, p4, p5, p6]
    exact hK _ _ _ ⟨_, .inl rfl, rfl, by rw [show hX l.k [99, 111, 110, 102, 115] (xC l) = [] by simp only [hX, hh, Bool.false_eq_true, if_false], List.append_nil]; exact ho⟩
   ·simp -implicitDefEqProofs -dsimp only [go_sem, seval, Q3, p1, p2, p3, p4, p5, p6, ↓J0 _ _ G6]
    refine cpn (qav (l.cs.length : Nat) (by omega)) ?_
    rw [Int.toNat_natCast]
    simp -implicitDefEqProofs -dsimp only [go_sem, seval, Q3, p1, p2, p3, p4, p5, p6]
    refine ho.appB (by omega) fun v2 T2 ho => J1 ?_
    obtain ⟨p1, p2, p3, p4, p5, p6⟩ := ho.form
    simp -implicitDefEqProofs -dsimp only [go_sem, seval, Q3, p1, p2, p3, p4, p5, p6]
    refine zeh (T := T) (by repeat' (first | exact N2 _ _ | assumption | apply N1 | apply K8 | apply Q6)) (by omega) h.cs.2 l.cs 0 rfl (Nat.zero_le _) _ _ _ (by simp only [List.length_append]; omega) ho (fun v3 T3 ho => ?_)
    obtain ⟨p1, p2, p3, p4, p5, p6⟩ := ho.form
    simp -implicitDefEqProofs -dsimp only [go_sem, seval, Q3, p1, p2, p3, p4, p5, p6]
    exact hK _ _ _ ⟨_, .inr rfl, rfl, by rw [show hX l.k [99, 111, 110, 102, 115] (xC l) = xC l by simp only [hX, hh, if_true], xC, <- List.append_assoc]; exact ho⟩
 obtain ⟨v, hq, rfl, ho⟩ := hq
 obtain ⟨p1, p2, p3, p4, p5, p6⟩ := ho.form
 rcases hq with rfl | rfl
 all_goals
  simp -implicitDefEqProofs -dsimp only [go_sem, seval, Q3, p1, p2, p3, p4, p5, p6, ↓J0 _ _ J6]
  refine cpn (V3 l.k [101, 110, 116, 114, 105, 101, 115]) ?_
  rcases hh : q76 l.k [101, 110, 116, 114, 105, 101, 115] with _ | _
  ·simp -implicitDefEqProofs -dsimp only [go_sem, seval, Q3, p1, p2, p3, p4, p5, p6]
   rw [lbF, show hX l.k [101, 110, 116, 114, 105, 101, 115] (xE l) = [] by simp only [hX, hh, Bool.false_eq_true, if_false], List.append_nil]
   exact OB.fin ho
  ·simp -implicitDefEqProofs -dsimp only [go_sem, seval, Q3, p1, p2, p3, p4, p5, p6, ↓J0 _ _ G6]
   refine cpn (qav (l.es.length : Nat) (by omega)) ?_
   rw [Int.toNat_natCast]
   simp -implicitDefEqProofs -dsimp only [go_sem, seval, Q3, p1, p2, p3, p4, p5, p6]
   refine ho.appB (by simp only [List.length_append]; omega) fun v2 T2 ho => J1 ?_
   obtain ⟨p1, p2, p3, p4, p5, p6⟩ := ho.form
   simp -implicitDefEqProofs -dsimp only [go_sem, seval, Q3, p1, p2, p3, p4, p5, p6]
   refine zei (T := T) (by repeat' (first | exact N2 _ _ | assumption | apply N1 | apply K8 | apply Q6)) (by omega) h.es.2 l.es 0 rfl (Nat.zero_le _) _ _ _ (by simp only [List.length_append]; omega) ho (fun v3 T3 ho => ?_)
   obtain ⟨p1, p2, p3, p4, p5, p6⟩ := ho.form
   simp -implicitDefEqProofs -dsimp only [go_sem, seval, Q3, p1, p2, p3, p4, p5, p6]
   rw [lbF, show hX l.k [101, 110, 116, 114, 105, 101, 115] (xE l) = xE l by simp only [hX, hh, if_true], xE, <- List.append_assoc]
   exact OB.fin ho
end Go.Aw
