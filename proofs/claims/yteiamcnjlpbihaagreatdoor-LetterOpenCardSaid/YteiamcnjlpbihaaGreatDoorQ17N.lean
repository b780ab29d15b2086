import Derived.Test.YteiamcnjlpbihaaGreatDoorQ17M
namespace Go.Aw
open Go
open Go.Proofs.Tryz (prog)
set_option linter.all false
set_option maxHeartbeats 8000000
set_option maxRecDepth 8000
theorem ze0 {R : Z1} (hR : ExtR R) {T : Tab} {lc : List AV} {kv : AV} (hkv : kv.plain = true /\ kv.isOne = true /\ (∀ k, kv.offLp k = kv)) {xs : List Int} {q : Option Nat} (hl : xs.length <= 10) (hx : ∀ x ∈ xs, 0 <= x /\ x < 1000) : ∀ (us : List Int) (k : Nat), xs.drop k = us -> k <= xs.length -> ∀ (b : Bs) (v : AV) (T1 : Tab), b.length <= 100 + 10 * k -> OB T b v T1 ->
  (∀ v T1, OB T (b ++ qqd us) v T1 -> R (.exit 0) [(1, .lp 1 0), (3, v), (4, kv), (22, .fz xs.length (qfq xs) q), (23, .i .i64 xs.length), (24, .i .i64 xs.length), (25, .b false)] [(1, lc)] T1) ->
  AW prog q7h R [(1, .lp 1 0), (3, v), (4, kv), (22, .fz xs.length (qfq xs) q), (23, .i .i64 xs.length), (24, .i .i64 k)] [(1, lc)] T1 := by
 obtain ⟨s1, s2, s3⟩ := hkv
 intro us
 induction us with
 | nil =>
  intro k hk hle b v T1 hb ho h2
  obtain ⟨p1, p2, p3, p4, p5, p6⟩ := ho.form
  have hk' := Q7 hk hle
  refine Q5 hR ?_
  unfold q6j
  simp -implicitDefEqProofs -dsimp only [go_sem, seval, hk', Int.lt_irrefl, s1, s2, s3, p1, p2, p3, p4, p5, p6]
  rw [hk', qqd, List.flatMap_nil, List.append_nil] at h2
  exact h2 v T1 ho
 | cons y us ih =>
  intro k hk hle b v T1 hb ho h2
  obtain ⟨p1, p2, p3, p4, p5, p6⟩ := ho.form
  obtain ⟨hlt, hy, hk'⟩ := U6 hk
  have hs : IntKind.i64.wrap ((k : Int) + 1) = ((k + 1 : Nat) : Int) := N4 (by omega)
  have hy1 := hx y (List.mem_of_getElem? hy)
  have l1 := K5 (m := y.toNat) (by omega)
  have ea := qof xs k
  rw [hy] at ea
  simp only [Option.map_some] at ea
  rw [qqd, List.flatMap_cons, <- List.append_assoc] at h2
  refine O0 (l := q7h) rfl hR ?_
  unfold q6j
  simp -implicitDefEqProofs -dsimp only [go_sem, seval, Int.ofNat_lt, hlt, Int.natCast_nonneg, Int.toNat_natCast, ea, s1, s2, s3, p1, p2, p3, p4, p5, p6, ↓J0 _ _ G7]
  refine cpn (qao y (by omega)) ?_
  simp -implicitDefEqProofs -dsimp only [go_sem, seval, s1, s2, s3, p1, p2, p3, p4, p5, p6]
  refine ho.appB (by omega) fun v2 T2 ho => J1 ?_
  obtain ⟨p1, p2, p3, p4, p5, p6⟩ := ho.form
  simp -implicitDefEqProofs -dsimp only [go_sem, seval, hs, s1, s2, s3, p1, p2, p3, p4, p5, p6]
  exact ih (k + 1) hk' hlt (b ++ enc y.toNat) _ _ (by rw [List.length_append]; omega) ho h2
def hdB (l : Lt Rf) : Bs := qqd [l.fk, l.fn, l.tk, l.tn, l.k]
def byF (l : Lt Rf) : Bs := hdB l ++ hX l.k [115, 104, 97, 114, 100] (enc l.sh.toNat) ++ hX l.k [101, 112, 111, 99, 104] (enc l.ep.toNat) ++ hX l.k [110] (enc l.n.toNat) ++ hX l.k [109] (enc l.m.toNat) ++ hX l.k [110, 111, 100, 101] (enc l.nd.toNat) ++ hX l.k [102, 108, 97, 103] ([qiw l.fl]) ++ hX l.k [98, 97, 108, 108, 111, 116] ((enc l.br.toNat ++ enc l.bn.toNat)) ++ hX l.k [116, 120, 110] (qay l.t) ++ hX l.k [105, 100] ((enc l.cl.toNat ++ enc l.sq.toNat)) ++ hX l.k [118, 97, 108] (q76 l.v) ++ hX l.k [110, 117, 109] (enc l.q.toNat) ++ hX l.k [99, 111, 100, 101] (enc l.co.toNat) ++ lbF l
theorem qz0 (l : Lt Rf) (h : l.EncR) : PCalls prog q30 [.agg (l.cells rfL)] (bts (byF l) none) := by
 refine K7 U3 qjf (by simp) fun T => ?_
 have e1 := K5 (m := l.sh.toNat) (by have := h.sh; omega)
 have e2 := K5 (m := l.ep.toNat) (by have := h.ep; omega)
 have e3 := K5 (m := l.n.toNat) (by have := h.n; omega)
 have e4 := K5 (m := l.m.toNat) (by have := h.m; omega)
 have e5 := K5 (m := l.nd.toNat) (by have := h.nd; omega)
 have e7 := K5 (m := l.br.toNat) (by have := h.br; omega)
 have e8 := K5 (m := l.bn.toNat) (by have := h.bn; simp only [qh1, Bool.and_eq_true, decide_eq_true_eq] at this; omega)
 have e9 := K5 (m := l.cl.toNat) (by have := h.cl; omega)
 have e10 := K5 (m := l.sq.toNat) (by have := h.sq; omega)
 have e11 := K5 (m := l.v.length) (by have := h.v; omega)
 have e12 := K5 (m := l.q.toNat) (by have := h.q; omega)
 have e13 := K5 (m := l.co.toNat) (by have := h.co; omega)
 have hv := h.v
 have bt : (q76 l.v).length <= 74 := by simp only [q76, List.length_append]; omega
 have hdl : (hdB l).length <= 50 := by
  have := q2x (g := fun n : Int => enc n.toNat) (m := 10) [l.fk, l.fn, l.tk, l.tn, l.k] fun x hx => K5 (by have := h.hd x hx; omega)
  simpa only [hdB, qqd, List.length_cons, List.length_nil] using this
 have b0 := qc9 (k := l.k) (f := [115, 104, 97, 114, 100]) (X := enc l.sh.toNat) (n := 10) (by (try simp only [List.length_append, List.length_cons, List.length_nil, q76]); omega)
 have b1 := qc9 (k := l.k) (f := [101, 112, 111, 99, 104]) (X := enc l.ep.toNat) (n := 10) (by (try simp only [List.length_append, List.length_cons, List.length_nil, q76]); omega)
 have b2 := qc9 (k := l.k) (f := [110]) (X := enc l.n.toNat) (n := 10) (by (try simp only [List.length_append, List.length_cons, List.length_nil, q76]); omega)
 have b3 := qc9 (k := l.k) (f := [109]) (X := enc l.m.toNat) (n := 10) (by (try simp only [List.length_append, List.length_cons, List.length_nil, q76]); omega)
 have b4 := qc9 (k := l.k) (f := [110, 111, 100, 101]) (X := enc l.nd.toNat) (n := 10) (by (try simp only [List.length_append, List.length_cons, List.length_nil, q76]); omega)
 have b5 := qc9 (k := l.k) (f := [102, 108, 97, 103]) (X := [qiw l.fl]) (n := 1) (by (try simp only [List.length_append, List.length_cons, List.length_nil, q76]); omega)
 have b6 := qc9 (k := l.k) (f := [98, 97, 108, 108, 111, 116]) (X := (enc l.br.toNat ++ enc l.bn.toNat)) (n := 20) (by (try simp only [List.length_append, List.length_cons, List.length_nil, q76]); omega)
 have b7 : (hX l.k [116, 120, 110] (qay l.t)).length <= 2000 := by
  unfold hX
  split
  ·rename_i hh; exact qij (h.t hh)
  ·exact Nat.zero_le _
 have b8 := qc9 (k := l.k) (f := [105, 100]) (X := (enc l.cl.toNat ++ enc l.sq.toNat)) (n := 20) (by (try simp only [List.length_append, List.length_cons, List.length_nil, q76]); omega)
 have b9 := qc9 (k := l.k) (f := [118, 97, 108]) (X := q76 l.v) (n := 74) (by (try simp only [List.length_append, List.length_cons, List.length_nil, q76]); omega)
 have b10 := qc9 (k := l.k) (f := [110, 117, 109]) (X := enc l.q.toNat) (n := 10) (by (try simp only [List.length_append, List.length_cons, List.length_nil, q76]); omega)
 have b11 := qc9 (k := l.k) (f := [99, 111, 100, 101]) (X := enc l.co.toNat) (n := 10) (by (try simp only [List.length_append, List.length_cons, List.length_nil, q76]); omega)
 have bl : (lbF l).length <= 60000 := by
  have b1 := qc9 (k := l.k) (f := [118, 111, 116, 101, 115]) (zb6 h)
  have b2 := qc9 (k := l.k) (f := [99, 111, 110, 102, 115]) (zb7 h)
  have b3 := qc9 (k := l.k) (f := [101, 110, 116, 114, 105, 101, 115]) (zi3 h)
  simp only [lbF, List.length_append]; omega
 unfold qbs
 refine q6b True [(1, .lp 1 0)] [(1, l.cells rfL)] T (fun K hK => by simp -implicitDefEqProofs -dsimp only [go_sem, seval]; exact hK trivial) fun _ => ?_
 refine q6b True [(1, .lp 1 0), (3, .fz 0 [] (some 0))] [(1, l.cells rfL)] T (fun K hK => by simp -implicitDefEqProofs -dsimp only [go_sem, seval]; exact hK trivial) fun _ => ?_
 refine q6b True [(1, .lp 1 0), (3, .fz 0 [] (some 0)), (4, .i .i64 l.k)] [(1, l.cells rfL)] T (fun K hK => by simp -implicitDefEqProofs -dsimp only [go_sem, seval, U0]; exact hK trivial) fun _ => ?_
 have ho := OB.nil T
 have key := fun (R : Z1) (hR : ExtR R) hh => ze0 (R := R) hR (T := T) (lc := l.cells rfL) (kv := .i .i64 l.k) ⟨rfl, rfl, fun _ => rfl⟩ (xs := [l.fk, l.fn, l.tk, l.tn, l.k]) (q := some 5) (show 5 <= 10 by decide) h.hd [l.fk, l.fn, l.tk, l.tn, l.k] 0 rfl (Nat.zero_le _) [] (.fz 0 [] (some 0)) T (Nat.zero_le _) ho hh
 refine q7u (by repeat' (first | exact N2 _ _ | assumption | apply N1 | apply K9 | apply Q3)) (fun E L T1 => ∃ v, (E = [(1, .lp 1 0), (3, v), (4, .i .i64 l.k), (22, .fz 5 (qfq [l.fk, l.fn, l.tk, l.tn, l.k]) (some 5)), (23, .i .i64 5), (24, .i .i64 5), (25, .b false)]) /\ L = [(1, l.cells rfL)] /\ OB T (hdB l) v T1) (fun K hE hK => ?_) fun E L T1 hq => ?_
 ·simp -implicitDefEqProofs -dsimp only [go_sem, seval, U0]
  refine key _ (by repeat' (first | exact N2 _ _ | assumption | apply N1 | apply K9 | apply Q3)) (fun v T1 ho => ?_)
  obtain ⟨p1, p2, p3, p4, p5, p6⟩ := ho.form
  simp -implicitDefEqProofs -dsimp only [go_sem, seval, p1, p2, p3, p4, p5, p6]
  exact hK _ _ _ ⟨_, rfl, rfl, ho⟩
 obtain ⟨v, hq, rfl, ho⟩ := hq
 obtain ⟨p1, p2, p3, p4, p5, p6⟩ := ho.form
 refine q7u (by repeat' (first | exact N2 _ _ | assumption | apply N1 | apply K9 | apply Q3)) (fun E L T1 => ∃ v, (E = [(1, .lp 1 0), (3, v), (4, .i .i64 l.k)] \/ E = [(1, .lp 1 0), (3, v), (4, .i .i64 l.k), (34, .b false)]) /\ L = [(1, l.cells rfL)] /\ OB T (hdB l ++ hX l.k [115, 104, 97, 114, 100] (enc l.sh.toNat)) v T1) (fun K hE hK => ?_) fun E L T1 hq => ?_
 ·subst hq
  simp -implicitDefEqProofs -dsimp only [go_sem, seval, U0, p1, p2, p3, p4, p5, p6, ↓J0 _ _ J6]
  refine cpn (V3 l.k [115, 104, 97, 114, 100]) ?_
  rcases hh : q6z l.k [115, 104, 97, 114, 100] with _ | _
  ·simp -implicitDefEqProofs -dsimp only [go_sem, seval, U0, p1, p2, p3, p4, p5, p6]
   exact hK _ _ _ ⟨_, .inr rfl, rfl, by rw [show hX l.k [115, 104, 97, 114, 100] (enc l.sh.toNat) = [] by simp only [hX, hh, Bool.false_eq_true, if_false], List.append_nil]; exact ho⟩
  ·skip
   simp -implicitDefEqProofs -dsimp only [go_sem, seval, U0, p1, p2, p3, p4, p5, p6, ↓J0 _ _ G7]
   refine cpn (qao l.sh (by have := h.sh; omega)) ?_
   simp -implicitDefEqProofs -dsimp only [go_sem, seval, U0, p1, p2, p3, p4, p5, p6]
   refine ho.appB (by (try simp only [List.length_append, List.length_cons, List.length_nil]); omega) fun v2 T2 ho => J1 ?_
   obtain ⟨p1, p2, p3, p4, p5, p6⟩ := ho.form
   simp -implicitDefEqProofs -dsimp only [go_sem, seval, U0, p1, p2, p3, p4, p5, p6]
   exact hK _ _ _ ⟨_, .inl rfl, rfl, by rw [show hX l.k [115, 104, 97, 114, 100] (enc l.sh.toNat) = enc l.sh.toNat by simp only [hX, hh, if_true]]; exact ho⟩
 obtain ⟨v, hq, rfl, ho⟩ := hq
 obtain ⟨p1, p2, p3, p4, p5, p6⟩ := ho.form
 refine q7u (by repeat' (first | exact N2 _ _ | assumption | apply N1 | apply K9 | apply Q3)) (fun E L T1 => ∃ v, (E = [(1, .lp 1 0), (3, v), (4, .i .i64 l.k)] \/ E = [(1, .lp 1 0), (3, v), (4, .i .i64 l.k), (41, .b false)]) /\ L = [(1, l.cells rfL)] /\ OB T (hdB l ++ hX l.k [115, 104, 97, 114, 100] (enc l.sh.toNat) ++ hX l.k [101, 112, 111, 99, 104] (enc l.ep.toNat)) v T1) (fun K hE hK => ?_) fun E L T1 hq => ?_
 ·rcases hq with rfl | rfl
  all_goals
   simp -implicitDefEqProofs -dsimp only [go_sem, seval, U0, p1, p2, p3, p4, p5, p6, ↓J0 _ _ J6]
   refine cpn (V3 l.k [101, 112, 111, 99, 104]) ?_
   rcases hh : q6z l.k [101, 112, 111, 99, 104] with _ | _
   ·simp -implicitDefEqProofs -dsimp only [go_sem, seval, U0, p1, p2, p3, p4, p5, p6]
    exact hK _ _ _ ⟨_, .inr rfl, rfl, by rw [show hX l.k [101, 112, 111, 99, 104] (enc l.ep.toNat) = [] by simp only [hX, hh, Bool.false_eq_true, if_false], List.append_nil]; exact ho⟩
   ·have pq1 := qm3 l.ep.toNat (by have := h.ep; omega)
    rw [Int.toNat_of_nonneg h.ep.1] at pq1
    simp -implicitDefEqProofs -dsimp only [go_sem, seval, U0, p1, p2, p3, p4, p5, p6, ↓J0 _ _ Y1]
    refine cpn (pq1) ?_
    simp -implicitDefEqProofs -dsimp only [go_sem, seval, U0, p1, p2, p3, p4, p5, p6]
    refine ho.appB (by (try simp only [List.length_append, List.length_cons, List.length_nil]); omega) fun v2 T2 ho => J1 ?_
    obtain ⟨p1, p2, p3, p4, p5, p6⟩ := ho.form
    simp -implicitDefEqProofs -dsimp only [go_sem, seval, U0, p1, p2, p3, p4, p5, p6]
    exact hK _ _ _ ⟨_, .inl rfl, rfl, by rw [show hX l.k [101, 112, 111, 99, 104] (enc l.ep.toNat) = enc l.ep.toNat by simp only [hX, hh, if_true]]; exact ho⟩
 obtain ⟨v, hq, rfl, ho⟩ := hq
 obtain ⟨p1, p2, p3, p4, p5, p6⟩ := ho.form
 refine q7u (by repeat' (first | exact N2 _ _ | assumption | apply N1 | apply K9 | apply Q3)) (fun E L T1 => ∃ v, (E = [(1, .lp 1 0), (3, v), (4, .i .i64 l.k)] \/ E = [(1, .lp 1 0), (3, v), (4, .i .i64 l.k), (48, .b false)]) /\ L = [(1, l.cells rfL)] /\ OB T (hdB l ++ hX l.k [115, 104, 97, 114, 100] (enc l.sh.toNat) ++ hX l.k [101, 112, 111, 99, 104] (enc l.ep.toNat) ++ hX l.k [110] (enc l.n.toNat)) v T1) (fun K hE hK => ?_) fun E L T1 hq => ?_
 ·rcases hq with rfl | rfl
  all_goals
   simp -implicitDefEqProofs -dsimp only [go_sem, seval, U0, p1, p2, p3, p4, p5, p6, ↓J0 _ _ J6]
   refine cpn (V3 l.k [110]) ?_
   rcases hh : q6z l.k [110] with _ | _
   ·simp -implicitDefEqProofs -dsimp only [go_sem, seval, U0, p1, p2, p3, p4, p5, p6]
    exact hK _ _ _ ⟨_, .inr rfl, rfl, by rw [show hX l.k [110] (enc l.n.toNat) = [] by simp only [hX, hh, Bool.false_eq_true, if_false], List.append_nil]; exact ho⟩
   ·skip
    simp -implicitDefEqProofs -dsimp only [go_sem, seval, U0, p1, p2, p3, p4, p5, p6, ↓J0 _ _ G7]
    refine cpn (qao l.n (by have := h.n; omega)) ?_
    simp -implicitDefEqProofs -dsimp only [go_sem, seval, U0, p1, p2, p3, p4, p5, p6]
    refine ho.appB (by (try simp only [List.length_append, List.length_cons, List.length_nil]); omega) fun v2 T2 ho => J1 ?_
    obtain ⟨p1, p2, p3, p4, p5, p6⟩ := ho.form
    simp -implicitDefEqProofs -dsimp only [go_sem, seval, U0, p1, p2, p3, p4, p5, p6]
    exact hK _ _ _ ⟨_, .inl rfl, rfl, by rw [show hX l.k [110] (enc l.n.toNat) = enc l.n.toNat by simp only [hX, hh, if_true]]; exact ho⟩
 obtain ⟨v, hq, rfl, ho⟩ := hq
 obtain ⟨p1, p2, p3, p4, p5, p6⟩ := ho.form
 refine q7u (by repeat' (first | exact N2 _ _ | assumption | apply N1 | apply K9 | apply Q3)) (fun E L T1 => ∃ v, (E = [(1, .lp 1 0), (3, v), (4, .i .i64 l.k)] \/ E = [(1, .lp 1 0), (3, v), (4, .i .i64 l.k), (55, .b false)]) /\ L = [(1, l.cells rfL)] /\ OB T (hdB l ++ hX l.k [115, 104, 97, 114, 100] (enc l.sh.toNat) ++ hX l.k [101, 112, 111, 99, 104] (enc l.ep.toNat) ++ hX l.k [110] (enc l.n.toNat) ++ hX l.k [109] (enc l.m.toNat)) v T1) (fun K hE hK => ?_) fun E L T1 hq => ?_
 ·rcases hq with rfl | rfl
  all_goals
   simp -implicitDefEqProofs -dsimp only [go_sem, seval, U0, p1, p2, p3, p4, p5, p6, ↓J0 _ _ J6]
   refine cpn (V3 l.k [109]) ?_
   rcases hh : q6z l.k [109] with _ | _
   ·simp -implicitDefEqProofs -dsimp only [go_sem, seval, U0, p1, p2, p3, p4, p5, p6]
    exact hK _ _ _ ⟨_, .inr rfl, rfl, by rw [show hX l.k [109] (enc l.m.toNat) = [] by simp only [hX, hh, Bool.false_eq_true, if_false], List.append_nil]; exact ho⟩
   ·skip
    simp -implicitDefEqProofs -dsimp only [go_sem, seval, U0, p1, p2, p3, p4, p5, p6, ↓J0 _ _ G7]
    refine cpn (qao l.m (by have := h.m; omega)) ?_
    simp -implicitDefEqProofs -dsimp only [go_sem, seval, U0, p1, p2, p3, p4, p5, p6]
    refine ho.appB (by (try simp only [List.length_append, List.length_cons, List.length_nil]); omega) fun v2 T2 ho => J1 ?_
    obtain ⟨p1, p2, p3, p4, p5, p6⟩ := ho.form
    simp -implicitDefEqProofs -dsimp only [go_sem, seval, U0, p1, p2, p3, p4, p5, p6]
    exact hK _ _ _ ⟨_, .inl rfl, rfl, by rw [show hX l.k [109] (enc l.m.toNat) = enc l.m.toNat by simp only [hX, hh, if_true]]; exact ho⟩
 obtain ⟨v, hq, rfl, ho⟩ := hq
 obtain ⟨p1, p2, p3, p4, p5, p6⟩ := ho.form
 refine q7u (by repeat' (first | exact N2 _ _ | assumption | apply N1 | apply K9 | apply Q3)) (fun E L T1 => ∃ v, (E = [(1, .lp 1 0), (3, v), (4, .i .i64 l.k)] \/ E = [(1, .lp 1 0), (3, v), (4, .i .i64 l.k), (62, .b false)]) /\ L = [(1, l.cells rfL)] /\ OB T (hdB l ++ hX l.k [115, 104, 97, 114, 100] (enc l.sh.toNat) ++ hX l.k [101, 112, 111, 99, 104] (enc l.ep.toNat) ++ hX l.k [110] (enc l.n.toNat) ++ hX l.k [109] (enc l.m.toNat) ++ hX l.k [110, 111, 100, 101] (enc l.nd.toNat)) v T1) (fun K hE hK => ?_) fun E L T1 hq => ?_
 ·rcases hq with rfl | rfl
  all_goals
   simp -implicitDefEqProofs -dsimp only [go_sem, seval, U0, p1, p2, p3, p4, p5, p6, ↓J0 _ _ J6]
   refine cpn (V3 l.k [110, 111, 100, 101]) ?_
   rcases hh : q6z l.k [110, 111, 100, 101] with _ | _
   ·simp -implicitDefEqProofs -dsimp only [go_sem, seval, U0, p1, p2, p3, p4, p5, p6]
    exact hK _ _ _ ⟨_, .inr rfl, rfl, by rw [show hX l.k [110, 111, 100, 101] (enc l.nd.toNat) = [] by simp only [hX, hh, Bool.false_eq_true, if_false], List.append_nil]; exact ho⟩
   ·skip
    simp -implicitDefEqProofs -dsimp only [go_sem, seval, U0, p1, p2, p3, p4, p5, p6, ↓J0 _ _ G7]
    refine cpn (qao l.nd (by have := h.nd; omega)) ?_
    simp -implicitDefEqProofs -dsimp only [go_sem, seval, U0, p1, p2, p3, p4, p5, p6]
    refine ho.appB (by (try simp only [List.length_append, List.length_cons, List.length_nil]); omega) fun v2 T2 ho => J1 ?_
    obtain ⟨p1, p2, p3, p4, p5, p6⟩ := ho.form
    simp -implicitDefEqProofs -dsimp only [go_sem, seval, U0, p1, p2, p3, p4, p5, p6]
    exact hK _ _ _ ⟨_, .inl rfl, rfl, by rw [show hX l.k [110, 111, 100, 101] (enc l.nd.toNat) = enc l.nd.toNat by simp only [hX, hh, if_true]]; exact ho⟩
 obtain ⟨v, hq, rfl, ho⟩ := hq
 obtain ⟨p1, p2, p3, p4, p5, p6⟩ := ho.form
 refine q7u (by repeat' (first | exact N2 _ _ | assumption | apply N1 | apply K9 | apply Q3)) (fun E L T1 => ∃ v, (E = [(1, .lp 1 0), (3, v), (4, .i .i64 l.k)] \/ E = [(1, .lp 1 0), (3, v), (4, .i .i64 l.k), (69, .b false)]) /\ L = [(1, l.cells rfL)] /\ OB T (hdB l ++ hX l.k [115, 104, 97, 114, 100] (enc l.sh.toNat) ++ hX l.k [101, 112, 111, 99, 104] (enc l.ep.toNat) ++ hX l.k [110] (enc l.n.toNat) ++ hX l.k [109] (enc l.m.toNat) ++ hX l.k [110, 111, 100, 101] (enc l.nd.toNat) ++ hX l.k [102, 108, 97, 103] ([qiw l.fl])) v T1) (fun K hE hK => ?_) fun E L T1 hq => ?_
 ·rcases hq with rfl | rfl
  all_goals
   simp -implicitDefEqProofs -dsimp only [go_sem, seval, U0, p1, p2, p3, p4, p5, p6, ↓J0 _ _ J6]
   refine cpn (V3 l.k [102, 108, 97, 103]) ?_
   rcases hh : q6z l.k [102, 108, 97, 103] with _ | _
   ·simp -implicitDefEqProofs -dsimp only [go_sem, seval, U0, p1, p2, p3, p4, p5, p6]
    exact hK _ _ _ ⟨_, .inr rfl, rfl, by rw [show hX l.k [102, 108, 97, 103] ([qiw l.fl]) = [] by simp only [hX, hh, Bool.false_eq_true, if_false], List.append_nil]; exact ho⟩
   ·skip
    simp -implicitDefEqProofs -dsimp only [go_sem, seval, U0, p1, p2, p3, p4, p5, p6, ↓J0 _ _ qn4]
    refine cpn (zac l.fl) ?_
    simp -implicitDefEqProofs -dsimp only [go_sem, seval, U0, p1, p2, p3, p4, p5, p6]
    refine ho.appB (by (try simp only [List.length_append, List.length_cons, List.length_nil]); omega) fun v2 T2 ho => J1 ?_
    obtain ⟨p1, p2, p3, p4, p5, p6⟩ := ho.form
    simp -implicitDefEqProofs -dsimp only [go_sem, seval, U0, p1, p2, p3, p4, p5, p6]
    exact hK _ _ _ ⟨_, .inl rfl, rfl, by rw [show hX l.k [102, 108, 97, 103] ([qiw l.fl]) = [qiw l.fl] by simp only [hX, hh, if_true]]; exact ho⟩
 obtain ⟨v, hq, rfl, ho⟩ := hq
 obtain ⟨p1, p2, p3, p4, p5, p6⟩ := ho.form
 refine q7u (by repeat' (first | exact N2 _ _ | assumption | apply N1 | apply K9 | apply Q3)) (fun E L T1 => ∃ v, (E = [(1, .lp 1 0), (3, v), (4, .i .i64 l.k)] \/ E = [(1, .lp 1 0), (3, v), (4, .i .i64 l.k), (76, .b false)]) /\ L = [(1, l.cells rfL)] /\ OB T (hdB l ++ hX l.k [115, 104, 97, 114, 100] (enc l.sh.toNat) ++ hX l.k [101, 112, 111, 99, 104] (enc l.ep.toNat) ++ hX l.k [110] (enc l.n.toNat) ++ hX l.k [109] (enc l.m.toNat) ++ hX l.k [110, 111, 100, 101] (enc l.nd.toNat) ++ hX l.k [102, 108, 97, 103] ([qiw l.fl]) ++ hX l.k [98, 97, 108, 108, 111, 116] ((enc l.br.toNat ++ enc l.bn.toNat))) v T1) (fun K hE hK => ?_) fun E L T1 hq => ?_
 ·rcases hq with rfl | rfl
  all_goals
   simp -implicitDefEqProofs -dsimp only [go_sem, seval, U0, p1, p2, p3, p4, p5, p6, ↓J0 _ _ J6]
   refine cpn (V3 l.k [98, 97, 108, 108, 111, 116]) ?_
   rcases hh : q6z l.k [98, 97, 108, 108, 111, 116] with _ | _
   ·simp -implicitDefEqProofs -dsimp only [go_sem, seval, U0, p1, p2, p3, p4, p5, p6]
    exact hK _ _ _ ⟨_, .inr rfl, rfl, by rw [show hX l.k [98, 97, 108, 108, 111, 116] ((enc l.br.toNat ++ enc l.bn.toNat)) = [] by simp only [hX, hh, Bool.false_eq_true, if_false], List.append_nil]; exact ho⟩
   ·skip
    simp -implicitDefEqProofs -dsimp only [go_sem, seval, U0, p1, p2, p3, p4, p5, p6, ↓J0 _ _ qdt]
    refine cpn (z2f l.br l.bn h.br h.bn) ?_
    simp -implicitDefEqProofs -dsimp only [go_sem, seval, U0, p1, p2, p3, p4, p5, p6]
    refine ho.appB (by (try simp only [List.length_append, List.length_cons, List.length_nil]); omega) fun v2 T2 ho => J1 ?_
    obtain ⟨p1, p2, p3, p4, p5, p6⟩ := ho.form
    simp -implicitDefEqProofs -dsimp only [go_sem, seval, U0, p1, p2, p3, p4, p5, p6]
    exact hK _ _ _ ⟨_, .inl rfl, rfl, by rw [show hX l.k [98, 97, 108, 108, 111, 116] ((enc l.br.toNat ++ enc l.bn.toNat)) = (enc l.br.toNat ++ enc l.bn.toNat) by simp only [hX, hh, if_true]]; exact ho⟩
 obtain ⟨v, hq, rfl, ho⟩ := hq
 obtain ⟨p1, p2, p3, p4, p5, p6⟩ := ho.form
 refine q7u (by repeat' (first | exact N2 _ _ | assumption | apply N1 | apply K9 | apply Q3)) (fun E L T1 => ∃ v, (E = [(1, .lp 1 0), (3, v), (4, .i .i64 l.k)] \/ E = [(1, .lp 1 0), (3, v), (4, .i .i64 l.k), (83, .b false)]) /\ L = [(1, l.cells rfL)] /\ OB T (hdB l ++ hX l.k [115, 104, 97, 114, 100] (enc l.sh.toNat) ++ hX l.k [101, 112, 111, 99, 104] (enc l.ep.toNat) ++ hX l.k [110] (enc l.n.toNat) ++ hX l.k [109] (enc l.m.toNat) ++ hX l.k [110, 111, 100, 101] (enc l.nd.toNat) ++ hX l.k [102, 108, 97, 103] ([qiw l.fl]) ++ hX l.k [98, 97, 108, 108, 111, 116] ((enc l.br.toNat ++ enc l.bn.toNat)) ++ hX l.k [116, 120, 110] (qay l.t)) v T1) (fun K hE hK => ?_) fun E L T1 hq => ?_
 ·rcases hq with rfl | rfl
  all_goals
   simp -implicitDefEqProofs -dsimp only [go_sem, seval, U0, p1, p2, p3, p4, p5, p6, ↓J0 _ _ J6]
   refine cpn (V3 l.k [116, 120, 110]) ?_
   rcases hh : q6z l.k [116, 120, 110] with _ | _
   ·simp -implicitDefEqProofs -dsimp only [go_sem, seval, U0, p1, p2, p3, p4, p5, p6]
    exact hK _ _ _ ⟨_, .inr rfl, rfl, by rw [show hX l.k [116, 120, 110] (qay l.t) = [] by simp only [hX, hh, Bool.false_eq_true, if_false], List.append_nil]; exact ho⟩
   ·have g := h.t hh
    have lt := qij g
    have pc := fun T => quh l.t none none g T
    simp -implicitDefEqProofs -dsimp only [go_sem, seval, U0, p1, p2, p3, p4, p5, p6, ↓J0 _ _ qbe]
    refine CallK.of (pc T1) (fun w T2 hw => J1 ?_)
    obtain ⟨q1, q2, q3, q4, q5, q6⟩ := hw.form
    simp -implicitDefEqProofs -dsimp only [go_sem, seval, U0, p1, p2, p3, p4, p5, p6, q1, q2, q3, q4, q5, q6]
    refine ho.appO hw (by simp only [List.length_append]; omega) fun v2 T2 ho => J1 ?_
    obtain ⟨p1, p2, p3, p4, p5, p6⟩ := ho.form
    simp -implicitDefEqProofs -dsimp only [go_sem, seval, U0, p1, p2, p3, p4, p5, p6]
    exact hK _ _ _ ⟨_, .inl rfl, rfl, by rw [show hX l.k [116, 120, 110] (qay l.t) = qay l.t by simp only [hX, hh, if_true]]; exact ho⟩
 obtain ⟨v, hq, rfl, ho⟩ := hq
 obtain ⟨p1, p2, p3, p4, p5, p6⟩ := ho.form
 refine q7u (by repeat' (first | exact N2 _ _ | assumption | apply N1 | apply K9 | apply Q3)) (fun E L T1 => ∃ v, (E = [(1, .lp 1 0), (3, v), (4, .i .i64 l.k)] \/ E = [(1, .lp 1 0), (3, v), (4, .i .i64 l.k), (90, .b false)]) /\ L = [(1, l.cells rfL)] /\ OB T (hdB l ++ hX l.k [115, 104, 97, 114, 100] (enc l.sh.toNat) ++ hX l.k [101, 112, 111, 99, 104] (enc l.ep.toNat) ++ hX l.k [110] (enc l.n.toNat) ++ hX l.k [109] (enc l.m.toNat) ++ hX l.k [110, 111, 100, 101] (enc l.nd.toNat) ++ hX l.k [102, 108, 97, 103] ([qiw l.fl]) ++ hX l.k [98, 97, 108, 108, 111, 116] ((enc l.br.toNat ++ enc l.bn.toNat)) ++ hX l.k [116, 120, 110] (qay l.t) ++ hX l.k [105, 100] ((enc l.cl.toNat ++ enc l.sq.toNat))) v T1) (fun K hE hK => ?_) fun E L T1 hq => ?_
 ·rcases hq with rfl | rfl
  all_goals
   simp -implicitDefEqProofs -dsimp only [go_sem, seval, U0, p1, p2, p3, p4, p5, p6, ↓J0 _ _ J6]
   refine cpn (V3 l.k [105, 100]) ?_
   rcases hh : q6z l.k [105, 100] with _ | _
   ·simp -implicitDefEqProofs -dsimp only [go_sem, seval, U0, p1, p2, p3, p4, p5, p6]
    exact hK _ _ _ ⟨_, .inr rfl, rfl, by rw [show hX l.k [105, 100] ((enc l.cl.toNat ++ enc l.sq.toNat)) = [] by simp only [hX, hh, Bool.false_eq_true, if_false], List.append_nil]; exact ho⟩
   ·have pq := qm3 l.sq.toNat (by have := h.sq; omega)
    rw [Int.toNat_of_nonneg h.sq.1] at pq
    simp -implicitDefEqProofs -dsimp only [go_sem, seval, U0, p1, p2, p3, p4, p5, p6, ↓J0 _ _ G7]
    refine cpn (qao l.cl (by have := h.cl; omega)) ?_
    simp -implicitDefEqProofs -dsimp only [go_sem, seval, U0, p1, p2, p3, p4, p5, p6]
    refine ho.appB (by simp only [List.length_append]; omega) fun v2 T2 ho => J1 ?_
    obtain ⟨p1, p2, p3, p4, p5, p6⟩ := ho.form
    simp -implicitDefEqProofs -dsimp only [go_sem, seval, U0, p1, p2, p3, p4, p5, p6, ↓J0 _ _ Y1]
    refine cpn pq ?_
    simp -implicitDefEqProofs -dsimp only [go_sem, seval, U0, p1, p2, p3, p4, p5, p6]
    refine ho.appB (by simp only [List.length_append]; omega) fun v3 T3 ho => J1 ?_
    rw [List.append_assoc] at ho
    obtain ⟨p1, p2, p3, p4, p5, p6⟩ := ho.form
    simp -implicitDefEqProofs -dsimp only [go_sem, seval, U0, p1, p2, p3, p4, p5, p6]
    exact hK _ _ _ ⟨_, .inl rfl, rfl, by rw [show hX l.k [105, 100] ((enc l.cl.toNat ++ enc l.sq.toNat)) = (enc l.cl.toNat ++ enc l.sq.toNat) by simp only [hX, hh, if_true]]; exact ho⟩
 obtain ⟨v, hq, rfl, ho⟩ := hq
 obtain ⟨p1, p2, p3, p4, p5, p6⟩ := ho.form
 refine q7u (by repeat' (first | exact N2 _ _ | assumption | apply N1 | apply K9 | apply Q3)) (fun E L T1 => ∃ v, (E = [(1, .lp 1 0), (3, v), (4, .i .i64 l.k)] \/ E = [(1, .lp 1 0), (3, v), (4, .i .i64 l.k), (104, .b false)]) /\ L = [(1, l.cells rfL)] /\ OB T (hdB l ++ hX l.k [115, 104, 97, 114, 100] (enc l.sh.toNat) ++ hX l.k [101, 112, 111, 99, 104] (enc l.ep.toNat) ++ hX l.k [110] (enc l.n.toNat) ++ hX l.k [109] (enc l.m.toNat) ++ hX l.k [110, 111, 100, 101] (enc l.nd.toNat) ++ hX l.k [102, 108, 97, 103] ([qiw l.fl]) ++ hX l.k [98, 97, 108, 108, 111, 116] ((enc l.br.toNat ++ enc l.bn.toNat)) ++ hX l.k [116, 120, 110] (qay l.t) ++ hX l.k [105, 100] ((enc l.cl.toNat ++ enc l.sq.toNat)) ++ hX l.k [118, 97, 108] (q76 l.v)) v T1) (fun K hE hK => ?_) fun E L T1 hq => ?_
 ·rcases hq with rfl | rfl
  all_goals
   simp -implicitDefEqProofs -dsimp only [go_sem, seval, U0, p1, p2, p3, p4, p5, p6, ↓J0 _ _ J6]
   refine cpn (V3 l.k [118, 97, 108]) ?_
   rcases hh : q6z l.k [118, 97, 108] with _ | _
   ·simp -implicitDefEqProofs -dsimp only [go_sem, seval, U0, p1, p2, p3, p4, p5, p6]
    exact hK _ _ _ ⟨_, .inr rfl, rfl, by rw [show hX l.k [118, 97, 108] (q76 l.v) = [] by simp only [hX, hh, Bool.false_eq_true, if_false], List.append_nil]; exact ho⟩
   ·skip
    simp -implicitDefEqProofs -dsimp only [go_sem, seval, U0, p1, p2, p3, p4, p5, p6, ↓J0 _ _ q24]
    refine cpn (qj4 l.v (by omega)) ?_
    simp -implicitDefEqProofs -dsimp only [go_sem, seval, U0, p1, p2, p3, p4, p5, p6]
    refine ho.appB (by (try simp only [List.length_append, List.length_cons, List.length_nil]); omega) fun v2 T2 ho => J1 ?_
    obtain ⟨p1, p2, p3, p4, p5, p6⟩ := ho.form
    simp -implicitDefEqProofs -dsimp only [go_sem, seval, U0, p1, p2, p3, p4, p5, p6]
    exact hK _ _ _ ⟨_, .inl rfl, rfl, by rw [show hX l.k [118, 97, 108] (q76 l.v) = q76 l.v by simp only [hX, hh, if_true]]; exact ho⟩
 obtain ⟨v, hq, rfl, ho⟩ := hq
 obtain ⟨p1, p2, p3, p4, p5, p6⟩ := ho.form
 refine q7u (by repeat' (first | exact N2 _ _ | assumption | apply N1 | apply K9 | apply Q3)) (fun E L T1 => ∃ v, (E = [(1, .lp 1 0), (3, v), (4, .i .i64 l.k)] \/ E = [(1, .lp 1 0), (3, v), (4, .i .i64 l.k), (111, .b false)]) /\ L = [(1, l.cells rfL)] /\ OB T (hdB l ++ hX l.k [115, 104, 97, 114, 100] (enc l.sh.toNat) ++ hX l.k [101, 112, 111, 99, 104] (enc l.ep.toNat) ++ hX l.k [110] (enc l.n.toNat) ++ hX l.k [109] (enc l.m.toNat) ++ hX l.k [110, 111, 100, 101] (enc l.nd.toNat) ++ hX l.k [102, 108, 97, 103] ([qiw l.fl]) ++ hX l.k [98, 97, 108, 108, 111, 116] ((enc l.br.toNat ++ enc l.bn.toNat)) ++ hX l.k [116, 120, 110] (qay l.t) ++ hX l.k [105, 100] ((enc l.cl.toNat ++ enc l.sq.toNat)) ++ hX l.k [118, 97, 108] (q76 l.v) ++ hX l.k [110, 117, 109] (enc l.q.toNat)) v T1) (fun K hE hK => ?_) fun E L T1 hq => ?_
 ·rcases hq with rfl | rfl
  all_goals
   simp -implicitDefEqProofs -dsimp only [go_sem, seval, U0, p1, p2, p3, p4, p5, p6, ↓J0 _ _ J6]
   refine cpn (V3 l.k [110, 117, 109]) ?_
   rcases hh : q6z l.k [110, 117, 109] with _ | _
   ·simp -implicitDefEqProofs -dsimp only [go_sem, seval, U0, p1, p2, p3, p4, p5, p6]
    exact hK _ _ _ ⟨_, .inr rfl, rfl, by rw [show hX l.k [110, 117, 109] (enc l.q.toNat) = [] by simp only [hX, hh, Bool.false_eq_true, if_false], List.append_nil]; exact ho⟩
   ·have pq10 := qm3 l.q.toNat (by have := h.q; omega)
    rw [Int.toNat_of_nonneg h.q.1] at pq10
    simp -implicitDefEqProofs -dsimp only [go_sem, seval, U0, p1, p2, p3, p4, p5, p6, ↓J0 _ _ Y1]
    refine cpn (pq10) ?_
    simp -implicitDefEqProofs -dsimp only [go_sem, seval, U0, p1, p2, p3, p4, p5, p6]
    refine ho.appB (by (try simp only [List.length_append, List.length_cons, List.length_nil]); omega) fun v2 T2 ho => J1 ?_
    obtain ⟨p1, p2, p3, p4, p5, p6⟩ := ho.form
    simp -implicitDefEqProofs -dsimp only [go_sem, seval, U0, p1, p2, p3, p4, p5, p6]
    exact hK _ _ _ ⟨_, .inl rfl, rfl, by rw [show hX l.k [110, 117, 109] (enc l.q.toNat) = enc l.q.toNat by simp only [hX, hh, if_true]]; exact ho⟩
 obtain ⟨v, hq, rfl, ho⟩ := hq
 obtain ⟨p1, p2, p3, p4, p5, p6⟩ := ho.form
 refine q7u (by repeat' (first | exact N2 _ _ | assumption | apply N1 | apply K9 | apply Q3)) (fun E L T1 => ∃ v, (E = [(1, .lp 1 0), (3, v)] \/ E = [(1, .lp 1 0), (3, v), (118, .b false)]) /\ L = [(1, l.cells rfL)] /\ OB T (hdB l ++ hX l.k [115, 104, 97, 114, 100] (enc l.sh.toNat) ++ hX l.k [101, 112, 111, 99, 104] (enc l.ep.toNat) ++ hX l.k [110] (enc l.n.toNat) ++ hX l.k [109] (enc l.m.toNat) ++ hX l.k [110, 111, 100, 101] (enc l.nd.toNat) ++ hX l.k [102, 108, 97, 103] ([qiw l.fl]) ++ hX l.k [98, 97, 108, 108, 111, 116] ((enc l.br.toNat ++ enc l.bn.toNat)) ++ hX l.k [116, 120, 110] (qay l.t) ++ hX l.k [105, 100] ((enc l.cl.toNat ++ enc l.sq.toNat)) ++ hX l.k [118, 97, 108] (q76 l.v) ++ hX l.k [110, 117, 109] (enc l.q.toNat) ++ hX l.k [99, 111, 100, 101] (enc l.co.toNat)) v T1) (fun K hE hK => ?_) fun E L T1 hq => ?_
 ·rcases hq with rfl | rfl
  all_goals
   simp -implicitDefEqProofs -dsimp only [go_sem, seval, U0, p1, p2, p3, p4, p5, p6, ↓J0 _ _ J6]
   refine cpn (V3 l.k [99, 111, 100, 101]) ?_
   rcases hh : q6z l.k [99, 111, 100, 101] with _ | _
   ·simp -implicitDefEqProofs -dsimp only [go_sem, seval, U0, p1, p2, p3, p4, p5, p6]
    exact hK _ _ _ ⟨_, .inr rfl, rfl, by rw [show hX l.k [99, 111, 100, 101] (enc l.co.toNat) = [] by simp only [hX, hh, Bool.false_eq_true, if_false], List.append_nil]; exact ho⟩
   ·skip
    simp -implicitDefEqProofs -dsimp only [go_sem, seval, U0, p1, p2, p3, p4, p5, p6, ↓J0 _ _ G7]
    refine cpn (qao l.co (by have := h.co; omega)) ?_
    simp -implicitDefEqProofs -dsimp only [go_sem, seval, U0, p1, p2, p3, p4, p5, p6]
    refine ho.appB (by (try simp only [List.length_append, List.length_cons, List.length_nil]); omega) fun v2 T2 ho => J1 ?_
    obtain ⟨p1, p2, p3, p4, p5, p6⟩ := ho.form
    simp -implicitDefEqProofs -dsimp only [go_sem, seval, U0, p1, p2, p3, p4, p5, p6]
    exact hK _ _ _ ⟨_, .inl rfl, rfl, by rw [show hX l.k [99, 111, 100, 101] (enc l.co.toNat) = enc l.co.toNat by simp only [hX, hh, if_true]]; exact ho⟩
 obtain ⟨v, hq, rfl, ho⟩ := hq
 obtain ⟨p1, p2, p3, p4, p5, p6⟩ := ho.form
 rcases hq with rfl | rfl
 all_goals
  simp -implicitDefEqProofs -dsimp only [go_sem, seval, U0, p1, p2, p3, p4, p5, p6, ↓J0 _ _ qf4]
  refine cpn (qyz l h) ?_
  simp -implicitDefEqProofs -dsimp only [go_sem, seval, U0, p1, p2, p3, p4, p5, p6]
  refine ho.appB (by simp only [List.length_append]; omega) fun v2 T2 ho => J1 ?_
  obtain ⟨p1, p2, p3, p4, p5, p6⟩ := ho.form
  simp -implicitDefEqProofs -dsimp only [go_sem, seval, U0, p1, p2, p3, p4, p5, p6]
  exact OB.fin ho
end Go.Aw
