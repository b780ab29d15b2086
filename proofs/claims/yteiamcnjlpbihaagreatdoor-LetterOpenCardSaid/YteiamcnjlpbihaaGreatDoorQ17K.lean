import Derived.Test.YteiamcnjlpbihaaGreatDoorQ17B
import Derived.Test.YteiamcnjlpbihaaGreatDoorN17E12J
import Derived.Test.YteiamcnjlpbihaaGreatDoorN17M17B
namespace Go.Aw
open Go
open Go.Proofs.Tryz (prog)
set_option linter.all false
set_option maxHeartbeats 4000000
theorem zdv {l : List (Int × Bool)} {k : Nat} {y : Int × Bool} (h : l[k]? = some y) : (mem l).drop (k * 2) = [.i .i64 y.1, .b y.2] ++ (mem (l.drop (k + 1))) :=
 Z5 (f := fun m : Int × Bool => [AV.i .i64 m.1, .b m.2]) (fun _ => rfl) h
theorem za6 (l : List (Int × Bool)) : (mem l).length = l.length * 2 := O1 (f := fun m : Int × Bool => [AV.i .i64 m.1, .b m.2]) (fun _ => rfl) l
theorem Gr.appB {T T1 : Tab} {v : AV} {b m : List UInt8} {c : Option Nat} {K : AV -> Tab -> Prop} (h : Gr T 1 v b.length (K8 b) T1) (hb : b.length + m.length <= 1000000000) (h0 : 0 < m.length)
  (hk : ∀ v' T2, Own T 1 v' (b ++ m).length (K8 (b ++ m)) T2 -> K v' T2) : q1q 1 1 T1 v (bts m c) K := by
 refine h.app (m := m.length) (news := K8 m) (by simp [bts, G4, V4]) rfl h0 (by omega) (by omega) fun v' T2 ho => hk v' T2 ?_
 rw [V5, <- List.length_append] at ho
 exact ho
theorem z1c {a b : UInt8} : AV.fz 2 [.i .u8 (a.toNat : Int), .i .u8 (b.toNat : Int)] (some 2) = bts [a, b] (some 2) := rfl
theorem bts_one' {a : UInt8} : AV.fz 1 [.i .u8 (a.toNat : Int)] (some 1) = bts [a] (some 1) := rfl
theorem z7n {R : Z1} (hR : ExtR R) {T : Tab} {xs : List (Int × Bool)} {cap : Option Nat} {tc : List AV} (hl : xs.length <= 8) (hs : ∀ m ∈ xs, 0 <= m.1 /\ m.1 < 8) : ∀ (ys : List (Int × Bool)) (k : Nat), xs.drop k = ys -> k <= xs.length -> ∀ (b : List UInt8) (v : AV) (T1 : Tab), b.length <= 1001000 + 100 * k -> Own T 1 v b.length (K8 b) T1 ->
  (∀ v T1, Own T 1 v (b ++ ys.flatMap qwi).length (K8 (b ++ ys.flatMap qwi)) T1 -> R (.exit 0) [(1, .lp 1 0), (3, v), (21, .fz xs.length (mem xs) cap), (22, .i .i64 xs.length), (23, .i .i64 xs.length), (24, .b false)] [(1, tc)] T1) ->
  AW prog q97 R [(1, .lp 1 0), (3, v), (21, .fz xs.length (mem xs) cap), (22, .i .i64 xs.length), (23, .i .i64 k)] [(1, tc)] T1 := by
 intro ys
 induction ys with
 | nil =>
  intro k hk hle b v T1 hb ho h2
  obtain ⟨p1, p2, p3, p4, p5, p6⟩ := ho.form
  have hk' := Q7 hk hle
  refine Q5 hR ?_
  unfold q8e
  simp -implicitDefEqProofs -dsimp only [go_sem, seval, hk', Int.lt_irrefl, p1, p2, p3, p4, p5, p6]
  rw [hk'] at h2
  simp only [List.flatMap_nil, List.append_nil] at h2
  exact h2 _ _ ho
 | cons y ys ih =>
  intro k hk hle b v T1 hb ho h2
  obtain ⟨p1, p2, p3, p4, p5, p6⟩ := ho.form
  obtain ⟨hlt, hy, hk'⟩ := U6 hk
  have hc := zdv hy
  have hc5 : k * 2 + 2 <= (mem xs).length := by rw [za6]; omega
  have hm := hs y (List.mem_of_getElem? hy)
  obtain ⟨m, hmm⟩ := Int.eq_ofNat_of_zero_le hm.1
  have z0 : IntKind.u8.wrap 0 = ((qiw false).toNat : Int) := by decide +kernel
  have z1 : IntKind.u8.wrap 1 = ((qiw true).toNat : Int) := by decide +kernel
  have e : [UInt8.ofNat m, qiw y.2] = qwi y := by
   simp only [qwi, hmm, Int.toNat_natCast]; rw [q06 (by omega)]; rfl
  refine O0 (l := q97) rfl hR ?_
  unfold q8e
  obtain ⟨n, f⟩ := y
  simp only at hmm e
  cases f
  all_goals
   simp -implicitDefEqProofs -dsimp only [go_sem, seval, Int.ofNat_lt, hlt, Int.natCast_nonneg, Int.toNat_natCast, hc, hc5, List.cons_append, List.nil_append, p1, p2, p3, p4, p5, p6, hmm, qgu (n := m) (by omega), z0, z1, z1c]
   rw [e]
   refine ho.appB (by have := qj5 hm; omega) fun v2 T2 ho => J1 ?_
   obtain ⟨p1, p2, p3, p4, p5, p6⟩ := ho.form
   simp -implicitDefEqProofs -dsimp only [go_sem, seval, p1, p2, p3, p4, p5, p6]
   rw [N4 (by omega)]
   refine ih (k + 1) hk' hlt _ _ _ (by have := qj5 hm; rw [List.length_append]; omega) ho fun v T1 ho => h2 v T1 ?_
   simpa only [List.flatMap_cons, List.append_assoc] using ho
structure Rf.Ok (w : Rf) : Prop where
 ep : 0 <= w.ep /\ w.ep < 18446744073709551616
 sh : 0 <= w.sh /\ w.sh < 4
 l : w.l.length <= 8
 ms : ∀ m ∈ w.l, 0 <= m.1 /\ m.1 < 8
 ln : w.ln = -1 \/ (0 <= w.ln /\ w.ln < 8)
theorem Cf.Ok.plain {c : Cf} (h : c.Ok) : c.plain.Ok := ⟨h.ep, h.sh, by rw [c.plain_len]; exact h.ch, fun m hm => h.ms _ (by rw [<- c.plain_fst]; exact List.mem_map_of_mem hm), h.ln⟩
theorem z7o (w : Rf) (k1 : Option Nat) (h : w.Ok) (T : Tab) : ACalls prog q72 [.agg (w.cells k1)] T (fun v T' => Own T 1 v (qii w).length (K8 (qii w)) T') := by
 refine Z3 U3 qnf (by simp) ?_
 obtain ⟨hep, hsh, hl, hms, hln⟩ := h
 obtain ⟨ep, hepm⟩ := Int.eq_ofNat_of_zero_le hep.1
 obtain ⟨sh, hshm⟩ := Int.eq_ofNat_of_zero_le hsh.1
 have l1 := K5 (m := ep) (by omega)
 have l5 := q2x (g := qwi) w.l fun m hm => qj5 (hms m hm)
 unfold qdy
 simp -implicitDefEqProofs -dsimp only [go_sem, Nat.reduceEqDiff, Nat.reduceAdd, Nat.reduceMul, Nat.reduceSub, Nat.reduceLT, Nat.reduceLeDiff, Nat.reduceBEq, reduceIte, reduceCtorEq, Int.reduceLT, Int.reduceLE, Int.reduceEq, Int.reduceNeg, Int.reduceToNat, Int.reduceAdd, Int.reduceSub, Rf.cells, hepm, hshm, qgu (n := sh) (by omega), qgu (n := w.l.length) (by omega), z1c, ↓J0 _ _ Y1]
 refine CallK.of (qj3 ep (by omega) T) (fun v T1 ho => J1 ?_)
 obtain ⟨p1, p2, p3, p4, p5, p6⟩ := ho.form
 simp -implicitDefEqProofs -dsimp only [go_sem, Nat.reduceEqDiff, Nat.reduceAdd, Nat.reduceMul, Nat.reduceSub, Nat.reduceLT, Nat.reduceLeDiff, Nat.reduceBEq, reduceIte, reduceCtorEq, Int.reduceLT, Int.reduceLE, Int.reduceEq, Int.reduceNeg, Int.reduceToNat, Int.reduceAdd, Int.reduceSub, p1, p2, p3, p4, p5, p6, z1c]
 refine ho.appB (by simp; omega) (by simp) fun v2 T2 ho => J1 ?_
 obtain ⟨p1, p2, p3, p4, p5, p6⟩ := ho.form
 simp -implicitDefEqProofs -dsimp only [go_sem, Nat.reduceEqDiff, Nat.reduceAdd, Nat.reduceMul, Nat.reduceSub, Nat.reduceLT, Nat.reduceLeDiff, Nat.reduceBEq, reduceIte, reduceCtorEq, Int.reduceLT, Int.reduceLE, Int.reduceEq, Int.reduceNeg, Int.reduceToNat, Int.reduceAdd, Int.reduceSub, p1, p2, p3, p4, p5, p6]
 refine z7n (T := T) (by repeat' (first | exact N2 _ _ | assumption | apply N1 | apply K9 | apply Q3)) hl hms w.l 0 rfl (by omega) _ _ _ (by simp; omega) ho (fun v T1 ho => ?_)
 obtain ⟨p1, p2, p3, p4, p5, p6⟩ := ho.form
 have fin : ∀ n : Nat, n < 128 -> lnN w.ln = n -> enc ep ++ [UInt8.ofNat sh, UInt8.ofNat w.l.length] ++ w.l.flatMap qwi ++ [UInt8.ofNat n] = qii w := by
  intro n hn he
  unfold qii
  rw [he, hepm, hshm, q06 (n := w.l.length) (by omega), q06 hn, Int.toNat_natCast, Int.toNat_natCast, q06 (n := sh) (by omega)]
  simp
 have w8 : IntKind.u8.wrap 8 = ((UInt8.ofNat 8).toNat : Int) := by decide +kernel
 rcases hln with hln | hln
 ·have d : decide (w.ln < 0) = true := decide_eq_true (by omega)
  simp -implicitDefEqProofs -dsimp only [go_sem, Nat.reduceEqDiff, Nat.reduceAdd, Nat.reduceMul, Nat.reduceSub, Nat.reduceLT, Nat.reduceLeDiff, Nat.reduceBEq, reduceIte, reduceCtorEq, Int.reduceLT, Int.reduceLE, Int.reduceEq, Int.reduceNeg, Int.reduceToNat, Int.reduceAdd, Int.reduceSub, p1, p2, p3, p4, p5, p6, d, w8, bts_one']
  refine ho.appB (by simp only [List.length_append, List.length_cons, List.length_nil]; omega) fun v2 T2 ho => J1 ?_
  obtain ⟨p1, p2, p3, p4, p5, p6⟩ := ho.form
  simp -implicitDefEqProofs -dsimp only [go_sem, Nat.reduceEqDiff, Nat.reduceAdd, Nat.reduceMul, Nat.reduceSub, Nat.reduceLT, Nat.reduceLeDiff, Nat.reduceBEq, reduceIte, reduceCtorEq, Int.reduceLT, Int.reduceLE, Int.reduceEq, Int.reduceNeg, Int.reduceToNat, Int.reduceAdd, Int.reduceSub, p1, p2, p3, p4, p5, p6]
  rw [fin 8 (by omega) (by unfold lnN; rw [if_pos (by omega)])] at ho
  exact Own.fin ho (fun _ _ h => h)
 ·have d : decide (w.ln < 0) = false := decide_eq_false (by omega)
  obtain ⟨ln, hlnm⟩ := Int.eq_ofNat_of_zero_le hln.1
  have d' : decide ((ln : Int) < 0) = false := decide_eq_false (by omega)
  simp -implicitDefEqProofs -dsimp only [go_sem, Nat.reduceEqDiff, Nat.reduceAdd, Nat.reduceMul, Nat.reduceSub, Nat.reduceLT, Nat.reduceLeDiff, Nat.reduceBEq, reduceIte, reduceCtorEq, Int.reduceLT, Int.reduceLE, Int.reduceEq, Int.reduceNeg, Int.reduceToNat, Int.reduceAdd, Int.reduceSub, p1, p2, p3, p4, p5, p6, hlnm, d', qgu (n := ln) (by omega), bts_one']
  refine ho.appB (by simp only [List.length_append, List.length_cons, List.length_nil]; omega) fun v2 T2 ho => J1 ?_
  obtain ⟨p1, p2, p3, p4, p5, p6⟩ := ho.form
  simp -implicitDefEqProofs -dsimp only [go_sem, Nat.reduceEqDiff, Nat.reduceAdd, Nat.reduceMul, Nat.reduceSub, Nat.reduceLT, Nat.reduceLeDiff, Nat.reduceBEq, reduceIte, reduceCtorEq, Int.reduceLT, Int.reduceLE, Int.reduceEq, Int.reduceNeg, Int.reduceToNat, Int.reduceAdd, Int.reduceSub, p1, p2, p3, p4, p5, p6]
  rw [fin ln (by omega) (by unfold lnN; rw [if_neg (by omega)]; omega)] at ho
  exact Own.fin ho (fun _ _ h => h)
end Go.Aw
namespace Go.Aw
open Go
open Go.Proofs.Tryz (prog)
set_option linter.all false
set_option maxHeartbeats 4000000
theorem Own.appO {B T1 T2 : Tab} {v w : AV} {b m : List UInt8} {K : AV -> Tab -> Prop} (h1 : Own B 1 v b.length (K8 b) T1) (h2 : Own T1 1 w m.length (K8 m) T2) (hb : b.length + m.length <= 1000000000)
  (hk : ∀ v' T3, Owns B [⟨1, v', (b ++ m).length, K8 (b ++ m)⟩, ⟨1, w, m.length, K8 m⟩] T3 -> K v' T3) : q1q 1 1 T2 v w K := by
 have how : Owns B [⟨1, v, b.length, K8 b⟩, ⟨1, w, m.length, K8 m⟩] T2 := Owns.swap ⟨T1, ⟨B, rfl, h1⟩, h2⟩
 obtain ⟨e1, e2⟩ := h2.sl
 refine how.app (m := m.length) (news := K8 m) e1 e2 (by simp only; omega) (by simp only; omega) fun v' T3 ho => hk v' T3 ?_
 simp only [V5, <- List.length_append] at ho
 exact ho
theorem za7 (e : En) (k1 k2 : Option Nat) (h : e.Good) (T : Tab) : ACalls prog q3z [.agg (e.cells k1 k2)] T (fun v T' => v = bts (qaq e) none /\ T' = T) := by
 refine Z3 U3 qni (by simp) ?_
 obtain ⟨hep, hkd⟩ := h
 obtain ⟨ep, hepm⟩ := Int.eq_ofNat_of_zero_le (show 0 <= e.ep by omega)
 have l1 := K5 (m := ep) (by omega)
 unfold qdz
 rcases hkd with ⟨h3, h4, h5, h6, h7, h8⟩ | ⟨h3, h4, h5, h6, h7⟩
 ·have u1 : IntKind.u8.wrap 1 = ((UInt8.ofNat 1).toNat : Int) := by decide +kernel
  have ht := qij h4
  have c := fun T => quh e.t k1 k2 h4 T
  simp only [Tx.cells] at c
  simp -implicitDefEqProofs -dsimp only [go_sem, seval, En.cells, hepm, h3, u1, qih (rfl : ((UInt8.ofNat 1).toNat : Int) = _), ↓J0 _ _ Y1]
  refine CallK.of (qj3 ep (by omega) T) (fun v T1 ho => J1 ?_)
  obtain ⟨p1, p2, p3, p4, p5, p6⟩ := ho.form
  simp -implicitDefEqProofs -dsimp only [go_sem, seval, p1, p2, p3, p4, p5, p6, show IntKind.u8.wrap 1 = 1 by decide +kernel, qih (show (1 : Int) = ((UInt8.ofNat 1).toNat : Int) by decide)]
  refine ho.appB (by simp; omega) (by simp) fun v2 T2 ho => J1 ?_
  obtain ⟨p1, p2, p3, p4, p5, p6⟩ := ho.form
  simp -implicitDefEqProofs -dsimp only [go_sem, seval, p1, p2, p3, p4, p5, p6, decide_true, ↓J0 _ _ qbe]
  refine CallK.of (c T2) (fun w T3 ho3 => J1 ?_)
  obtain ⟨q1, q2, q3, q4, q5, q6⟩ := ho3.form
  simp -implicitDefEqProofs -dsimp only [go_sem, seval, p1, p2, p3, p4, p5, p6, q1, q2, q3, q4, q5, q6]
  refine ho.appO ho3 (by simp; omega) fun v4 T4 how => J1 ?_
  obtain ⟨q1, q2, q3, q4, q5, q6⟩ := how.form (List.mem_cons_self ..)
  simp only at q1 q2 q3 q4 q5 q6
  simp -implicitDefEqProofs -dsimp only [go_sem, seval, q1, q2, q3, q4, q5, q6]
  have e1 : enc ep ++ [1] ++ qay e.t = qaq e := by
   rw [show ([1] : List UInt8) = [UInt8.ofNat 1] from rfl]
   rw [<- q06 (n := 1) (by omega)]; simp [qaq, h3, hepm]
  refine q1f how fun S hS => ?_
  obtain ⟨c1, e2⟩ := hS _ (List.mem_cons_self ..)
  simp only [e1] at e2
  obtain ⟨T0, _, hv4⟩ := how
  have : qo7 T4 S v4 = qhg T4 S v4 := by
   rcases hv4.2 with ⟨h, _⟩ | ⟨j, h, _⟩ <;> (simp only at h; rw [h]; rfl)
  rw [this, e2]; exact .fz
 ·have u1 : IntKind.u8.wrap 2 = ((UInt8.ofNat 2).toNat : Int) := by decide +kernel
  obtain ⟨cl, hcl⟩ := Int.eq_ofNat_of_zero_le h5.1
  obtain ⟨sq, hsq⟩ := Int.eq_ofNat_of_zero_le (show 0 <= e.sq by omega)
  obtain ⟨co, hco⟩ := Int.eq_ofNat_of_zero_le (show 0 <= e.co by omega)
  have l3 := K5 (m := cl) (by omega)
  have l4 := K5 (m := sq) (by omega)
  simp -implicitDefEqProofs -dsimp only [go_sem, seval, En.cells, hepm, h3, hcl, hsq, hco, u1, qih (rfl : ((UInt8.ofNat 2).toNat : Int) = _), ↓J0 _ _ Y1]
  refine CallK.of (qj3 ep (by omega) T) (fun v T1 ho => J1 ?_)
  obtain ⟨p1, p2, p3, p4, p5, p6⟩ := ho.form
  simp -implicitDefEqProofs -dsimp only [go_sem, seval, p1, p2, p3, p4, p5, p6, show IntKind.u8.wrap 2 = 2 by decide +kernel, qih (show (2 : Int) = ((UInt8.ofNat 2).toNat : Int) by decide)]
  refine ho.appB (by simp; omega) (by simp) fun v2 T2 ho => J1 ?_
  obtain ⟨p1, p2, p3, p4, p5, p6⟩ := ho.form
  simp -implicitDefEqProofs -dsimp only [go_sem, seval, p1, p2, p3, p4, p5, p6, decide_false, ↓J0 _ _ qfc]
  refine CallK.of (zaw T2 cl sq (by omega) (by omega)) (fun w T3 ho3 => J1 ?_)
  obtain ⟨q1, q2, q3, q4, q5, q6⟩ := ho3.form
  simp -implicitDefEqProofs -dsimp only [go_sem, seval, p1, p2, p3, p4, p5, p6, q1, q2, q3, q4, q5, q6]
  refine ho.appO ho3 (by simp; omega) fun v4 T4 how => J1 ?_
  obtain ⟨q1, q2, q3, q4, q5, q6⟩ := how.form (List.mem_cons_self ..)
  simp only at q1 q2 q3 q4 q5 q6
  simp -implicitDefEqProofs -dsimp only [go_sem, seval, q1, q2, q3, q4, q5, q6, qgu (n := co) (by omega), qih (rfl : ((UInt8.ofNat co).toNat : Int) = _)]
  refine how.app (b := 1) (m := 1) (news := K8 [UInt8.ofNat co]) (by simp [bts, G4, K8]) rfl (by simp; omega) (by simp; omega) fun v5 T5 how => J1 ?_
  obtain ⟨q1, q2, q3, q4, q5, q6⟩ := how.form (List.mem_cons_self ..)
  simp only at q1 q2 q3 q4 q5 q6
  simp -implicitDefEqProofs -dsimp only [go_sem, seval, q1, q2, q3, q4, q5, q6]
  have e1 : enc ep ++ [2] ++ (enc cl ++ enc sq) ++ [UInt8.ofNat co] = qaq e := by
   rw [show ([2] : List UInt8) = [UInt8.ofNat 2] from rfl]
   rw [<- q06 (n := 2) (by omega), <- q06 (n := co) (by omega)]; simp [qaq, h3, hepm, hcl, hsq, hco]
  refine q1f how fun S hS => ?_
  obtain ⟨c1, e2⟩ := hS _ (List.mem_cons_self ..)
  simp only [V5] at e2
  rw [show List.length (enc ep ++ ([2] : List UInt8) ++ (enc cl ++ enc sq)) + 1 = List.length (enc ep ++ ([2] : List UInt8) ++ (enc cl ++ enc sq) ++ [UInt8.ofNat co]) by simp only [List.length_append, List.length_cons, List.length_nil], e1] at e2
  obtain ⟨T0, _, hv4⟩ := how
  have : qo7 T5 S v5 = qhg T5 S v5 := by
   rcases hv4.2 with ⟨h, _⟩ | ⟨j, h, _⟩ <;> (simp only at h; rw [h]; rfl)
  rw [this, e2]; exact .fz
end Go.Aw
