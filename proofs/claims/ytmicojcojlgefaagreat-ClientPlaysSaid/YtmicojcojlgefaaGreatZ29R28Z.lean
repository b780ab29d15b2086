import Derived.Test.YtmicojcojlgefaaGreatZ29R28J
import Derived.Test.YtmicojcojlgefaaGreatZ29V28X
import Derived.Test.YtmicojcojlgefaaGreatAwD
namespace Go.Aw
open Go
open Go.Proofs.Tryz (prog)
set_option linter.all false
set_option maxHeartbeats 4000000
def SlV (T : Tab) (v : AV) (n : Nat) (xs : List AV) : Prop := (∃ cap, v = .fz n xs cap) \/ (∃ id, v = .sl id 0 n none /\ T id = .row 2 xs)
def rvC (x : Cf × AV) : List AV := [.i .u64 x.1.ep, .i .i64 x.1.sh, x.2, .i .i64 x.1.ln]
theorem qi4 (x : Cf × AV) : (rvC x).length = 4 := rfl
def RRt (T : Tab) (id : Nat) (l : List (Cf × AV)) : Prop := ∃ rL, T id = .row 1 [.sl rL 0 l.length none] /\ T rL = .row 4 (l.flatMap rvC) /\ ∀ x ∈ l, SlV T x.2 x.1.ch.length (mem x.1.plain.l)
theorem za6 : ∀ L : Fin 9, ∀ k : Fin 4, (cf0 L.val k.val).plain.l = chr k.val L.val L.val := by decide +kernel
theorem z0z (L : Nat) : ∀ (ps : List AV) (k : Nat), qoy k ps = (((List.range' k ps.length).map (cf0 L)).zip ps).flatMap rvC
 | [], k => rfl
 | p :: ps, k => by
  simp only [qoy, List.length_cons, List.range'_succ, List.map_cons, List.zip_cons_cons, List.flatMap_cons]
  rw [z0z L ps (k + 1)]; rfl
theorem z4r (L : Nat) : ∀ (ps : List AV) (k : Nat), ∀ x ∈ ((List.range' k ps.length).map (cf0 L)).zip ps, ∃ j, k <= j /\ j < k + ps.length /\ x.1 = cf0 L j /\ (⟨2, x.2, L, mem (chr (j : Int) L L)⟩ : Ow) ∈ qyr L k ps
 | [], k, x, h => by simp at h
 | p :: ps, k, x, h => by
  simp only [List.length_cons, List.range'_succ, List.map_cons, List.zip_cons_cons, List.mem_cons] at h
  rcases h with rfl | h
  ·exact ⟨k, by omega, by simp, rfl, by simp [qyr]⟩
  ·obtain ⟨j, h1, h2, h3, h4⟩ := z4r L ps (k + 1) x h
   exact ⟨j, by omega, by simp only [List.length_cons]; omega, h3, List.mem_cons_of_mem _ h4⟩
def rtQ (T : Tab) (S L : Nat) (r : AV) (T' : Tab) : Prop := ∃ id l, r = .ptr id 0 /\ T id = .unused /\ RRt T' id l /\ l.map (·.1) = qt0 L S /\ TabLe T T' /\ ∀ j, T j ≠ .unused -> T' j = T j
theorem z3e {T : Tab} {S L : Nat} {v : Int} (h : sok S L v = true) : ACalls prog q3e [.agg (stC S L v)] T (rtQ T S L) := by
 refine U9 Q7 qm5 (by simp) ?_
 have hh := of_decide_eq_true h
 unfold qe3
 have hN := z5z (T0 := T) h
 simp only [stC] at hN
 simp -implicitDefEqProofs -dsimp only [go_sem, seval, stC, ↓J0 _ _ qmb]
 refine CallK.of hN (fun r T1 ⟨id, vC, ps, e1, hid, hps, how⟩ => J1 ?_)
 subst e1
 obtain ⟨rL, e2, t2, u2⟩ := how.get (List.mem_cons_self ..) (by simp only; omega)
 simp only at e2 t2
 subst e2
 have e3 : T1 id = stR S L v (.sl rL 0 S none) := by
  rw [how.base_get (by rw [Tab.put_same]; simp [stR]), Tab.put_same]
 simp -implicitDefEqProofs -dsimp only [go_sem, seval, e3, stR]
 refine fun id2 hid2 => J1 ?_
 simp -implicitDefEqProofs -dsimp only [go_sem, seval]
 have hle : TabLe T T1 := fun j => by
  by_cases e : j = id
  ·subst e; exact .inl hid
  ·have := how.le j; rwa [Tab.put_ne _ _ e] at this
 have hl : (((List.range' 0 ps.length).map (cf0 L)).zip ps).length = S := by simp [hps]
 refine V1 _ (fun _ => .inr (.inl rfl)) ⟨id2, ((List.range' 0 ps.length).map (cf0 L)).zip ps, rfl, hle.unused hid2, ⟨rL, ?_, ?_, ?_⟩, ?_, hle.put (hle.unused hid2), fun j hj => ?_⟩
 ·rw [Tab.put_same, hl]
 ·rw [Tab.put_ne _ _ (fun e => by subst e; rw [t2] at hid2; cases hid2), t2, z0z L]
 ·intro x hx
  obtain ⟨j, h1, h2, h3, h4⟩ := z4r L ps 0 x hx
  obtain ⟨i, e4, t4, u4⟩ := how.get (List.mem_cons_of_mem _ h4) (by simp only; omega)
  simp only at e4 t4
  refine .inr ⟨i, ?_, ?_⟩
  ·rw [e4, h3]; simp [cf0, z0e]
  ·rw [Tab.put_ne _ _ (fun e => by subst e; rw [t4] at hid2; cases hid2), t4, h3]
   have := za6 ⟨L, by omega⟩ ⟨j, by omega⟩
   simp only at this
   rw [this]
 ·rw [List.map_fst_zip (by simp), hps]; simp [qt0, List.range_eq_range']
 ·have e : (T.put id (stR S L v (.sl rL 0 S none))) j = T j := Tab.put_ne _ _ (fun e => by subst e; exact hj hid)
  have e4 := how.base_get (id := j) (by rw [e]; exact hj)
  rw [Tab.put_ne _ _ (fun e => by subst e; exact hj (hle.unused hid2)), e4, e]
theorem RRt.keep {T T' : Tab} {id : Nat} {l : List (Cf × AV)} (h : RRt T id l) (hk : ∀ j z xs, T j = .row z xs -> z ≠ 5 -> T' j = T j) : RRt T' id l := by
 obtain ⟨rL, h1, h2, h3⟩ := h
 refine ⟨rL, by rw [hk _ _ _ h1 (by omega), h1], by rw [hk _ _ _ h2 (by omega), h2], fun x hx => ?_⟩
 rcases h3 x hx with h | ⟨i, e, t⟩
 ·exact .inl h
 ·exact .inr ⟨i, e, by rw [hk _ _ _ t (by omega), t]⟩
theorem z3f {α : Type} {f : α -> List AV} {z : Nat} (hf : ∀ x, (f x).length = z) {l : List α} {k : Nat} {x : α} (h : k < l.length) : q0o (l.flatMap f) (k * z) (f x) = (l.set k x).flatMap f := by
 induction l generalizing k with
 | nil => simp at h
 | cons a l ih =>
  cases k with
  | zero =>
   simp only [q0o, List.flatMap_cons, Nat.zero_mul, List.take_zero, List.nil_append, List.set_cons_zero, Nat.zero_add, hf]
   rw [List.drop_append_of_le_length (by rw [hf]; omega), List.drop_of_length_le (by rw [hf]; omega), List.nil_append]
  | succ k =>
   have := ih (k := k) (by simpa using h)
   simp only [q0o, hf] at this ⊢
   rw [show (k + 1) * z = (f a).length + k * z by rw [hf, Nat.add_mul]; omega, List.flatMap_cons, List.set_cons_succ, List.flatMap_cons, <- this]
   rw [List.take_length_add_append, Nat.add_assoc, List.drop_length_add_append]
   simp only [List.append_assoc]
theorem z3g {c : Cf} (h : c.right = true) : 0 <= c.sh := by
 simp only [Cf.right, Bool.and_eq_true, Bool.not_eq_true', decide_eq_false_iff_not, Bool.not_eq_false', decide_eq_true_eq] at h
 obtain ⟨⟨⟨⟨⟨⟨⟨⟨h1, h2⟩, h3⟩, h4⟩, h5⟩, h6⟩, h7⟩, h8⟩, h9⟩ := h
 omega
def rlQ (T : Tab) (id : Nat) (m : List Cf) (c : Cf) (r : AV) (T' : Tab) : Prop := r = .b (lrn m c) /\ (∃ l, RRt T' id l /\ l.map (·.1) = qv0 m c) /\ ∀ j, j ≠ id -> T j ≠ .unused -> T' j = T j
theorem z10 {T : Tab} {id : Nat} {l : List (Cf × AV)} (hR : RRt T id l) (c : Cf) (k : Option Nat) (hc : c.fu.length = c.ch.length) (hcl : Len c.ch.length) (hn : 1 <= l.length /\ l.length <= 4) : ACalls prog q1i [.ptr id 0, .agg (c.plain.cells k)] T (rlQ T id (l.map (·.1)) c) := by
 refine U9 Q7 qdx (by simp) ?_
 have hR0 := hR
 obtain ⟨rL, h1, h2, h3⟩ := hR
 have c1 := qu6 c.plain k (by rw [c.plain_len]; exact hcl)
 rw [c.plain_right hc] at c1
 have hstop : lrn (l.map (·.1)) c = false -> rlQ T id (l.map (·.1)) c (.b false) T := fun h => ⟨by rw [h], ⟨l, hR0, by rw [qv0, if_neg (by rw [h]; simp)]⟩, fun _ _ _ => rfl⟩
 have hlr : lrn (l.map (·.1)) c = match at? (l.map (·.1)) c.sh with
   | some o => c.right && decide (o.ep < c.ep)
   | none => false := rfl
 simp only [Rf.cells, Cf.plain] at c1
 unfold q87
 simp -implicitDefEqProofs -dsimp only [go_sem, seval, Rf.cells, Cf.plain, ↓J0 _ _ qbv]
 refine cpn c1 ?_
 rcases hr : c.right with _ | _
 ·simp -implicitDefEqProofs -dsimp only [go_sem, seval, hr, ↓N1, Bool.not_false, h1]
  refine V1 T (fun _ => .inr (.inl rfl)) (hstop ?_)
  rw [hlr]; split <;> simp [hr]
 have hs0 := z3g hr
 by_cases hs : (l.length : Int) <= c.sh
 ·simp -implicitDefEqProofs -dsimp only [go_sem, seval, hr, ↓N1, Bool.not_true, h1, hs, decide_true]
  refine V1 T (fun _ => .inr (.inl rfl)) (hstop ?_)
  rw [hlr, at?, if_pos hs0, List.getElem?_eq_none (by simp; omega)]
 obtain ⟨o, ho⟩ : ∃ o, l[c.sh.toNat]? = some o := ⟨_, List.getElem?_eq_getElem (show c.sh.toNat < l.length by omega)⟩
 have hat : at? (l.map (·.1)) c.sh = some o.1 := by rw [at?, if_pos hs0, List.getElem?_map, ho]; rfl
 have hlr' : lrn (l.map (·.1)) c = decide (o.1.ep < c.ep) := by rw [hlr, hat]; simp [hr]
 have hcell := V0 qi4 ho
 have hlt : c.sh < l.length := by omega
 have hlen : c.sh.toNat * 4 + 4 <= (l.flatMap rvC).length := by rw [K8 qi4]; omega
 have hget : (l.flatMap rvC)[c.sh.toNat * 4]? = some (.i .u64 o.1.ep) := by
  have := congrArg (fun l : List AV => l[0]?) hcell
  simpa [List.getElem?_drop, rvC] using this
 have hd : decide ((l.length : Int) <= c.sh) = false := decide_eq_false hs
 simp -implicitDefEqProofs -dsimp only [go_sem, seval, hr, ↓N1, Bool.not_true, h1, hd, h2, hs0, hlt, hget]
 refine J2 (fun h => ?_) (fun h => ?_)
 ·have h' := of_decide_eq_true h
  simp -implicitDefEqProofs -dsimp only [go_sem, seval, h]
  exact V1 T (fun _ => .inr (.inl rfl)) (hstop (by rw [hlr', decide_eq_false (by omega)]))
 have h' := of_decide_eq_false h
 have hf : lrn (l.map (·.1)) c = true := by rw [hlr', decide_eq_true (by omega)]
 simp -implicitDefEqProofs -dsimp only [go_sem, seval, h, h1]
 have hsl : Z0 T 4 (.sl rL 0 l.length none) = some (l.flatMap rvC) := by
  have e : (l.flatMap rvC).length = l.length * 4 := K8 qi4 l
  simp only [Z0, h2]
  rw [if_pos ⟨trivial, by omega⟩, List.drop_zero, List.take_of_length_le (by omega)]
 refine (Own.nil T 4).app (m := l.length) hsl rfl (by omega) (by omega) fun v' T2 how => J1 ?_
 obtain ⟨i, rfl, hi, rfl⟩ := how.ne (by omega)
 rw [Nat.zero_add, List.nil_append]
 have hne : i ≠ id := fun e => by subst e; rw [h1] at hi; cases hi
 have t1 : (T.put i (.row 4 (l.flatMap rvC))) id = .row 1 [.sl rL 0 l.length none] := by rw [Tab.put_ne _ _ (Ne.symm hne), h1]
 simp -implicitDefEqProofs -dsimp only [go_sem, seval, hs0, hlt]
 refine q4h (Tab.put_same ..) rfl rfl (by simpa using hlen) ?_
 refine J1 ?_
 rw [Tab.put_put]
 have t3 : (T.put i (.row 4 (q0o (l.flatMap rvC) (c.sh.toNat * 4) [.i .u64 c.ep, .i .i64 c.sh, .fz (qc5 c.fu c.ch 0).length (mem (qc5 c.fu c.ch 0)) k, .i .i64 c.ln]))) id = .row 1 [.sl rL 0 l.length none] := by rw [Tab.put_ne _ _ (Ne.symm hne), h1]
 simp -implicitDefEqProofs -dsimp only [go_sem, seval]
 refine q4h t3 rfl rfl (by simp) ?_
 refine J1 ?_
 simp -implicitDefEqProofs -dsimp only [go_sem, seval]
 refine V1 _ (fun _ => .inr (.inl rfl)) ⟨by rw [hf], ⟨l.set c.sh.toNat (c, .fz (qc5 c.fu c.ch 0).length (mem (qc5 c.fu c.ch 0)) k), ⟨i, ?_, ?_, ?_⟩, ?_⟩, ?_⟩
 ·rw [Tab.put_same, List.length_set]
  first | done | rfl
 ·rw [Tab.put_ne _ _ hne, Tab.put_same, <- z3f qi4 (by omega)]; rfl
 ·intro x hx
  have hkeep : ∀ j xs, T j = .row 2 xs -> ((T.put i (.row 4 (q0o (l.flatMap rvC) (c.sh.toNat * 4) [.i .u64 c.ep, .i .i64 c.sh, .fz (qc5 c.fu c.ch 0).length (mem (qc5 c.fu c.ch 0)) k, .i .i64 c.ln]))).put id (.row 1 (q0o [.sl rL 0 l.length none] 0 [.sl i 0 l.length none]))) j = .row 2 xs := fun j xs ht => by
   rw [Tab.put_ne _ _ (fun e => by subst e; rw [h1] at ht; cases ht), Tab.put_ne _ _ (fun e => by subst e; rw [hi] at ht; cases ht), ht]
  rcases List.mem_or_eq_of_mem_set hx with hx | rfl
  ·rcases h3 x hx with h | ⟨j, e, t⟩
   ·exact .inl h
   ·exact .inr ⟨j, e, hkeep j _ t⟩
  ·exact .inl ⟨k, by simp only [qcb]; rfl⟩
 ·rw [qv0, if_pos hf, List.map_set]
 ·intro j hj hu
  rw [Tab.put_ne _ _ hj, Tab.put_ne _ _ (fun e => by subst e; exact hu hi)]
end Go.Aw
namespace Go.Aw
open Go
open Go.Proofs.Tryz (prog)
set_option linter.all false
set_option maxHeartbeats 4000000
theorem z69 {t : Int} {n : Nat} (h : 1 <= n /\ n <= 8) : (Int.tmod t n < 0 -> Int.tmod t n + n = (rdx t n : Int)) /\ (¬ Int.tmod t n < 0 -> Int.tmod t n = (rdx t n : Int)) := by
 have hp : (0 : Int) < n := by omega
 have h1 := Int.lt_tmod_of_pos t hp
 have h2 := Int.tmod_lt_of_pos t hp
 unfold rdx
 obtain ⟨q, hq⟩ : ∃ q, Int.tmod t n = q := ⟨_, rfl⟩
 rw [hq] at h1 h2 ⊢
 refine ⟨fun h => ?_, fun h => ?_⟩
 ·rw [Int.tmod_eq_of_lt (by omega) (by omega)]; omega
 ·rw [Int.tmod_eq_emod_of_nonneg (by omega), Int.add_emod_right, Int.emod_eq_of_lt (by omega) (by omega)]; omega
theorem qun {c : Cf} {k : Nat} {x : Int} (h : c.ch[k]? = some x) : (mem c.plain.l)[k * 2]? = some (.i .i64 x) := by
 have e := c.plain_fst
 rw [<- e, List.getElem?_map] at h
 cases hm : c.plain.l[k]? with
 | none => rw [hm] at h; cases h
 | some m =>
  rw [hm] at h
  simp only [Option.map_some, Option.some.injEq] at h
  have := congrArg (fun l : List AV => l[0]?) (qru hm)
  rw [<- h]
  simpa [List.getElem?_drop] using this
theorem qyc {T : Tab} {id : Nat} {l : List (Cf × AV)} (hR : RRt T id l) (key : Bs) (hl : Len key.length) (t : Int) (c : Cf) (v : AV) (x : Int) (hc : l[I0 key l.length]? = some (c, v)) (hx : c.ch[rdx t c.ch.length]? = some x) (hcr : c.right = true) (hn : 1 <= l.length /\ l.length <= 4) :
  ACalls prog q18 [.ptr id 0, .s key, .i .i64 t] T (fun r T' => r = .i .i64 (if qdh key = true then x else -1) /\ T' = T) := by
 obtain ⟨rL, h1, h2, h3⟩ := hR
 refine U9 Q7 qd2 (by simp) ?_
 unfold q7a
 simp -implicitDefEqProofs -dsimp only [go_sem, seval, ↓J0 _ _ q4e]
 refine cpn (qic key hl) ?_
 rcases hk : qdh key with _ | _
 ·simp -implicitDefEqProofs -dsimp only [go_sem, seval, hk]
  exact K1 rfl
 have hcl := qdi hcr
 have hs := qgf (k := key) hn
 have hcell := V0 qi4 hc
 have hget : (l.flatMap rvC)[I0 key l.length * 4 + 2]? = some v := by
  have := congrArg (fun l : List AV => l[2]?) hcell
  simpa [List.getElem?_drop, rvC] using this
 have hmem : (c, v) ∈ l := List.mem_of_getElem? hc
 have hv := h3 _ hmem
 simp only at hv
 obtain ⟨w1, w2, w3, w4, w5⟩ := qqh (t := t) (n := c.ch.length) ⟨hcl.1, hcl.2.1⟩
 obtain ⟨r1, r2⟩ := z69 (t := t) (n := c.ch.length) ⟨hcl.1, hcl.2.1⟩
 have z1 : ((c.ch.length : Int) = 0) = False := eq_false (by omega)
 have hpx := qun hx
 have hpx' : ((mem c.plain.l).drop (rdx t c.ch.length * 2))[0]? = some (.i .i64 x) := by rw [List.getElem?_drop]; exact hpx
 have w6 : IntKind.i64.wrap (rdx t c.ch.length : Int) = (rdx t c.ch.length : Int) := q02 (by unfold I64; omega)
 simp -implicitDefEqProofs -dsimp only [go_sem, seval, hk, h1, ↓J0 _ _ qc2]
 refine CallK.pure (qul key l.length hl) (qk4 (fun _ => ⟨?_, trivial⟩) ?_)
 ·simp -implicitDefEqProofs -dsimp only [go_sem, seval, qdk, gdd, h1]
 rcases hv with ⟨cap, rfl⟩ | ⟨i, rfl, hi⟩
 ·simp -implicitDefEqProofs -dsimp only [go_sem, seval, h2, hs, hget, Int.ofNat_lt, Int.natCast_nonneg, Int.toNat_natCast, z1, w1]
  refine J2 (fun h => ?_) (fun h => ?_)
  ·have e := r1 (of_decide_eq_true h)
   simp -implicitDefEqProofs -dsimp only [go_sem, seval, h, w1, w2, e, Int.ofNat_lt, w5, Int.natCast_nonneg, Int.toNat_natCast, w6, hpx']
   exact K1 rfl
  ·have e := r2 (of_decide_eq_false h)
   simp -implicitDefEqProofs -dsimp only [go_sem, seval, h, w1, w2, e, Int.ofNat_lt, w5, Int.natCast_nonneg, Int.toNat_natCast, w6, hpx']
   exact K1 rfl
 ·simp -implicitDefEqProofs -dsimp only [go_sem, seval, h2, hs, hget, Int.ofNat_lt, Int.natCast_nonneg, Int.toNat_natCast, z1, w1]
  refine J2 (fun h => ?_) (fun h => ?_)
  ·have e := r1 (of_decide_eq_true h)
   simp -implicitDefEqProofs -dsimp only [go_sem, seval, h, w1, w2, e, Int.ofNat_lt, w5, Int.natCast_nonneg, Int.toNat_natCast, w6, hi, hpx]
   exact K1 rfl
  ·have e := r2 (of_decide_eq_false h)
   simp -implicitDefEqProofs -dsimp only [go_sem, seval, h, w1, w2, e, Int.ofNat_lt, w5, Int.natCast_nonneg, Int.toNat_natCast, w6, hi, hpx]
   exact K1 rfl
end Go.Aw
