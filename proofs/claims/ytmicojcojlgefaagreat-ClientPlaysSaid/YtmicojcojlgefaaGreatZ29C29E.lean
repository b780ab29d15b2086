import Derived.Test.YtmicojcojlgefaaGreatZ29C29A
namespace Go.Aw
open Go
open Go.Proofs.Tryz (prog)
set_option linter.all false
set_option maxHeartbeats 8000000
set_option maxRecDepth 8000
theorem qt5 {T : Tab} {S L : Nat} {v : Int} (h : sok S L v = true) : ACalls prog qfq [.agg (stC S L v)] T
  (fun r T' => ∃ id idL, r = .ptr id 0 /\ T id = .unused /\ T idL = .unused /\ id ≠ idL /\ T' = (T.put idL (.row 5 (qk1 (qt0 L S)))).put id (.row 1 [.sl idL 0 (qt0 L S).length none])) := by
 refine U9 Q7 qvm (by simp) ?_
 have hh := of_decide_eq_true h
 unfold qpx
 simp -implicitDefEqProofs -dsimp only [go_sem, seval, stC, ↓J0 _ _ q6q, ↓J0 _ _ qpz, ↓J0 _ _ qcr]
 refine cpn (qcc S L v) ?_
 simp -implicitDefEqProofs -dsimp only [go_sem, seval, h, ↓J0 _ _ qpz]
 refine CallK.of (qub h) (fun r T1 ⟨id, vC, ps, e1, hid, hps, how⟩ => J1 ?_)
 subst e1
 simp -implicitDefEqProofs -dsimp only [go_sem, seval, ↓J0 _ _ qcr]
 refine CallK.of (z38 rfl hid (by omega) (by omega) (by omega) (by omega) hps how) (fun r T2 ⟨hx, ho⟩ => J1 ?_)
 rcases ho with ⟨_, e, _⟩ | ⟨iO, eO, hiO, h2⟩
 ·omega
 subst eO
 subst h2
 simp -implicitDefEqProofs -dsimp only [go_sem, seval]
 refine fun id2 hid2 => J1 ?_
 simp -implicitDefEqProofs -dsimp only [go_sem, seval]
 obtain ⟨hne, hu⟩ := Tab.unused_put hid2
 exact V1 _ (fun _ => .inr (.inl rfl)) ⟨id2, iO, rfl, hu, hiO, hne, by simp [qt0]⟩
structure Cr where
 cl : Int
 sq : Int
 n : Int
 co : Int
 v : Bs
 q : Int
structure Cl where
 me : Int
 ma : Int
 sq : Nat
 l : List Cf
 w : Option (Cp × Int)
 la : Option Cr
def ptO {α : Type} (o : Option α) (w : Nat) : AV := match o with
 | none => .nilptr
 | some _ => .ptr w 0
def qb3 (c : Cl) (r w x : Nat) : Slot := .row 6 [.i .i64 c.me, .i .i64 c.ma, .ptr r 0, .i .u64 c.sq, ptO c.w w, ptO c.la x]
def qx7 (me : Int) (sq : Nat) (o : Cp) (t : Int) : Slot := .row 8 [.i .i64 me, .i .u64 sq, .i .i64 o.k, .s o.key, .s o.v, .fz o.rs.length (o.rs.flatMap rdC) none, .fz o.ws.length (o.ws.flatMap wtC) none, .i .i64 t]
def qyu (y : Cr) : Slot := .row 6 [.i .i64 y.cl, .i .u64 y.sq, .i .i64 y.n, .i .i64 y.co, .s y.v, .i .u64 y.q]
structure Ct (T : Tab) (id r l w x : Nat) (c : Cl) : Prop where
 cr : T id = qb3 c r w x
 rt : Rt T r l c.l
 cw : ∀ o, c.w = some o -> T w = qx7 c.me c.sq o.1 o.2
 cy : ∀ y, c.la = some y -> T x = qyu y /\ id ≠ x
def Fr (fp new : List Nat) (T T' : Tab) : Prop := (∀ j, T j ≠ .unused -> j ∉ fp -> T' j = T j) /\ ∀ j ∈ new, j ∈ fp \/ T j = .unused
def cOk (me ma s l v : Int) : Bool := decide (0 <= me) && decide (me < 6) && decide (1 <= ma) && decide (ma <= 5) && sok s l v
def cl0 (me ma : Int) (S L : Nat) : Cl := ⟨me, ma, 0, qt0 L S, none, none⟩
theorem z3x {me ma s l v : Int} (h : cOk me ma s l v = false) : PCalls prog q9l [.i .i64 me, .i .i64 ma, .agg (stC s l v)] .nilptr := by
 refine K5 Q7 qo2 (by simp) fun T => ?_
 have c1 := qcc s l v
 simp only [stC] at c1
 unfold qh8
 simp -implicitDefEqProofs -dsimp only [go_sem, seval, stC]
 rcases h1 : decide (me < 0) with _ | _
 ·rcases h2 : decide (6 <= me) with _ | _
  ·rcases h3 : decide (ma < 1) with _ | _
   ·rcases h4 : decide (5 < ma) with _ | _
    ·have e : sok s l v = false := by
      have h1 := of_decide_eq_false h1
      have h2 := of_decide_eq_false h2
      have h3 := of_decide_eq_false h3
      have h4 := of_decide_eq_false h4
      simpa [cOk, show 0 <= me by omega, show me < 6 by omega, show 1 <= ma by omega, show ma <= 5 by omega] using h
     rw [e] at c1
     simp -implicitDefEqProofs -dsimp only [go_sem, seval, h1, h2, h3, h4, ↓N1, U6, true_and, ↓J0 _ _ q6q]
     refine cpn c1 ?_
     simp -implicitDefEqProofs -dsimp only [go_sem, seval]
     exact K1 rfl
    ·simp -implicitDefEqProofs -dsimp only [go_sem, seval, h1, h2, h3, h4, ↓N1, U6, true_and]
     exact K1 rfl
   ·simp -implicitDefEqProofs -dsimp only [go_sem, seval, h1, h2, h3, ↓N1, U6, true_and]
    exact K1 rfl
  ·simp -implicitDefEqProofs -dsimp only [go_sem, seval, h1, h2, ↓N1, U6, true_and]
   exact K1 rfl
 ·simp -implicitDefEqProofs -dsimp only [go_sem, seval, h1, ↓N1, U6, true_and]
  exact K1 rfl
theorem z1l {T : Tab} {me ma : Int} {S L : Nat} {v : Int} (h : cOk me ma S L v = true) : ACalls prog q9l [.i .i64 me, .i .i64 ma, .agg (stC S L v)] T
  (fun a T' => ∃ id r l, a = .ptr id 0 /\ Ct T' id r l id id (cl0 me ma S L) /\ Fr [] [id, r, l] T T') := by
 refine U9 Q7 qo2 (by simp) ?_
 simp only [cOk, Bool.and_eq_true, decide_eq_true_eq] at h
 obtain ⟨⟨⟨⟨h1, h2⟩, h3⟩, h4⟩, h5⟩ := h
 have d1 : decide (me < 0) = false := decide_eq_false (by omega)
 have d2 : decide (6 <= me) = false := decide_eq_false (by omega)
 have d3 : decide (ma < 1) = false := decide_eq_false (by omega)
 have d4 : decide (5 < ma) = false := decide_eq_false (by omega)
 have c1 := qcc S L v
 rw [h5] at c1
 have c2 := qt5 (T := T) h5
 simp only [stC] at c1 c2
 unfold qh8
 simp -implicitDefEqProofs -dsimp only [go_sem, seval, stC, d1, d2, d3, d4, ↓N1, U6, true_and, ↓J0 _ _ q6q]
 refine cpn c1 ?_
 simp -implicitDefEqProofs -dsimp only [go_sem, seval, ↓J0 _ _ qvn]
 refine CallK.of c2 (fun a T1 ⟨r, l, e1, hr, hl, hne, e2⟩ => J1 ?_)
 subst e1
 subst e2
 simp -implicitDefEqProofs -dsimp only [go_sem, seval]
 refine fun id hid => J1 ?_
 simp -implicitDefEqProofs -dsimp only [go_sem, seval]
 obtain ⟨n1, hid⟩ := Tab.unused_put hid
 obtain ⟨n2, hid⟩ := Tab.unused_put hid
 refine V1 _ (fun _ => .inr (.inl rfl)) ⟨id, r, l, rfl, ⟨?_, ⟨?_, ?_⟩, ?_, ?_⟩, ?_, ?_⟩
 ·rw [Tab.put_same]; rfl
 ·rw [Tab.put_ne _ _ (Ne.symm n1), Tab.put_same]; rfl
 ·rw [Tab.put_ne _ _ (Ne.symm n2), Tab.put_ne _ _ (Ne.symm hne), Tab.put_same]; rfl
 ·intro o ho; cases ho
 ·intro o ho; cases ho
 ·intro j hj _
  rw [Tab.put_ne _ _ (fun e => by subst e; exact hj hid), Tab.put_ne _ _ (fun e => by subst e; exact hj hr), Tab.put_ne _ _ (fun e => by subst e; exact hj hl)]
 ·intro j hj
  simp only [List.mem_cons, List.not_mem_nil, or_false] at hj
  rcases hj with rfl | rfl | rfl
  ·exact .inr hid
  ·exact .inr hr
  ·exact .inr hl
end Go.Aw
namespace Go.Aw
open Go
open Go.Proofs.Tryz (prog)
set_option linter.all false
set_option maxHeartbeats 8000000
set_option maxRecDepth 8000
def zL : Lt Cf := ⟨0, 0, 0, 0, 0, 0, 0, 0, 0, 0, false, 0, 0, [], [], [], zT, 0, 0, [], 0, 0⟩
def zav (me kd to : Int) (o : Lt Cf) : Lt Cf := { o with fk := 3, fn := me, tk := kd, tn := to }
theorem qwc {T : Tab} {id r w x : Nat} {c : Cl} (hT : T id = qb3 c r w x) (kd to : Int) (o : Lt Cf) : ACalls prog q1d [.ptr id 0, .i .i64 kd, .i .i64 to, .agg o.cc] T (fun v T' => v = .agg (zav c.me kd to o).cc /\ T' = T) := by
 refine U9 Q7 qj8 (by simp) ?_
 have hT' := hT
 simp only [qb3] at hT'
 unfold qbo
 simp -implicitDefEqProofs -dsimp only [go_sem, seval, hT', Lt.cells]
 exact q80 (.refl _) rfl
end Go.Aw
namespace Go.Aw
open Go
open Go.Proofs.Tryz (prog)
set_option linter.all false
set_option maxHeartbeats 8000000
set_option maxRecDepth 8000
def z78 (l : List Cf) (key : Bs) (t : Int) : Int := match l[I0 key l.length]? with
 | some c => (c.ch[rdx t c.ch.length]?).getD 0
 | none => 0
def zaw (l : List Cf) (t : Tx) : Int := match (q4f t.keys l.length)[0]? with
 | some x => match l[x.toNat]? with
  | some c => c.at 0
  | none => 0
 | none => 0
def gtL (c : Cl) (o : Cp) (t : Int) : Lt Cf := { zL with fk := 3, fn := c.me, tk := 2, tn := z78 c.l o.key t, k := 19, cl := c.me, sq := c.sq, v := o.key }
def doL (c : Cl) (o : Cp) : Lt Cf := { zL with fk := 3, fn := c.me, tk := 2, tn := zaw c.l (txn o c.me c.sq), k := 20, t := txn o c.me c.sq }
def knL (c : Cl) (t : Int) : Lt Cf := { zL with fk := 3, fn := c.me, tk := 1, tn := (t.tdiv 3).tmod c.ma, k := 3 }
def fsL (c : Cl) (o : Cp) (t : Int) : Lt Cf := if o.k = 1 then gtL c o t else doL c o
def qp8 (c : Cl) (o : Cp) (t : Int) : List (Lt Cf) := fsL c o t :: if t.tmod 3 = 2 then [knL c t] else []
structure Cl.Ok (c : Cl) : Prop where
 me : 0 <= c.me /\ c.me < 6
 ma : 1 <= c.ma /\ c.ma <= 5
 sq : c.sq < 18446744073709551616
 l : RtOk c.l
 w : ∀ o, c.w = some o -> (o.1.Fine /\ qut o.1 = true /\ 1 <= c.sq) /\ 0 <= o.2 /\ o.2 < 1000000
theorem qwd {o : Cp} {cl sq : Int} (h : qgd (txn o 0 1) = true) (h1 : 0 <= cl /\ cl < 6) (h2 : 0 < sq) : qgd (txn o cl sq) = true := by
 have key : ∀ p rs ws, qgd ⟨0, 1, p, rs, ws⟩ = true -> qgd ⟨cl, sq, p, rs, ws⟩ = true := fun p rs ws h => by
  simp only [qgd, Bool.and_eq_true] at h ⊢
  have e : qp6 cl sq = true := by simp only [qp6, Bool.and_eq_true, decide_eq_true_eq]; omega
  rw [e]
  exact ⟨⟨⟨⟨⟨rfl, h.1.1.1.1.2⟩, h.1.1.1.2⟩, h.1.1.2⟩, h.1.2⟩, h.2⟩
 unfold txn at h ⊢
 split
 ·rename_i e; rw [if_pos e] at h; exact key _ _ _ h
 ·rename_i e; rw [if_neg e] at h
  split
  ·rename_i e; rw [if_pos e] at h; exact key _ _ _ h
  ·rename_i e; rw [if_neg e] at h
   split
   ·rename_i e; rw [if_pos e] at h; exact key _ _ _ h
   ·rename_i e; rw [if_neg e] at h; exact absurd h (by decide)
theorem qwe {l : List Cf} (h : RtOk l) (key : Bs) (t : Int) : ∃ c x, l[I0 key l.length]? = some c /\ c.ch[rdx t c.ch.length]? = some x /\ z78 l key t = x := by
 have hn := h.n
 have h1 := qgf (k := key) hn
 obtain ⟨c, hc⟩ : ∃ c, l[I0 key l.length]? = some c := ⟨_, List.getElem?_eq_getElem h1⟩
 have hr := qdi (h.c _ c hc).1
 have h2 := (qqh (t := t) (n := c.ch.length) (by omega)).2.2.2.2
 obtain ⟨x, hx⟩ : ∃ x, c.ch[rdx t c.ch.length]? = some x := ⟨_, List.getElem?_eq_getElem h2⟩
 refine ⟨c, x, hc, hx, ?_⟩
 unfold z78
 rw [hc]
 simp only
 rw [hx]
 rfl
end Go.Aw
namespace Go.Aw
open Go
open Go.Proofs.Tryz (prog)
set_option linter.all false
set_option maxHeartbeats 8000000
set_option maxRecDepth 8000
theorem qry : ∀ (bs : List Bool) (k j : Nat), bs[j]? = some true -> ∃ x : Nat, (idxs k bs)[0]? = some (x : Int) /\ x <= k + j
 | [], k, j, h => by simp at h
 | b :: bs, k, j, h => by
  cases b with
  | true => exact ⟨k, by simp [idxs], by omega⟩
  | false =>
   cases j with
   | zero => simp at h
   | succ j =>
    obtain ⟨x, h1, h2⟩ := qry bs (k + 1) j (by simpa using h)
    exact ⟨x, by simpa [idxs] using h1, by omega⟩
theorem qwf {ks : List Bs} {n : Nat} (hn : 1 <= n /\ n <= 4) (hk : ks ≠ []) : ∃ x : Nat, (q4f ks n)[0]? = some (x : Int) /\ x < n := by
 obtain ⟨k, ks', rfl⟩ := List.exists_cons_of_ne_nil hk
 have h1 := qgf (k := k) hn
 have h2 : (qfj (k :: ks') n)[I0 k n]? = some true := by
  have h4 : I0 k n = 0 \/ I0 k n = 1 \/ I0 k n = 2 \/ I0 k n = 3 := by omega
  rcases h4 with h | h | h | h <;> simp [qfj, qys, h]
 obtain ⟨x, h3, h4⟩ := qry _ 0 _ h2
 exact ⟨x, h3, by omega⟩
theorem qwg {l : List Cf} (h : RtOk l) {t : Tx} (ht : qgd t = true) : ∃ (x : Nat) (c : Cf), (qgd t = true -> (q4f t.keys l.length)[0]? = some (x : Int)) /\ l[x]? = some c /\ zaw l t = c.at 0 := by
 have hk : t.keys ≠ [] := by
  simp only [qgd, Bool.and_eq_true, Bool.not_eq_true', decide_eq_false_iff_not] at ht
  have := ht.1.1.2
  intro e
  have hl : t.keys.length = 0 := by rw [e]; rfl
  simp only [Tx.keys, List.length_append, List.length_map] at hl
  omega
 obtain ⟨x, h1, h2⟩ := qwf h.n hk
 obtain ⟨c, hc⟩ : ∃ c, l[x]? = some c := ⟨_, List.getElem?_eq_getElem h2⟩
 refine ⟨x, c, fun _ => h1, hc, ?_⟩
 unfold zaw
 rw [h1]
 simp only [Int.toNat_natCast]
 rw [hc]
end Go.Aw
