import Derived.Test.YteiamcnjlpbihaaGreatDoorN17T16J
import Derived.Test.YteiamcnjlpbihaaGreatDoorQ17N
import Derived.Test.YteiamcnjlpbihaaGreatDoorN17F04Y
import Derived.Test.YteiamcnjlpbihaaGreatDoorQ17H
namespace Go.Aw
open Go
open Go.Proofs.Tryz (prog)
set_option linter.all false
set_option maxHeartbeats 4000000
end Go.Aw
namespace Go.Aw
open Go
open Go.Proofs.Tryz (prog)
set_option linter.all false
set_option maxHeartbeats 8000000
set_option maxRecDepth 8000
theorem qz1 {b : Bool} {n m : Int} (h : inF b n m = true) (hm : 0 <= m) : 0 <= n /\ n <= m := by
 unfold inF at h
 cases b <;> simp only [Bool.or_eq_true, Bool.and_eq_true, decide_eq_true_eq, if_true, Bool.false_eq_true, if_false] at h <;> omega
theorem z7q {l : Lt Cf} (h : lrF l = true) (hr : l.Rng) (hc : ∀ c ∈ l.cs, c.fu.length = c.ch.length) (hq : 0 <= l.sq) : l.plain.EncR := by
 have hrr : rrF l.plain = true := by rw [qvv l hc, h]
 obtain ⟨h1, h2, h3, h4, h5⟩ := qj7 h
 have a1 := qul h2
 have a2 := qul h3
 have hk := h1
 simp only [qd9, decide_eq_true_eq] at hk
 simp only [rrF, Bool.and_eq_true, Bool.not_eq_true'] at hrr
 obtain ⟨⟨⟨⟨⟨r1, r2⟩, r3⟩, r4⟩, r5⟩, r6⟩ := hrr
 simp only [rc1, Bool.or_eq_false_iff, Bool.not_eq_false'] at r1
 simp only [rc2, Bool.or_eq_false_iff, Bool.not_eq_false'] at r2
 simp only [rc4, Bool.or_eq_false_iff] at r4
 simp only [rc5, Bool.or_eq_false_iff] at r5
 have li := r1.2
 rw [zar] at li
 simp only [Bool.and_eq_true, Bool.not_eq_true', rl2, Bool.or_eq_false_iff, decide_eq_false_iff_not] at li
 obtain ⟨⟨⟨⟨_, l2⟩, l3⟩, l4⟩, l5⟩ := li
 have i1 := qz1 r2.1.1.1.1 (by decide)
 have i2 := qz1 r2.1.1.1.2 (by decide)
 have i3 := qz1 r2.1.1.2 (by decide)
 have i4 := qz1 r2.1.2 (by decide)
 have i5 := qz1 r2.2 (by decide)
 have hl1 : l.plain.vs.length <= 400 := by omega
 have hl2 : l.plain.cs.length <= 4 := by omega
 have hl3 : l.plain.es.length <= 8 := by omega
 refine ⟨fun x hx => ?_, by omega, hr.ep, by omega, by omega, by omega, hr.br, ?_, fun ht => ?_, ?_, ⟨hq, hr.sq⟩, ?_, hr.q, by omega, ⟨hl1, fun v hv => ?_⟩, ⟨hl2, fun c hm => ?_⟩, ⟨hl3, fun e he => ?_⟩⟩
 ·simp only [List.mem_cons, List.not_mem_nil, or_false] at hx
  rcases hx with rfl | rfl | rfl | rfl | rfl
  ·exact a1.1
  ·exact a1.2
  ·exact a2.1
  ·exact a2.2
  ·show 0 <= l.k /\ l.k < 1000; omega
 ·rcases hb : q6z l.plain.k [98, 97, 108, 108, 111, 116] with _ | _
  ·rw [hb] at r5
   have : l.plain.bn = 0 := by have := r5.2; simp at this; exact this.2
   rw [this]; decide
  ·rw [hb] at r5; simpa using r5.1
 ·rw [if_pos ht] at r6
  exact qj6 r6 hr.tsq hr.tr
 ·rcases hb : q6z l.plain.k [105, 100] with _ | _
  ·rw [hb] at r4
   have : l.plain.cl = 0 := by have := r4.2; simp at this; exact this.1
   omega
  ·rw [hb] at r4
   have : qj0 l.plain.cl l.plain.sq = true := by have := r4.1.2; simpa using this
   simp only [qj0, Bool.and_eq_true, decide_eq_true_eq] at this
   omega
 ·rcases hb : q6z l.plain.k [118, 97, 108] with _ | _
  ·rw [hb] at r4
   have : l.plain.v = [] := by have := r4.1.1.2; simpa using this
   rw [this]; exact Nat.zero_le _
  ·rw [hb] at r4
   have := r4.1.1.1
   simp at this
   omega
 ·have := List.all_eq_true.1 l3 v hv
  simp only [qz3, qap, Bool.and_eq_true, decide_eq_true_eq] at this
  exact ⟨this.1, hr.vs v hv, this.2.1, by omega⟩
 ·obtain ⟨r, hm2, rfl⟩ := List.mem_map.1 hm
  have hl4 : (!(l.cs.any z3h)) = true := by rw [<- z1x l hc]; exact l4
  have hrt : r.right = true := z2a (p := Cf.right) hl4 r hm2
  have ho := Cf.ok_of hrt (hr.cs r hm2).1
  exact ⟨ho.plain, qsd ho⟩
 ·exact ⟨List.all_eq_true.1 l5 e he, hr.es e he⟩
theorem zlt (l : Lt Cf) : xC l.plain = enS l 99 := by
 rw [z77]
 show enc (l.cs.map Cf.plain).length ++ (l.cs.map Cf.plain).flatMap qii = _
 rw [List.length_map, List.flatMap_map]
 rfl
theorem zlu (l : Lt Cf) : hdB l.plain = enc l.fk.toNat ++ enc l.fn.toNat ++ enc l.tk.toNat ++ enc l.tn.toNat ++ enc l.k.toNat := by
 show qqd [l.fk, l.fn, l.tk, l.tn, l.k] = _
 simp [qqd]
theorem zi4 {l : Lt Cf} (hk : qd9 l.k = true) : byF l.plain = qhe l := by
 have e1 : [qiw l.plain.fl] = enS l 102 := by rw [qw9, qv9]; rfl
 have e2 : xV l.plain = enS l 118 := by rw [z14]; rfl
 have e3 : xE l.plain = enS l 108 := by rw [z15]; rfl
 have e4 : enc l.plain.sh.toNat = enS l 115 := by rw [qw4]; rfl
 have e5 : enc l.plain.ep.toNat = enS l 101 := by rw [qw5]; rfl
 have e6 : enc l.plain.n.toNat = enS l 110 := by rw [qw6]; rfl
 have e7 : enc l.plain.m.toNat = enS l 109 := by rw [qw7]; rfl
 have e8 : enc l.plain.nd.toNat = enS l 111 := by rw [qw8]; rfl
 have e9 : enc l.plain.br.toNat ++ enc l.plain.bn.toNat = enS l 98 := by rw [z25]; rfl
 have e10 : qay l.plain.t = enS l 120 := by rw [qwa]; rfl
 have e11 : enc l.plain.cl.toNat ++ enc l.plain.sq.toNat = enS l 105 := by rw [qwb]; rfl
 have e12 : q76 l.plain.v = enS l 116 := by rw [qwc]; rfl
 have e13 : enc l.plain.q.toNat = enS l 113 := by rw [qwd]; rfl
 have e14 : enc l.plain.co.toNat = enS l 114 := by rw [qwe]; rfl
 have ek : l.plain.k = l.k := rfl
 unfold byF lbF qhe
 rw [zlu, zlt, e1, e2, e3, e4, e5, e6, e7, e8, e9, e10, e11, e12, e13, e14, ek]
 generalize enc l.fk.toNat ++ enc l.fn.toNat ++ enc l.tk.toNat ++ enc l.tn.toNat ++ enc l.k.toNat = H
 rcases kinds l.k with (hk | hk | hk | hk | hk | hk | hk | hk | hk | hk | hk | hk | hk | hk | hk | hk | hk | hk | hk | hk | hk) | hn
 any_goals (rw [hk]; simp only [hX, q0u, q0v, qdd, qde, q1w, q1x, q08, q0w, q0x, G5, q3q, q86, q3r, q3s, q1y, q6c, Int.reduceEq, decide_true, decide_false, Bool.or_false, Bool.or_true, Bool.false_or, Bool.true_or, Bool.or_self, Bool.false_eq_true, if_true, if_false, or_self, or_false, false_or, or_true, true_or, List.flatMap_cons, List.flatMap_nil, List.append_nil, List.nil_append, List.append_assoc, UInt8.reduceToNat, Int.cast_ofNat_Int]; done)
 rw [hn] at hk; cases hk
end Go.Aw
namespace Go.Aw
open Go
open Go.Proofs.Tryz (prog)
set_option linter.all false
set_option maxHeartbeats 8000000
set_option maxRecDepth 8000
theorem zad (l : Lt Cf) (h : lrF l = true) (hr : l.Rng) (hc : ∀ c ∈ l.cs, c.fu.length = c.ch.length) (hq : 0 <= l.sq) : PCalls prog q70 [.agg (l.plain.cells rfL)] (bts (frm (qhe l)) none) := by
 refine K7 U3 qmq (by simp) fun T => ?_
 have pc := qz0 l.plain (z7q h hr hc hq)
 rw [zi4 (qj7 h).1] at pc
 have hl := qo5 hr h
 have pf := z7p (qhe l) none hl.1 (by omega)
 unfold qdm
 simp -implicitDefEqProofs -dsimp only [go_sem, seval, U0, ↓J0 _ _ qbt]
 refine cpn pc ?_
 simp -implicitDefEqProofs -dsimp only [go_sem, seval, ↓J0 _ _ qdo]
 refine cpn pf ?_
 simp -implicitDefEqProofs -dsimp only [go_sem, seval]
 exact J9 rfl
end Go.Aw
namespace Go.Aw
open Go
open Go.Proofs.Tryz (prog)
set_option linter.all false
set_option maxHeartbeats 8000000
set_option maxRecDepth 8000
theorem zae (b : Bs) (cap : Option Nat) (hl : b.length <= 1000000) : PCalls prog qca [bts b cap] (.tup [.agg (loA b).cc, .i .i64 (qe5 (loE b))]) := by
 refine K7 U3 qvc (by simp) fun T => ?_
 have h := za5 b cap hl
 have hc := z0z (loE b)
 generalize loA b = A at *
 unfold qmn
 rcases he : loE b with _ | e
 ·rw [he] at h hc
  simp only [qwj] at h hc
  generalize qe5 none = C at *
  simp -implicitDefEqProofs -dsimp only [go_sem, seval, ↓J0 _ _ qmy]
  refine cpn h ?_
  simp -implicitDefEqProofs -dsimp only [go_sem, seval, ↓J0 _ _ qbc]
  refine cpn hc ?_
  simp -implicitDefEqProofs -dsimp only [go_sem, seval]
  exact J9 rfl
 ·rw [he] at h hc
  obtain ⟨t, v, ev⟩ := e.ifc
  simp only [qwj, ev] at h hc
  generalize qe5 (some e) = C at *
  simp -implicitDefEqProofs -dsimp only [go_sem, seval, ↓J0 _ _ qmy]
  refine cpn h ?_
  simp -implicitDefEqProofs -dsimp only [go_sem, seval, ↓J0 _ _ qbc]
  refine cpn hc ?_
  simp -implicitDefEqProofs -dsimp only [go_sem, seval]
  exact J9 rfl
end Go.Aw
