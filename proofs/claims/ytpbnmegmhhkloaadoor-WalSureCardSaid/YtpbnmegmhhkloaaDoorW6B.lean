import Derived.Test.YtpbnmegmhhkloaaDoorW6A
import Derived.Test.YtpbnmegmhhkloaaDoorW06D05D
namespace Go.Aw
open Go
open Go.Proofs.Tryd (prog)
set_option linter.all false
set_option maxHeartbeats 4000000
abbrev Kk (k : Int) : Prop := k = 0 \/ k = 1
theorem Kk.v {k : Int} (h : Kk k) : ¬ isV k = 1 := by unfold isV; rcases h with rfl | rfl <;> decide
theorem Kk.oth {k : Int} (h : Kk k) : Kk (1 - k) := by
 rcases h with rfl | rfl
 ·exact .inr rfl
 ·exact .inl rfl
structure Wl where
 k : Int
 g : Nat
 dead : Bool
def q09 (e : Int) (w : Wl) : Wl := if e = 12 then { w with dead := true } else w
def q0a (d : Dk) (k : Int) : Int × Dk := if d.lost = true then (12, d) else if (d.get k).b = [] then (0, d) else d.cut k 0
def q9v (d : Dk) (k : Int) (b : Bs) : Int × Dk := if (d.append k b).1 = 0 then (d.append k b).2.sync k else d.append k b
def qft (d : Dk) (w : Wl) (p : Bs) : Int × Dk × Wl :=
 if w.dead = true then (12, d, w) else if q7m p = false then (1, d, w) else ((d.append w.k (frm p)).1, (d.append w.k (frm p)).2, q09 (d.append w.k (frm p)).1 w)
def q71 (d : Dk) (w : Wl) : Int × Dk × Wl :=
 if w.dead = true then (12, d, w) else ((d.sync w.k).1, (d.sync w.k).2, q09 (d.sync w.k).1 w)
def q3q (d : Dk) (w : Wl) (rs : List Bs) : Int × Dk × Wl :=
 let c := q0a d (1 - w.k)
 if c.1 ≠ 0 then (c.1, c.2, q09 c.1 w) else
 let p := q9v c.2 (1 - w.k) (frm (N4 (w.g + 1) rs.length) ++ G1 rs)
 if p.1 ≠ 0 then (p.1, p.2, q09 p.1 w) else
 let e := q0a p.2 w.k
 (e.1, e.2, q09 e.1 ⟨1 - w.k, w.g + 1, w.dead⟩)
theorem q60 {d : Dk} {k : Int} {a : Ar} (h : Kk k) : (d.set k a).get k = a /\ (d.set k a).get (1 - k) = d.get (1 - k) := by
 rcases h with rfl | rfl <;> exact ⟨rfl, rfl⟩
theorem get_set' {d : Dk} {k : Int} {a : Ar} (h : Kk k) : (d.set (1 - k) a).get (1 - k) = a /\ (d.set (1 - k) a).get k = d.get k := by
 rcases h with rfl | rfl <;> exact ⟨rfl, rfl⟩
theorem qch {d : Dk} {k : Int} (h : Kk k) : d.free = d.room - (d.get k).b.length - (d.get (1 - k)).b.length := by
 rcases h with rfl | rfl
 ·rfl
 ·show d.room - d.a0.b.length - d.a1.b.length = d.room - d.a1.b.length - d.a0.b.length; omega
theorem q9w {d : Dk} (h : d.Ok) (k : Int) : (d.get k).Ok := by unfold Dk.get; split; exact h.o0; exact h.o1
theorem qbc {d : Dk} (h : d.Ok) {k : Int} (hk : Kk k) {a : Ar} (ha : a.Ok) (hf : (a.b.length : Int) + (d.get (1 - k)).b.length <= d.room) : (d.set k a).Ok := by
 obtain ⟨p1, p2, p3, p4, p5, p6⟩ := h
 rcases hk with rfl | rfl
 ·exact ⟨p1, p2, hf, ha, p5, p6⟩
 ·exact ⟨p1, p2, (by show (d.a0.b.length : Int) + a.b.length <= d.room; have : (a.b.length : Int) + d.a0.b.length <= d.room := hf; omega), p4, ha, p6⟩
theorem Y9 (d : Dk) (k : Int) (a : Ar) : (d.set k a).room = d.room /\ (d.set k a).lost = d.lost /\ (d.set k a).armed = d.armed /\ (d.set k a).left = d.left := by
 unfold Dk.set; split <;> exact ⟨rfl, rfl, rfl, rfl⟩
structure Un (d : Dk) : Prop where
 ok : d.Ok
 lost : d.lost = false
 armed : d.armed = false
theorem Un.write {d : Dk} (h : Un d) : d.write = (0, false, d) := by simp [Dk.write, h.lost, h.armed]
theorem Un.set {d : Dk} (h : Un d) {k : Int} (hk : Kk k) {a : Ar} (ha : a.Ok) (hf : (a.b.length : Int) + (d.get (1 - k)).b.length <= d.room) : Un (d.set k a) := by
 obtain ⟨e1, e2, e3, e4⟩ := Y9 d k a
 exact ⟨qbc h.ok hk ha hf, by rw [e2]; exact h.lost, by rw [e3]; exact h.armed⟩
theorem Un.fits {d : Dk} (h : Un d) {k : Int} (hk : Kk k) : ((d.get k).b.length : Int) + (d.get (1 - k)).b.length <= d.room := by
 have := h.ok.fits
 rcases hk with rfl | rfl
 ·exact this
 ·show (d.a1.b.length : Int) + d.a0.b.length <= d.room; omega
theorem Un.cut {d : Dk} (h : Un d) {k : Int} (hk : Kk k) {n : Nat} (hn : n <= (d.get k).b.length) : d.cut k n = (0, d.set k ⟨(d.get k).b.take n, none, n⟩) /\ Un (d.set k ⟨(d.get k).b.take n, none, n⟩) := by
 refine ⟨?_, ?_⟩
 ·rw [Dk.cut, if_neg hk.v, if_neg (by omega), h.write, if_pos rfl, Int.toNat_natCast]
 ·have := h.fits hk
  refine h.set hk ⟨(by show (0 : Int) <= n; omega), (by show (n : Int) <= _; rw [List.length_take]; omega)⟩ (by simp only [List.length_take]; omega)
theorem Un.sync {d : Dk} (h : Un d) {k : Int} (hk : Kk k) : d.sync k = (0, d.set k ⟨(d.get k).b, (d.get k).c, (d.get k).b.length⟩) /\ Un (d.set k ⟨(d.get k).b, (d.get k).c, (d.get k).b.length⟩) := by
 refine ⟨?_, ?_⟩
 ·rw [Dk.sync, if_neg hk.v, h.write, if_pos rfl]
 ·exact h.set hk ⟨Int.natCast_nonneg _, Int.le_refl _⟩ (h.fits hk)
theorem Un.append {d : Dk} (h : Un d) {k : Int} (hk : Kk k) {b : Bs} (hf : ((d.get k).b.length : Int) + b.length + (d.get (1 - k)).b.length <= d.room) : d.append k b = (0, d.set k ⟨(d.get k).b ++ b, none, (d.get k).su⟩) /\ Un (d.set k ⟨(d.get k).b ++ b, none, (d.get k).su⟩) := by
 have ha := q9w h.ok k
 refine ⟨?_, ?_⟩
 ·rw [Dk.append, if_neg hk.v, if_neg (by rw [qch hk]; omega), h.write, if_pos (.inl rfl)]
 ·exact h.set hk ⟨ha.s0, (by have := ha.s1; simp only [List.length_append]; omega)⟩ (by simp only [List.length_append]; omega)
theorem Un.full {d : Dk} (h : Un d) {k : Int} (hk : Kk k) {b : Bs} (hf : ¬ ((d.get k).b.length : Int) + b.length + (d.get (1 - k)).b.length <= d.room) : d.append k b = (9, d) := by
 rw [Dk.append, if_neg hk.v, if_pos (by rw [qch hk]; omega)]
def clr (d : Dk) (k : Int) : Dk := if (d.get k).b = [] then d else d.set k ⟨[], none, 0⟩
theorem Un.clear {d : Dk} (h : Un d) {k : Int} (hk : Kk k) : q0a d k = (0, clr d k) /\ Un (clr d k) /\ ((clr d k).get k).b = [] /\ (clr d k).get (1 - k) = d.get (1 - k) /\ (clr d k).room = d.room /\ ((clr d k).get k).su = 0 := by
 unfold q0a clr
 rw [h.lost]
 by_cases hb : (d.get k).b = []
 ·rw [if_neg (by decide), if_pos hb, if_pos hb]
  have h1 := q9w h.ok k
  have h2 := h1.s1
  rw [hb] at h2
  exact ⟨rfl, h, hb, rfl, rfl, (by have := h1.s0; simp at h2; omega)⟩
 ·rw [if_neg (by decide), if_neg hb, if_neg hb]
  obtain ⟨c1, c2⟩ := h.cut hk (n := 0) (Nat.zero_le _)
  have g := q60 (d := d) (a := ⟨[], none, 0⟩) hk
  exact ⟨c1, c2, by rw [g.1], g.2, (Y9 ..).1, by rw [g.1]⟩
theorem Un.put {d : Dk} (h : Un d) {k : Int} (hk : Kk k) {b : Bs} (hf : ((d.get k).b.length : Int) + b.length + (d.get (1 - k)).b.length <= d.room) : q9v d k b = (0, d.set k ⟨(d.get k).b ++ b, none, ((d.get k).b ++ b).length⟩) /\ Un (d.set k ⟨(d.get k).b ++ b, none, ((d.get k).b ++ b).length⟩) := by
 obtain ⟨a1, a2⟩ := h.append hk hf
 obtain ⟨s1, s2⟩ := a2.sync hk
 have g := q60 (d := d) (a := ⟨(d.get k).b ++ b, none, (d.get k).su⟩) hk
 have e : (d.set k ⟨(d.get k).b ++ b, none, (d.get k).su⟩).set k ⟨(d.get k).b ++ b, none, ((d.get k).b ++ b).length⟩ = d.set k ⟨(d.get k).b ++ b, none, ((d.get k).b ++ b).length⟩ := by
  rcases hk with rfl | rfl <;> rfl
 rw [g.1] at s1 s2
 rw [e] at s1 s2
 refine ⟨?_, s2⟩
 rw [q9v, a1, if_pos rfl, s1]
def qhj (d : Dk) (k : Int) (w : Wh) : Dk := if w.good < w.all then d.set k ⟨(d.get k).b.take w.good, none, w.good⟩ else if (d.get k).su < w.all then d.set k ⟨(d.get k).b, (d.get k).c, (d.get k).b.length⟩ else d
def U2 (d : Dk) : Option (Int × Wh) := match Q0 d.a0.b, Q0 d.a1.b with
 | none, none => none
 | some x, none => some (0, x)
 | none, some y => some (1, y)
 | some x, some y => if x.g < y.g then some (1, y) else some (0, x)
def fresh (d : Dk) : Dk := (clr d 0).set 0 ⟨frm (N4 1 0), none, 10⟩
def N9 (d : Dk) : Wl × List Bs × Dk := match U2 d with
 | some (k, w) => (⟨k, w.g, false⟩, w.l, clr (qhj d k w) (1 - k))
 | none => (⟨0, 1, false⟩, [], clr (fresh d) 1)
theorem q9x {d : Dk} {k : Int} {w : Wh} (h : U2 d = some (k, w)) : Kk k /\ Q0 (d.get k).b = some w := by
 unfold U2 at h
 rcases h0 : Q0 d.a0.b with _ | x <;> rcases h1 : Q0 d.a1.b with _ | y <;> rw [h0, h1] at h <;> simp only at h
 ·cases h
 ·injection h with h; injection h with e1 e2; subst e1; subst e2; exact ⟨.inr rfl, h1⟩
 ·injection h with h; injection h with e1 e2; subst e1; subst e2; exact ⟨.inl rfl, h0⟩
 ·split at h <;> (injection h with h; injection h with e1 e2; subst e1; subst e2)
  ·exact ⟨.inr rfl, h1⟩
  ·exact ⟨.inl rfl, h0⟩
theorem q7n {d : Dk} {k : Int} (hk : Kk k) {w : Wh} (h1 : Q0 (d.get k).b = some w) (h2 : Q0 (d.get (1 - k)).b = none) : U2 d = some (k, w) := by
 rcases hk with rfl | rfl
 ·have h1 : Q0 d.a0.b = some w := h1
  have h2 : Q0 d.a1.b = none := h2
  unfold U2; rw [h1, h2]
 ·have h1 : Q0 d.a1.b = some w := h1
  have h2 : Q0 d.a0.b = none := h2
  unfold U2; rw [h1, h2]
theorem qhc {d : Dk} {k : Int} (hk : Kk k) {w v : Wh} (h1 : Q0 (d.get k).b = some w) (h2 : Q0 (d.get (1 - k)).b = some v) (h : v.g < w.g) : U2 d = some (k, w) := by
 rcases hk with rfl | rfl
 ·have h1 : Q0 d.a0.b = some w := h1
  have h2 : Q0 d.a1.b = some v := h2
  unfold U2; rw [h1, h2]; simp only; rw [if_neg (by omega)]
 ·have h1 : Q0 d.a1.b = some w := h1
  have h2 : Q0 d.a0.b = some v := h2
  unfold U2; rw [h1, h2]; simp only; rw [if_pos h]
theorem qkf {d : Dk} (h : Un d) {k : Int} (hk : Kk k) {w : Wh} (hr : Q0 (d.get k).b = some w) : Un (qhj d k w) /\ (qhj d k w).get (1 - k) = d.get (1 - k) /\ ((qhj d k w).get k).b = (d.get k).b.take w.good /\ ((qhj d k w).get k).su = w.good /\ (qhj d k w).room = d.room := by
 obtain ⟨r1, r2, r3, r4⟩ := q9u hr
 have ha := q9w h.ok k
 unfold qhj
 split
 ·have g := q60 (d := d) (a := ⟨(d.get k).b.take w.good, none, w.good⟩) hk
  exact ⟨(h.cut hk r2).2, g.2, by rw [g.1], by rw [g.1], (Y9 ..).1⟩
 rename_i h1
 have e : w.good = (d.get k).b.length := by omega
 split
 ·have g := q60 (d := d) (a := ⟨(d.get k).b, (d.get k).c, (d.get k).b.length⟩) hk
  exact ⟨(h.sync hk).2, g.2, by rw [g.1, e, List.take_length], by rw [g.1, e], (Y9 ..).1⟩
 ·rename_i h2
  have := ha.s1
  exact ⟨h, rfl, by rw [e, List.take_length], by omega, rfl⟩
theorem q14 : (frm (N4 1 0)).length = 10 := by
 rw [U5]; unfold N4; rw [q04 (by decide), q04 (by decide)]; rfl
theorem qfu {d : Dk} (h : Un d) (hf : (10 : Int) + d.a1.b.length <= d.room) : Un (fresh d) /\ (fresh d).a1 = d.a1 /\ (fresh d).a0 = ⟨frm (N4 1 0), none, 10⟩ /\ (fresh d).room = d.room := by
 obtain ⟨c1, c2, c3, c4, c5, c6⟩ := h.clear (.inl rfl)
 have c4' : (clr d 0).a1 = d.a1 := c4
 refine ⟨c2.set (.inl rfl) ⟨by decide, by show (10 : Int) <= _; rw [q14]; decide⟩ ?_, c4', rfl, c5⟩
 show ((frm (N4 1 0)).length : Int) + (clr d 0).a1.b.length <= (clr d 0).room
 rw [q14, c4', c5]; exact hf
theorem q7o {d : Dk} (h : Un d) (hf : (10 : Int) + d.a1.b.length <= d.room) : ∃ w, Un (N9 d).2.2 /\ Kk (N9 d).1.k /\ (N9 d).1.dead = false /\ Q0 (((N9 d).2.2).get (N9 d).1.k).b = some w /\ w.g = (N9 d).1.g /\ w.l = (N9 d).2.1 /\ w.good = w.all /\ 0 < w.all /\ w.all = (((N9 d).2.2).get (N9 d).1.k).b.length /\ (((N9 d).2.2).get (N9 d).1.k).su = w.all /\ (((N9 d).2.2).get (1 - (N9 d).1.k)).b = [] /\ (((N9 d).2.2).get (1 - (N9 d).1.k)).su = 0 /\ (N9 d).2.2.room = d.room := by
 unfold N9
 rcases hc : U2 d with _ | ⟨k, w⟩
 ·obtain ⟨u1, u2, u3, u4⟩ := qfu h hf
  obtain ⟨c1, c2, c3, c4, c5, c6⟩ := u1.clear (k := 1) (.inr rfl)
  have c4' : (clr (fresh d) 1).get 0 = (fresh d).get 0 := c4
  have e0 : ((fresh d).get 0) = ⟨frm (N4 1 0), none, 10⟩ := u3
  have hr : Q0 (frm (N4 1 0)) = some ⟨1, [], 10, 10⟩ := by
   have := qcd (g := 1) (n := 0) (rs := []) (by decide) (Nat.le_refl _) (by decide) (fun _ h => by cases h) qba
   rw [List.append_nil, q4y, q14] at this
   exact this
  simp only
  refine ⟨⟨1, [], 10, 10⟩, c2, .inl rfl, trivial, ?_, rfl, rfl, rfl, (by decide), ?_, ?_, c3, c6, by rw [c5, u4]⟩
  ·rw [c4', e0]; exact hr
  ·rw [c4', e0]; exact q14.symm
  ·rw [c4', e0]; rfl
 ·obtain ⟨hk, hr⟩ := q9x hc
  obtain ⟨r1, r2, r3, r4⟩ := q9u hr
  obtain ⟨m1, m2, m3, m4, m5⟩ := qkf h hk hr
  obtain ⟨c1, c2, c3, c4, c5, c6⟩ := m1.clear hk.oth
  have e : (1 : Int) - (1 - k) = k := by omega
  rw [e] at c4
  simp only
  refine ⟨⟨w.g, w.l, w.good, w.good⟩, c2, hk, trivial, ?_, rfl, rfl, rfl, r3, ?_, ?_, c3, c6, by rw [c5, m5]⟩
  ·rw [c4, m3]; exact r4
  ·rw [c4, m3, List.length_take]; simp only; omega
  ·rw [c4, m4]
end Go.Aw
