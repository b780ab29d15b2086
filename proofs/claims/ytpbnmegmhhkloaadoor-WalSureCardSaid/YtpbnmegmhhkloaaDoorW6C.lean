import Derived.Test.YtpbnmegmhhkloaaDoorW6B
namespace Go.Aw
open Go
open Go.Proofs.Tryd (prog)
set_option linter.all false
set_option maxHeartbeats 4000000
def okS (r : Bs) : Prop := 1 <= r.length /\ r.length <= 42
theorem okS.f {r : Bs} (h : okS r) : okF r := ⟨h.1, by have := h.2; omega⟩
theorem q72 {m : Nat} : ∀ (rs : List Bs), (∀ r ∈ rs, r.length <= m) -> (G1 rs).length <= rs.length * (m + 7)
 | [], _ => by simp [G1]
 | r :: rs, h => by
  have := q72 rs fun q hq => h q (List.mem_cons_of_mem _ hq)
  have h1 := h r (List.mem_cons_self ..)
  rw [N8, List.length_append, U5, List.length_cons, Nat.add_mul]
  omega
structure Has (a : Ar) (g : Nat) (all : List Bs) (sure : Nat) : Prop where
 ex : ∃ n0, n0 <= sure /\ a.b = G1 (N4 g n0 :: all) /\ ((G1 (N4 g n0 :: all.take sure)).length : Int) <= a.su
 s : sure <= all.length
 recs : ∀ r ∈ all, okS r
 g : g < 1000000
 n : all.length < 1000
theorem Has.len {a : Ar} {g : Nat} {all : List Bs} {sure : Nat} (h : Has a g all sure) : a.b.length <= 28 + all.length * 49 := by
 obtain ⟨n0, h1, h2, h3⟩ := h.ex
 have hg := h.g
 have hs := h.s
 have hn := h.n
 have := (q1u (g := g) (n := n0) (by omega) (by omega)).2
 have h4 := q72 (m := 42) all fun r hr => (h.recs r hr).2
 rw [h2, N8, List.length_append, U5]
 omega
structure Lv (d : Dk) (k : Int) (g : Nat) (all : List Bs) (sure m : Nat) : Prop where
 hk : Kk k
 ok : d.Ok
 lost : d.lost = false
 room : d.room = 100000
 a : Has (d.get k) g all sure
 oth : (d.get (1 - k)).b = []
 n : all.length <= m
 g : g <= m
structure Fin1 (d : Dk) (all : List Bs) (sure : Nat) : Prop where
 ex : ∃ k g, Kk k /\ Has (d.get k) g all sure /\ (d.get (1 - k)).b = []
 ok : d.Ok
 room : d.room = 100000
structure Fin2 (d : Dk) (all : List Bs) (sure : Nat) (hd : List Bs) : Prop where
 ex : ∃ k g, Kk k /\ Has (d.get k) g all sure /\ (d.get (1 - k)).b = G1 (N4 (g + 1) hd.length :: hd)
 recs : ∀ r ∈ hd, okS r
 n : hd.length < 1000
 ok : d.Ok
 room : d.room = 100000
def Fin (d : Dk) (all : List Bs) (sure : Nat) (hd : List Bs) (lost : Bool) : Prop := Fin1 d all sure \/ (lost = true /\ Fin2 d all sure hd)
def St (d : Dk) (w : Wl) (all : List Bs) (sure : Nat) (hd : List Bs) (lost : Bool) (m : Nat) : Prop :=
 (w.dead = false /\ Lv d w.k w.g all sure m) \/ (w.dead = true /\ Fin d all sure hd lost /\ d.Ok /\ all.length <= m)
theorem Lv.fin {d : Dk} {k : Int} {g : Nat} {all : List Bs} {sure m : Nat} (h : Lv d k g all sure m) : Fin1 d all sure := ⟨⟨k, g, h.hk, h.a, h.oth⟩, h.ok, h.room⟩
theorem q73 {d : Dk} (h : d.Ok) (hl : d.lost = false) : ∃ d', d'.Ok /\ d'.a0 = d.a0 /\ d'.a1 = d.a1 /\ d'.room = d.room /\ ((d.write = (12, true, d') /\ d'.lost = true) \/ (d.write = (0, false, d') /\ d'.lost = false)) := by
 have ho := Dk.write_ok h
 refine ⟨d.write.2.2, ho, ?_⟩
 unfold Dk.write
 rw [hl]
 simp only [Bool.false_eq_true, if_false]
 split
 ·exact ⟨rfl, rfl, rfl, .inl ⟨rfl, rfl⟩⟩
 split
 ·exact ⟨rfl, rfl, rfl, .inr ⟨rfl, rfl⟩⟩
 ·exact ⟨rfl, rfl, rfl, .inr ⟨rfl, hl⟩⟩
theorem qdn {d d' : Dk} (h0 : d'.a0 = d.a0) (h1 : d'.a1 = d.a1) (k : Int) : d'.get k = d.get k := by unfold Dk.get; rw [h0, h1]
theorem qmn {all : List Bs} {p : Bs} {s : Nat} (h : s <= all.length) : (all ++ [p]).take s = all.take s := List.take_append_of_le_length h
theorem Has.add {a : Ar} {g : Nat} {all : List Bs} {sure : Nat} (h : Has a g all sure) {p : Bs} (hp : okS p) (hn : all.length < 900) {c : Option Nat} : Has ⟨a.b ++ frm p, c, a.su⟩ g (all ++ [p]) sure := by
 obtain ⟨n0, h1, h2, h3⟩ := h.ex
 refine ⟨⟨n0, h1, ?_, ?_⟩, by have := h.s; rw [List.length_append]; omega, fun r hr => ?_, h.g, by rw [List.length_append, List.length_singleton]; omega⟩
 ·show a.b ++ frm p = _
  rw [h2, N8, N8, qew, q4y, List.append_assoc]
 ·rw [qmn h.s]; exact h3
 ·rcases List.mem_append.1 hr with hr | hr
  ·exact h.recs r hr
  ·rw [List.mem_singleton.1 hr]; exact hp
theorem Has.le {a : Ar} {g : Nat} {all : List Bs} {sure : Nat} (h : Has a g all sure) (ha : a.Ok) : Has ⟨a.b, a.c, a.b.length⟩ g all all.length := by
 obtain ⟨n0, h1, h2, h3⟩ := h.ex
 have := h.s
 refine ⟨⟨n0, by omega, h2, ?_⟩, Nat.le_refl _, h.recs, h.g, h.n⟩
 rw [List.take_length, <- h2]; exact Int.le_refl _
theorem qsv {d : Dk} {w : Wl} {all : List Bs} {sure : Nat} {hd : List Bs} {lost : Bool} {m : Nat} (hw : w.dead = false) (h : Lv d w.k w.g all sure m) (hm : m < 800) {p : Bs} (hp : okS p) :
  St (qft d w p).2.1 (qft d w p).2.2 (all ++ [p]) sure hd lost (m + 1) := by
 obtain ⟨k1, k2, k3, k4, k5, k6, k7, k8⟩ := h
 have hpk : q7m p = true := by unfold q7m; rw [decide_eq_true hp.1, decide_eq_true (by have := hp.2; omega)]; rfl
 have hlen := k5.len
 have hln := k5.n
 have hfl := U5 p
 have hp2 := hp.2
 have ha := q9w k2 w.k
 obtain ⟨d', o1, o2, o3, o4, o5⟩ := q73 k2 k3
 have hg : ∀ k, d'.get k = d.get k := qdn o2 o3
 have hb : Has ⟨(d.get w.k).b ++ frm p, none, (d.get w.k).su⟩ w.g (all ++ [p]) sure := k5.add hp (by omega)
 have hok : (d'.set w.k ⟨(d.get w.k).b ++ frm p, none, (d.get w.k).su⟩).Ok := by
  refine qbc o1 k1 ⟨ha.s0, by have := ha.s1; simp only [List.length_append]; omega⟩ ?_
  rw [hg, k6, o4, k4, List.length_append]
  simp only [List.length_nil]
  omega
 have g := q60 (d := d') (a := ⟨(d.get w.k).b ++ frm p, none, (d.get w.k).su⟩) k1
 have hap : d.append w.k (frm p) = (d.write.1, d'.set w.k ⟨(d.get w.k).b ++ frm p, none, (d.get w.k).su⟩) := by
  rw [Dk.append, if_neg k1.v, if_neg (by rw [qch k1, k6, k4]; simp only [List.length_nil]; omega)]
  rcases o5 with ⟨e, _⟩ | ⟨e, _⟩ <;> rw [e]
  ·rw [if_pos (.inr rfl)]
  ·rw [if_pos (.inl rfl)]
 unfold qft
 rw [if_neg (by rw [hw]; decide), if_neg (by rw [hpk]; decide), hap]
 rcases o5 with ⟨e, l⟩ | ⟨e, l⟩ <;> rw [e]
 ·refine .inr ⟨by simp [q09], .inl ⟨⟨w.k, w.g, k1, by rw [g.1]; exact hb, by rw [g.2, hg]; exact k6⟩, hok, by rw [(Y9 ..).1, o4]; exact k4⟩, hok, by rw [List.length_append, List.length_singleton]; omega⟩
 ·have en : q09 0 w = w := by simp [q09]
  simp only [en]
  refine .inl ⟨hw, k1, hok, by rw [(Y9 ..).2.1]; exact l, by rw [(Y9 ..).1, o4]; exact k4, by rw [g.1]; exact hb, by rw [g.2, hg]; exact k6, by rw [List.length_append, List.length_singleton]; omega, by omega⟩
theorem qou {d : Dk} {w : Wl} {all : List Bs} {sure : Nat} {hd : List Bs} {lost : Bool} {m : Nat} (hw : w.dead = false) (h : Lv d w.k w.g all sure m) :
  St (q71 d w).2.1 (q71 d w).2.2 all (if (q71 d w).1 = 0 then all.length else sure) hd lost (m + 1) := by
 obtain ⟨k1, k2, k3, k4, k5, k6, k7, k8⟩ := h
 have ha := q9w k2 w.k
 obtain ⟨d', o1, o2, o3, o4, o5⟩ := q73 k2 k3
 have hg : ∀ k, d'.get k = d.get k := qdn o2 o3
 unfold q71
 rw [if_neg (by rw [hw]; decide)]
 rw [Dk.sync, if_neg k1.v]
 rcases o5 with ⟨e, l⟩ | ⟨e, l⟩ <;> rw [e]
 ·simp only [show ¬ ((12 : Int) = 0) by decide, if_false]
  exact .inr ⟨by simp [q09], .inl ⟨⟨w.k, w.g, k1, by rw [hg]; exact k5, by rw [hg]; exact k6⟩, o1, by rw [o4]; exact k4⟩, o1, by omega⟩
 ·have en : q09 0 w = w := by simp [q09]
  have g := q60 (d := d') (a := ⟨(d.get w.k).b, (d.get w.k).c, (d.get w.k).b.length⟩) k1
  have hok : (d'.set w.k ⟨(d.get w.k).b, (d.get w.k).c, (d.get w.k).b.length⟩).Ok := by
   refine qbc o1 k1 ⟨Int.natCast_nonneg _, Int.le_refl _⟩ ?_
   have := k5.len
   have := k5.n
   rw [hg, k6, o4, k4]; simp only [List.length_nil]; omega
  simp only [if_true, en]
  exact .inl ⟨hw, k1, hok, by rw [(Y9 ..).2.1]; exact l, by rw [(Y9 ..).1, o4]; exact k4, by rw [g.1]; exact k5.le ha, by rw [g.2, hg]; exact k6, by omega, by omega⟩
theorem qov {d : Dk} {w : Wl} {all : List Bs} {sure : Nat} {hd0 : List Bs} {lost : Bool} {m : Nat} (hw : w.dead = false) (h : Lv d w.k w.g all sure m) (hm : m < 800) {hd : List Bs} (hh : ∀ r ∈ hd, okS r) (hn : hd.length = 2) :
  ((q3q d w hd).1 = 0 /\ (q3q d w hd).2.2.dead = false /\ Lv (q3q d w hd).2.1 (q3q d w hd).2.2.k (q3q d w hd).2.2.g hd 2 (m + 2)) \/
  (¬ (q3q d w hd).1 = 0 /\ (q3q d w hd).2.2.dead = true /\ Fin (q3q d w hd).2.1 all sure hd true /\ (q3q d w hd).2.1.Ok) := by
 obtain ⟨k1, k2, k3, k4, k5, k6, k7, k8⟩ := h
 have ha := q9w k2 w.k
 have hc0 : q0a d (1 - w.k) = (0, d) := by unfold q0a; rw [k3, if_neg (by decide), if_pos k6]
 have hho := q1u (g := w.g + 1) (n := hd.length) (by omega) (by omega)
 have hfl : (frm (N4 (w.g + 1) hd.length) ++ G1 hd).length <= 28 + 2 * 49 := by
  have := q72 (m := 42) hd fun r hr => (hh r hr).2
  rw [List.length_append, U5]
  have := hho.2
  rw [hn] at *
  omega
 obtain ⟨X, hX⟩ : ∃ X, frm (N4 (w.g + 1) hd.length) ++ G1 hd = X := ⟨_, rfl⟩
 have hXe : X = G1 (N4 (w.g + 1) hd.length :: hd) := by rw [N8, hX]
 have hlen := k5.len
 have hln := k5.n
 obtain ⟨d1, o1, o2, o3, o4, o5⟩ := q73 k2 k3
 have hg1 : ∀ k, d1.get k = d.get k := qdn o2 o3
 have ho := q9w k2 (1 - w.k)
 have hsu : (d.get (1 - w.k)).su = 0 := by
  have h1 := ho.s1
  rw [k6] at h1
  have := ho.s0
  simp at h1; omega
 obtain ⟨d2, hd2⟩ : ∃ d2, d2 = d1.set (1 - w.k) ⟨X, none, 0⟩ := ⟨_, rfl⟩
 have g2 := get_set' (d := d1) (a := ⟨X, none, 0⟩) k1
 rw [<- hd2] at g2
 have r2 : d2.room = 100000 := by rw [hd2, (Y9 ..).1, o4]; exact k4
 have l2 : d2.lost = d1.lost := by rw [hd2, (Y9 ..).2.1]
 have e1 : (1 : Int) - (1 - w.k) = w.k := by omega
 rw [hX] at hfl
 have ok2 : d2.Ok := by
  rw [hd2]
  refine qbc o1 k1.oth ⟨Int.le_refl _, (by show (0 : Int) <= _; omega)⟩ ?_
  rw [e1, hg1, o4, k4]
  simp only
  omega
 have hap : d.append (1 - w.k) X = (d.write.1, d2) := by
  rw [Dk.append, if_neg k1.oth.v, if_neg (by rw [qch k1.oth, e1, k6, k4]; simp only [List.length_nil]; omega), k6, hsu, List.nil_append, hd2]
  rcases o5 with ⟨e, _⟩ | ⟨e, _⟩ <;> rw [e]
  ·rw [if_pos (.inr rfl)]
  ·rw [if_pos (.inl rfl)]
 have fin2 : ∀ d3 : Dk, d3.Ok -> d3.room = 100000 -> d3.get w.k = d.get w.k -> (d3.get (1 - w.k)).b = X -> Fin d3 all sure hd true := fun d3 q1 q2 q3 q4 =>
  .inr ⟨rfl, ⟨w.k, w.g, k1, by rw [q3]; exact k5, by rw [q4, hXe]⟩, hh, by omega, q1, q2⟩
 have hcmp : q3q d w hd = (if (q9v d (1 - w.k) X).1 ≠ 0 then ((q9v d (1 - w.k) X).1, (q9v d (1 - w.k) X).2, q09 (q9v d (1 - w.k) X).1 w) else
   ((q0a (q9v d (1 - w.k) X).2 w.k).1, (q0a (q9v d (1 - w.k) X).2 w.k).2, q09 (q0a (q9v d (1 - w.k) X).2 w.k).1 ⟨1 - w.k, w.g + 1, w.dead⟩)) := by
  unfold q3q
  simp only [hc0, hX, ne_eq, not_true_eq_false, if_false]
 have n12 : ¬ ((12 : Int) = 0) := by decide
 rcases o5 with ⟨e, l⟩ | ⟨e, l⟩
 ·have hput : q9v d (1 - w.k) X = (12, d2) := by rw [q9v, hap, e]; simp only [n12, if_false]
  rw [hcmp, hput]
  simp only [ne_eq, n12, not_false_eq_true, if_true]
  exact .inr ⟨(by first | exact n12 | trivial), by simp [q09], fin2 d2 ok2 r2 (by rw [g2.2, hg1]) (by rw [g2.1]), ok2⟩
 ·have l2' : d2.lost = false := by rw [l2]; exact l
  obtain ⟨d3, p1, p2, p3, p4, p5⟩ := q73 ok2 l2'
  have hg3 : ∀ k, d3.get k = d2.get k := qdn p2 p3
  rcases p5 with ⟨e3, l3⟩ | ⟨e3, l3⟩
  ·have hput : q9v d (1 - w.k) X = (12, d3) := by rw [q9v, hap, e]; simp only [if_true]; rw [Dk.sync, if_neg k1.oth.v, e3]; simp only [n12, if_false]
   rw [hcmp, hput]
   simp only [ne_eq, n12, not_false_eq_true, if_true]
   exact .inr ⟨(by first | exact n12 | trivial), by simp [q09], fin2 d3 p1 (by rw [p4]; exact r2) (by rw [hg3, g2.2, hg1]) (by rw [hg3, g2.1]), p1⟩
  ·obtain ⟨d4, hd4⟩ : ∃ d4, d4 = d3.set (1 - w.k) ⟨X, none, X.length⟩ := ⟨_, rfl⟩
   have g4 := get_set' (d := d3) (a := ⟨X, none, X.length⟩) k1
   rw [<- hd4] at g4
   have r4 : d4.room = 100000 := by rw [hd4, (Y9 ..).1, p4]; exact r2
   have l4 : d4.lost = false := by rw [hd4, (Y9 ..).2.1]; exact l3
   have ok4 : d4.Ok := by
    rw [hd4]
    refine qbc p1 k1.oth ⟨Int.natCast_nonneg _, Int.le_refl _⟩ ?_
    rw [e1, hg3, g2.2, hg1, p4, r2]
    simp only
    omega
   have hput : q9v d (1 - w.k) X = (0, d4) := by
    rw [q9v, hap, e]
    simp only [if_true]
    rw [Dk.sync, if_neg k1.oth.v, e3]
    simp only [if_true]
    rw [g2.1]
    exact congrArg (Prod.mk 0) hd4.symm
   rw [hcmp, hput]
   simp only [ne_eq, not_true_eq_false, if_false]
   have hA : (d4.get w.k) = d.get w.k := by rw [g4.2, hg3, g2.2, hg1]
   have hB : (d4.get (1 - w.k)) = ⟨X, none, X.length⟩ := g4.1
   have hne : ¬ (d4.get w.k).b = [] := by
    obtain ⟨n0, _, hb, _⟩ := k5.ex
    rw [hA, hb, N8]
    intro h0
    have := congrArg List.length h0
    rw [List.length_append, U5] at this
    simp at this
   obtain ⟨d5, q1, q2, q3, q4, q5⟩ := q73 ok4 l4
   have hg5 : ∀ k, d5.get k = d4.get k := qdn q2 q3
   have hcl : q0a d4 w.k = d4.cut w.k 0 := by unfold q0a; rw [l4, if_neg (by decide), if_neg hne]
   have hcut : d4.cut w.k 0 = if d4.write.1 = 0 then (d4.write.1, d4.write.2.2.set w.k ⟨[], none, 0⟩) else (d4.write.1, d4.write.2.2) := by
    rw [Dk.cut, if_neg k1.v, if_neg (by omega)]; rfl
   rw [hcl, hcut]
   rcases q5 with ⟨e5, l5⟩ | ⟨e5, l5⟩ <;> rw [e5]
   ·simp only [n12, if_false]
    exact .inr ⟨(by first | exact n12 | trivial), by simp [q09], fin2 d5 q1 (by rw [q4]; exact r4) (by rw [hg5, hA]) (by rw [hg5, hB]), q1⟩
   ·simp only [if_true]
    have g6 := q60 (d := d5) (a := ⟨[], none, 0⟩) k1
    have en : q09 0 (⟨1 - w.k, w.g + 1, w.dead⟩ : Wl) = ⟨1 - w.k, w.g + 1, w.dead⟩ := by simp [q09]
    rw [en]
    refine .inl ⟨trivial, hw, k1.oth, ?_, by rw [(Y9 ..).2.1]; exact l5, by rw [(Y9 ..).1, q4]; exact r4, ?_, ?_, by omega, (by show w.g + 1 <= m + 2; omega)⟩
    ·refine qbc q1 k1 ⟨Int.le_refl _, by simp⟩ ?_
     rw [hg5, hB, q4, r4]
     simp only [List.length_nil]
     omega
    ·rw [g6.2, hg5, hB]
     refine ⟨⟨hd.length, by omega, hXe, ?_⟩, by omega, hh, (by show w.g + 1 < 1000000; omega), by omega⟩
     rw [show hd.take 2 = hd from List.take_of_length_le (by omega), <- hXe]
     exact Int.le_refl _
    ·rw [e1, g6.1]
end Go.Aw
