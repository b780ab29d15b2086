import Derived.Test.YtpbnmegmhhkloaaDoorW6C
namespace Go.Aw
open Go
open Go.Proofs.Tryd (prog)
set_option linter.all false
set_option maxHeartbeats 4000000
theorem qkg {a : Ar} {g : Nat} {all : List Bs} {sure : Nat} (h : Has a g all sure) {n : Nat} (hn : a.su <= n) : ∃ j w, Q0 (a.b.take n) = some w /\ w.g = g /\ w.l = all.take j /\ sure <= j /\ j <= all.length := by
 obtain ⟨n0, h1, h2, h3⟩ := h.ex
 have hg := h.g
 have hs := h.s
 have hnn := h.n
 have hok : ∀ r ∈ N4 g n0 :: all, okF r := fun r hr => by
  rcases List.mem_cons.1 hr with rfl | hr
  ·exact (q1u (by omega) (by omega)).1
  ·exact (h.recs r hr).f
 obtain ⟨j', rest, w, e, c1, c2, c3, c4⟩ := qcf (N4 g n0 :: all) n hok
 have hj := c4 (sure + 1) (by simp only [List.length_cons]; omega) (by rw [List.take_succ_cons]; omega)
 obtain ⟨j, rfl⟩ : ∃ j, j' = j + 1 := ⟨j' - 1, by omega⟩
 rw [List.take_succ_cons] at c1
 simp only [List.length_cons] at c3
 have hr := qcd (rs := all.take j) (g := g) (n := n0) (by omega) (by rw [List.length_take]; omega) (by rw [List.length_take]; omega) (fun r hr => (h.recs r (List.mem_of_mem_take hr)).f) c2
 exact ⟨j, _, by rw [h2, c1]; exact hr, rfl, rfl, by omega, by omega⟩
theorem qow {g : Nat} {hd : List Bs} (hg : g < 18446744073709551616) (hn : hd.length < 1000) (h : ∀ r ∈ hd, okS r) (n : Nat) : Q0 ((G1 (N4 g hd.length :: hd)).take n) = none \/ ∃ w, Q0 ((G1 (N4 g hd.length :: hd)).take n) = some w /\ w.g = g /\ w.l = hd := by
 have hok : ∀ r ∈ N4 g hd.length :: hd, okF r := fun r hr => by
  rcases List.mem_cons.1 hr with rfl | hr
  ·exact (q1u (by omega) (by omega)).1
  ·exact (h r hr).f
 obtain ⟨j', rest, w, e, c1, c2, c3, c4⟩ := qcf (N4 g hd.length :: hd) n hok
 rw [c1]
 rcases j' with _ | j
 ·left
  exact qbb c2
 rw [List.take_succ_cons]
 simp only [List.length_cons] at c3
 by_cases hj : j = hd.length
 ·right
  rw [hj, List.take_length]
  exact ⟨_, qcd hg (Nat.le_refl _) (by omega) (fun r hr => (h r hr).f) c2, rfl, rfl⟩
 ·left
  exact qkb hg (by omega) (by rw [List.length_take]; omega) (fun r hr => (h r (List.mem_of_mem_take hr)).f) c2
theorem q2x (d : Dk) (k0 k1 k : Int) : (d.crash k0 k1).get k = (d.get k).crash (if k = 0 then k0 else k1) := by
 unfold Dk.get Dk.crash; split <;> rfl
theorem qci {d : Dk} (h : d.Ok) {k0 k1 : Int} (h0 : 0 <= k0) (h1 : 0 <= k1) : Un (d.crash k0 k1) := ⟨Dk.crash_ok h h0 h1, rfl, rfl⟩
theorem q8s {a : Ar} (h : a.Ok) {q : Int} (hq : 0 <= q) : ∃ n : Nat, (a.crash q).b = a.b.take n /\ a.su <= n := by
 have h1 := Ar.keep_bd h hq
 have h2 := h.s0
 exact ⟨(a.keepN q).toNat, rfl, by omega⟩
theorem qkh {d : Dk} {all : List Bs} {sure : Nat} {hd : List Bs} {lost : Bool} (h : Fin d all sure hd lost) {k0 k1 : Int} (h0 : 0 <= k0) (h1 : 0 <= k1) :
  Un (d.crash k0 k1) /\ (10 : Int) + (d.crash k0 k1).a1.b.length <= (d.crash k0 k1).room /\ ((∃ j, sure <= j /\ j <= all.length /\ (N9 (d.crash k0 k1)).2.1 = all.take j) \/ (lost = true /\ (N9 (d.crash k0 k1)).2.1 = hd)) := by
 have hq : ∀ k : Int, 0 <= (if k = 0 then k0 else k1) := fun k => by split <;> assumption
 have one : ∀ (k : Int), Kk k -> d.room = 100000 -> (d.get k).b.length <= 60000 -> (d.get (1 - k)).b.length <= 60000 -> (10 : Int) + (d.crash k0 k1).a1.b.length <= (d.crash k0 k1).room := fun k hk hr ha hb => by
  have e : d.a1.b.length <= 60000 := by
   rcases hk with rfl | rfl
   ·exact hb
   ·exact ha
  show (10 : Int) + (d.a1.crash k1).b.length <= d.room
  have : (d.a1.crash k1).b.length <= d.a1.b.length := by simp only [Ar.crash, List.length_take]; omega
  omega
 rcases h with ⟨⟨k, g, hk, ha, hb⟩, hok, hr⟩ | ⟨hl, ⟨k, g, hk, ha, hb⟩, hrec, hn, hok, hr⟩
 ·have hl := ha.len
  have hn := ha.n
  refine ⟨qci hok h0 h1, one k hk hr (by omega) (by rw [hb]; simp), .inl ?_⟩
  obtain ⟨n, e1, e2⟩ := q8s (q9w hok k) (hq k)
  obtain ⟨j, w, r1, r2, r3, r4, r5⟩ := qkg ha e2
  have hc := q7n (d := d.crash k0 k1) hk (w := w) (by rw [q2x, e1]; exact r1) (by
   obtain ⟨n, e1, e2⟩ := q8s (q9w hok (1 - k)) (hq (1 - k))
   rw [q2x, e1, hb, List.take_nil]; exact qce)
  refine ⟨j, r4, r5, ?_⟩
  unfold N9
  rw [hc]
  exact r3
 ·have hl2 := ha.len
  have hn2 := ha.n
  have hg2 := ha.g
  have hbl : (d.get (1 - k)).b.length <= 60000 := by
   rw [hb]
   have h4 := q72 (m := 42) hd fun r hr => (hrec r hr).2
   have := (q1u (g := g + 1) (n := hd.length) (by omega) (by omega)).2
   rw [N8, List.length_append, U5]
   omega
  refine ⟨qci hok h0 h1, one k hk hr (by omega) hbl, ?_⟩
  obtain ⟨n, e1, e2⟩ := q8s (q9w hok k) (hq k)
  obtain ⟨j, w, r1, r2, r3, r4, r5⟩ := qkg ha e2
  obtain ⟨m, f1, f2⟩ := q8s (q9w hok (1 - k)) (hq (1 - k))
  rcases qow (g := g + 1) (by omega) hn hrec m with hnone | ⟨v, hv, hvg, hvl⟩
  ·left
   have hc := q7n (d := d.crash k0 k1) hk (w := w) (by rw [q2x, e1]; exact r1) (by rw [q2x, f1, hb]; exact hnone)
   refine ⟨j, r4, r5, ?_⟩
   unfold N9
   rw [hc]
   exact r3
  ·right
   have e : (1 : Int) - (1 - k) = k := by omega
   have hc := qhc (d := d.crash k0 k1) hk.oth (w := v) (v := w) (by rw [q2x, f1, hb]; exact hv) (by rw [e, q2x, e1]; exact r1) (by rw [r2, hvg]; omega)
   refine ⟨hl, ?_⟩
   unfold N9
   rw [hc]
   exact hvl
theorem qfv {r : Int} (h : 10 <= r) (h2 : r <= 1048576) : N9 (Dk.new r) = (⟨0, 1, false⟩, [], ⟨r, ⟨frm (N4 1 0), none, 10⟩, ⟨[], some 0, 0⟩, false, false, 0⟩) := by
 have e : Dk.new r = ⟨r, ⟨[], some 0, 0⟩, ⟨[], some 0, 0⟩, false, false, 0⟩ := by
  unfold Dk.new
  rw [show min (max r 0) 1048576 = r by omega]
 have hc : U2 (Dk.new r) = none := by
  rw [e]
  unfold U2
  simp only [qce]
 unfold N9
 rw [hc, e]
 rfl
end Go.Aw
