import Derived.Test.YtpbnmegmhhkloaaDoorW06F04LB
import Derived.Test.YtpbnmegmhhkloaaDoorW06E12A
namespace Go.Aw
open Go
open Go.Proofs.Tryd (prog)
set_option linter.all false
set_option maxHeartbeats 4000000
set_option maxRecDepth 8000
abbrev Bs := List UInt8
def okF (r : Bs) : Prop := 1 <= r.length /\ r.length <= 65535
theorem qqi {b : Bs} (hn : nxE b = none) : b = frm (q5z b) ++ b.drop (q5y b + 7) /\ okF (q5z b) /\ (q5z b).length = q5y b := by
 unfold nxE at hn
 split at hn
 ·cases hn
 split at hn
 ·cases hn
 rename_i h197
 split at hn
 ·cases hn
 rename_i h3
 split at hn
 ·cases hn
 rename_i h0
 split at hn
 ·cases hn
 rename_i h8
 split at hn
 ·cases hn
 rename_i hw
 have hw' : q29 ((b.take (q5y b + 7)).drop 1) = true := by simpa using hw
 rw [q29, Bool.and_eq_true] at hw'
 have hs := of_decide_eq_true hw'.2
 rcases b with _ | ⟨x0, _ | ⟨x1, _ | ⟨x2, r⟩⟩⟩
 ·simp at h3
 ·simp at h3
 ·simp at h3
 have e0 : x0 = 197 := by
  have : bAt (x0 :: x1 :: x2 :: r) 0 = 197 := by simpa using h197
  exact this
 have b1 := x1.toNat_lt
 have b2 := x2.toNat_lt
 have i1 : hiB (x1.toNat * 256 + x2.toNat) = x1 := by
  unfold hiB
  rw [show (x1.toNat * 256 + x2.toNat) / 256 % 256 = x1.toNat by omega]; simp
 have i2 : loB (x1.toNat * 256 + x2.toNat) = x2 := by
  unfold loB
  rw [show (x1.toNat * 256 + x2.toNat) % 256 = x2.toNat by omega]; simp
 have es : q5y (x0 :: x1 :: x2 :: r) = x1.toNat * 256 + x2.toNat := rfl
 obtain ⟨n, hn⟩ : ∃ n, n = x1.toNat * 256 + x2.toNat := ⟨_, rfl⟩
 rw [<- hn] at es i1 i2
 have er : q5z (x0 :: x1 :: x2 :: r) = r.take n := by
  unfold q5z
  rw [es]
  rfl
 rw [es] at h0 h8 hs
 simp only [List.length_cons] at h8
 have hlr : (r.take n).length = n := by rw [List.length_take]; omega
 have hl4 : (r.take (n + 4)).length = n + 4 := by rw [List.length_take]; omega
 have et : ((x0 :: x1 :: x2 :: r).take (n + 7)).drop 1 = x1 :: x2 :: r.take (n + 4) := rfl
 rw [et] at hs
 have e5 : (x1 :: x2 :: r.take (n + 4)).take ((x1 :: x2 :: r.take (n + 4)).length - 4) = x1 :: x2 :: r.take n := by
  rw [show (x1 :: x2 :: r.take (n + 4)).length - 4 = n + 2 by simp only [List.length_cons, hl4]; omega]
  show x1 :: x2 :: (r.take (n + 4)).take n = _
  rw [List.take_take, Nat.min_eq_left (by omega)]
 rw [e5] at hs
 rw [er, es]
 refine ⟨?_, ⟨by omega, by omega⟩, hlr⟩
 unfold frm
 rw [hlr, i1, i2, hs, e0]
 show _ = 197 :: x1 :: x2 :: (r.take (n + 4) ++ r.drop (n + 4))
 rw [List.take_append_drop]
def qmo (b : Bs) : List Bs × Nat × Int := recs (b.length + 1) 0 b
theorem q7m : ∀ (f a : Nat) (c : Bs), c.length < f -> ∃ rs rest w e, c = q1j rs ++ rest /\ (∀ r ∈ rs, okF r) /\ nxE rest = some (w, e) /\ recs f a c = (rs, a + (q1j rs).length, e)
 | 0, a, c, h => by omega
 | f + 1, a, c, h => by
  unfold recs
  rcases hn : nxE c with _ | ⟨w, e⟩
  ·obtain ⟨h1, h2, h3⟩ := qqi hn
   have hs := qi8 hn
   obtain ⟨rs, rest, w, e, i1, i2, i3, i4⟩ := q7m f (a + (q5y c + 7)) (c.drop (q5y c + 7)) (by rw [List.length_drop]; omega)
   refine ⟨q5z c :: rs, rest, w, e, ?_, ?_, i3, ?_⟩
   ·rw [Z0, List.append_assoc, <- i1]; exact h1
   ·intro r hr
    rcases List.mem_cons.1 hr with rfl | hr
    ·exact h2
    ·exact i2 r hr
   ·simp only [i4, Z0, List.length_append, I0, h3]
    rw [show a + (q5y c + 7) + (q1j rs).length = a + (q5y c + 7 + (q1j rs).length) by omega]
  ·exact ⟨[], c, w, e, rfl, fun _ h => (by cases h), hn, rfl⟩
theorem qif {rest w : Bs} {e : Int} (h : nxE rest = some (w, e)) : ∀ (rs : List Bs) (f a : Nat), (∀ r ∈ rs, okF r) -> (q1j rs ++ rest).length < f -> recs f a (q1j rs ++ rest) = (rs, a + (q1j rs).length, e)
 | [], f, a, _, hf => by
  obtain ⟨f, rfl⟩ : ∃ g, f = g + 1 := ⟨f - 1, by omega⟩
  unfold recs
  simp only [q1j, List.flatMap_nil, List.nil_append, h, List.length_nil, Nat.add_zero]
 | r :: rs, f, a, hr, hf => by
  obtain ⟨f, rfl⟩ : ∃ g, f = g + 1 := ⟨f - 1, by omega⟩
  have hok := hr r (List.mem_cons_self ..)
  have hfl := I0 r
  rw [Z0, List.append_assoc] at hf ⊢
  rw [List.length_append] at hf
  obtain ⟨x1, x2⟩ := qqb hok (q1j rs ++ rest)
  have x3 := ql3 hok.2 (q1j rs ++ rest)
  have ih := qif h rs f (a + (r.length + 7)) (fun q hq => hr q (List.mem_cons_of_mem _ hq)) (by omega)
  unfold recs
  rw [x1]
  simp only
  rw [x2, x3, <- hfl, List.drop_left, hfl, ih, List.length_append, hfl]
  simp only
  rw [show a + (r.length + 7) + (q1j rs).length = a + (r.length + 7 + (q1j rs).length) by omega]
theorem qea : nxE [] = some ([101, 110, 100], 6) := rfl
theorem qeb (b : Bs) : ∃ rs rest w e, b = q1j rs ++ rest /\ (∀ r ∈ rs, okF r) /\ nxE rest = some (w, e) /\ qmo b = (rs, (q1j rs).length, e) := by
 obtain ⟨rs, rest, w, e, h1, h2, h3, h4⟩ := q7m (b.length + 1) 0 b (Nat.lt_succ_self _)
 exact ⟨rs, rest, w, e, h1, h2, h3, by rw [qmo, h4, Nat.zero_add]⟩
theorem qdj {rs : List Bs} (h : ∀ r ∈ rs, okF r) {rest w : Bs} {e : Int} (h2 : nxE rest = some (w, e)) : qmo (q1j rs ++ rest) = (rs, (q1j rs).length, e) := by
 rw [qmo, qif h2 rs _ 0 h (Nat.lt_succ_self _), Nat.zero_add]
theorem qig {rs : List Bs} (h : ∀ r ∈ rs, okF r) : qmo (q1j rs) = (rs, (q1j rs).length, 6) := by
 have := qdj h qea
 rwa [List.append_nil] at this
structure Wh where
 g : Nat
 l : List Bs
 good : Nat
 all : Nat
def qmp : Bs -> Option (Nat × Nat)
 | [] => none
 | c :: r => if c = 71 then
   let x := q0u 18446744073709551615 (r, false)
   let y := q0u 18446744073709551615 x.2
   if y.2.2 = false /\ y.2.1 = [] then some (x.1, y.1) else none
  else none
def V3 (b : Bs) : Option Wh := match (qmo b).1 with
 | [] => none
 | h :: l => match qmp h with
  | none => none
  | some (g, n) => if n <= l.length then some ⟨g, l, (qmo b).2.1, b.length⟩ else none
def Y7 (g n : Nat) : Bs := 71 :: (enc g ++ enc n)
theorem qmq {g n : Nat} (hg : g < 18446744073709551616) (hn : n < 18446744073709551616) : qmp (Y7 g n) = some (g, n) := by
 unfold Y7 qmp
 have e1 := qbu (k := 18446744073709551615) (n := g) (by omega) hg (enc n)
 have e2 := qbu (k := 18446744073709551615) (n := n) (by omega) hn []
 rw [List.append_nil] at e2
 simp only [if_true, e1, e2, and_self]
theorem q8o {g n : Nat} (hg : g < 18446744073709551616) (hn : n < 18446744073709551616) : okF (Y7 g n) /\ (Y7 g n).length <= 21 := by
 have h1 := q5h hg
 have h2 := q5h hn
 unfold okF Y7
 simp only [List.length_cons, List.length_append]
 omega
theorem qih {rs : List Bs} {g n : Nat} (hg : g < 18446744073709551616) (hn : n <= rs.length) (hn2 : rs.length < 18446744073709551616) (h : ∀ r ∈ rs, okF r) {rest w : Bs} {e : Int} (h2 : nxE rest = some (w, e)) :
  V3 (q1j (Y7 g n :: rs) ++ rest) = some ⟨g, rs, (q1j (Y7 g n :: rs)).length, (q1j (Y7 g n :: rs) ++ rest).length⟩ := by
 have := qdj (rs := Y7 g n :: rs) (fun r hr => by
  rcases List.mem_cons.1 hr with rfl | hr
  ·exact (q8o hg (by omega)).1
  ·exact h r hr) h2
 unfold V3
 rw [this]
 simp only [qmq hg (show n < 18446744073709551616 by omega), if_pos hn]
theorem qfr {rest w : Bs} {e : Int} (h2 : nxE rest = some (w, e)) : V3 rest = none := by
 have := qdj (rs := []) (fun _ h => by cases h) h2
 simp only [q1j, List.flatMap_nil, List.nil_append] at this
 unfold V3
 rw [this]
theorem qb3 : V3 [] = none := qfr qea
theorem q8p {b : Bs} {w : Wh} (h : V3 b = some w) : w.all = b.length /\ w.good <= b.length /\ 0 < w.good /\ V3 (b.take w.good) = some ⟨w.g, w.l, w.good, w.good⟩ := by
 obtain ⟨rs, rest, x, e, h1, h2, h3, h4⟩ := qeb b
 unfold V3 at h
 rw [h4] at h
 rcases rs with _ | ⟨r, rs⟩
 ·cases h
 simp only at h
 rcases hh : qmp r with _ | ⟨g, n⟩
 ·rw [hh] at h; cases h
 rw [hh] at h
 simp only at h
 by_cases hn : n <= rs.length
 ·rw [if_pos hn] at h
  injection h with h
  subst h
  have hlen : (q1j (r :: rs)).length <= b.length := by rw [h1, List.length_append]; omega
  have ht : b.take (q1j (r :: rs)).length = q1j (r :: rs) := by rw [h1, List.take_left]
  refine ⟨rfl, hlen, (by show 0 < (q1j (r :: rs)).length; rw [Z0, List.length_append, I0]; omega), ?_⟩
  simp only
  rw [ht]
  unfold V3
  rw [qig h2]
  simp only [hh, if_pos hn]
 ·rw [if_neg hn] at h; cases h
end Go.Aw
