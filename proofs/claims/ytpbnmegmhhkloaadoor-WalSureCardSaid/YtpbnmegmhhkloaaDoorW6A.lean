import Derived.Test.YtpbnmegmhhkloaaDoorW06F04LB
import Derived.Test.YtpbnmegmhhkloaaDoorW06E12A
namespace Go.Aw
open Go
open Go.Proofs.Tryd (prog)
set_option linter.all false
set_option maxHeartbeats 4000000
set_option maxRecDepth 8000
abbrev Bs := List UInt8
def okF (r : Bs) : Prop := 1 <= r.length /\ r.length <= 65535
theorem qst {b : Bs} (hn : nxE b = none) : b = frm (q70 b) ++ b.drop (q5z b + 7) /\ okF (q70 b) /\ (q70 b).length = q5z b := by
 unfold nxE at hn
 split at hn
 ·cases hn
 split at hn
 ·cases hn
 rename_i h197
 split at hn
 ·cases hn
 rename_i h3
 split at hn
 ·cases hn
 rename_i h0
 split at hn
 ·cases hn
 rename_i h8
 split at hn
 ·cases hn
 rename_i hw
 have hw' : q2v ((b.take (q5z b + 7)).drop 1) = true := by simpa using hw
 rw [q2v, Bool.and_eq_true] at hw'
 have hs := of_decide_eq_true hw'.2
 rcases b with _ | ⟨x0, _ | ⟨x1, _ | ⟨x2, r⟩⟩⟩
 ·simp at h3
 ·simp at h3
 ·simp at h3
 have e0 : x0 = 197 := by
  have : bAt (x0 :: x1 :: x2 :: r) 0 = 197 := by simpa using h197
  exact this
 have b1 := x1.toNat_lt
 have b2 := x2.toNat_lt
 have i1 : hiB (x1.toNat * 256 + x2.toNat) = x1 := by
  unfold hiB
  rw [show (x1.toNat * 256 + x2.toNat) / 256 % 256 = x1.toNat by omega]; simp
 have i2 : loB (x1.toNat * 256 + x2.toNat) = x2 := by
  unfold loB
  rw [show (x1.toNat * 256 + x2.toNat) % 256 = x2.toNat by omega]; simp
 have es : q5z (x0 :: x1 :: x2 :: r) = x1.toNat * 256 + x2.toNat := rfl
 obtain ⟨n, hn⟩ : ∃ n, n = x1.toNat * 256 + x2.toNat := ⟨_, rfl⟩
 rw [<- hn] at es i1 i2
 have er : q70 (x0 :: x1 :: x2 :: r) = r.take n := by
  unfold q70
  rw [es]
  rfl
 rw [es] at h0 h8 hs
 simp only [List.length_cons] at h8
 have hlr : (r.take n).length = n := by rw [List.length_take]; omega
 have hl4 : (r.take (n + 4)).length = n + 4 := by rw [List.length_take]; omega
 have et : ((x0 :: x1 :: x2 :: r).take (n + 7)).drop 1 = x1 :: x2 :: r.take (n + 4) := rfl
 rw [et] at hs
 have e5 : (x1 :: x2 :: r.take (n + 4)).take ((x1 :: x2 :: r.take (n + 4)).length - 4) = x1 :: x2 :: r.take n := by
  rw [show (x1 :: x2 :: r.take (n + 4)).length - 4 = n + 2 by simp only [List.length_cons, hl4]; omega]
  show x1 :: x2 :: (r.take (n + 4)).take n = _
  rw [List.take_take, Nat.min_eq_left (by omega)]
 rw [e5] at hs
 rw [er, es]
 refine ⟨?_, ⟨by omega, by omega⟩, hlr⟩
 unfold frm
 rw [hlr, i1, i2, hs, e0]
 show _ = 197 :: x1 :: x2 :: (r.take (n + 4) ++ r.drop (n + 4))
 rw [List.take_append_drop]
def qop (b : Bs) : List Bs × Nat × Int := recs (b.length + 1) 0 b
theorem q8r : ∀ (f a : Nat) (c : Bs), c.length < f -> ∃ rs rest w e, c = G1 rs ++ rest /\ (∀ r ∈ rs, okF r) /\ nxE rest = some (w, e) /\ recs f a c = (rs, a + (G1 rs).length, e)
 | 0, a, c, h => by omega
 | f + 1, a, c, h => by
  unfold recs
  rcases hn : nxE c with _ | ⟨w, e⟩
  ·obtain ⟨h1, h2, h3⟩ := qst hn
   have hs := qjz hn
   obtain ⟨rs, rest, w, e, i1, i2, i3, i4⟩ := q8r f (a + (q5z c + 7)) (c.drop (q5z c + 7)) (by rw [List.length_drop]; omega)
   refine ⟨q70 c :: rs, rest, w, e, ?_, ?_, i3, ?_⟩
   ·rw [N8, List.append_assoc, <- i1]; exact h1
   ·intro r hr
    rcases List.mem_cons.1 hr with rfl | hr
    ·exact h2
    ·exact i2 r hr
   ·simp only [i4, N8, List.length_append, U5, h3]
    rw [show a + (q5z c + 7) + (G1 rs).length = a + (q5z c + 7 + (G1 rs).length) by omega]
  ·exact ⟨[], c, w, e, rfl, fun _ h => (by cases h), hn, rfl⟩
theorem qk8 {rest w : Bs} {e : Int} (h : nxE rest = some (w, e)) : ∀ (rs : List Bs) (f a : Nat), (∀ r ∈ rs, okF r) -> (G1 rs ++ rest).length < f -> recs f a (G1 rs ++ rest) = (rs, a + (G1 rs).length, e)
 | [], f, a, _, hf => by
  obtain ⟨f, rfl⟩ : ∃ g, f = g + 1 := ⟨f - 1, by omega⟩
  unfold recs
  simp only [G1, List.flatMap_nil, List.nil_append, h, List.length_nil, Nat.add_zero]
 | r :: rs, f, a, hr, hf => by
  obtain ⟨f, rfl⟩ : ∃ g, f = g + 1 := ⟨f - 1, by omega⟩
  have hok := hr r (List.mem_cons_self ..)
  have hfl := U5 r
  rw [N8, List.append_assoc] at hf ⊢
  rw [List.length_append] at hf
  obtain ⟨x1, x2⟩ := qsm hok (G1 rs ++ rest)
  have x3 := qjx hok.2 (G1 rs ++ rest)
  have ih := qk8 h rs f (a + (r.length + 7)) (fun q hq => hr q (List.mem_cons_of_mem _ hq)) (by omega)
  unfold recs
  rw [x1]
  simp only
  rw [x2, x3, <- hfl, List.drop_left, hfl, ih, List.length_append, hfl]
  simp only
  rw [show a + (r.length + 7) + (G1 rs).length = a + (r.length + 7 + (G1 rs).length) by omega]
theorem qba : nxE [] = some ([101, 110, 100], 6) := rfl
theorem qfr (b : Bs) : ∃ rs rest w e, b = G1 rs ++ rest /\ (∀ r ∈ rs, okF r) /\ nxE rest = some (w, e) /\ qop b = (rs, (G1 rs).length, e) := by
 obtain ⟨rs, rest, w, e, h1, h2, h3, h4⟩ := q8r (b.length + 1) 0 b (Nat.lt_succ_self _)
 exact ⟨rs, rest, w, e, h1, h2, h3, by rw [qop, h4, Nat.zero_add]⟩
theorem qcc {rs : List Bs} (h : ∀ r ∈ rs, okF r) {rest w : Bs} {e : Int} (h2 : nxE rest = some (w, e)) : qop (G1 rs ++ rest) = (rs, (G1 rs).length, e) := by
 rw [qop, qk8 h2 rs _ 0 h (Nat.lt_succ_self _), Nat.zero_add]
theorem qk9 {rs : List Bs} (h : ∀ r ∈ rs, okF r) : qop (G1 rs) = (rs, (G1 rs).length, 6) := by
 have := qcc h qba
 rwa [List.append_nil] at this
structure Wh where
 g : Nat
 l : List Bs
 good : Nat
 all : Nat
def qoq : Bs -> Option (Nat × Nat)
 | [] => none
 | c :: r => if c = 71 then
   let x := q1a 18446744073709551615 (r, false)
   let y := q1a 18446744073709551615 x.2
   if y.2.2 = false /\ y.2.1 = [] then some (x.1, y.1) else none
  else none
def Q0 (b : Bs) : Option Wh := match (qop b).1 with
 | [] => none
 | h :: l => match qoq h with
  | none => none
  | some (g, n) => if n <= l.length then some ⟨g, l, (qop b).2.1, b.length⟩ else none
def N4 (g n : Nat) : Bs := 71 :: (enc g ++ enc n)
theorem qka {g n : Nat} (hg : g < 18446744073709551616) (hn : n < 18446744073709551616) : qoq (N4 g n) = some (g, n) := by
 unfold N4 qoq
 have e1 := qd6 (k := 18446744073709551615) (n := g) (by omega) hg (enc n)
 have e2 := qd6 (k := 18446744073709551615) (n := n) (by omega) hn []
 rw [List.append_nil] at e2
 simp only [if_true, e1, e2, and_self]
theorem q1u {g n : Nat} (hg : g < 18446744073709551616) (hn : n < 18446744073709551616) : okF (N4 g n) /\ (N4 g n).length <= 21 := by
 have h1 := q6h hg
 have h2 := q6h hn
 unfold okF N4
 simp only [List.length_cons, List.length_append]
 omega
theorem qcd {rs : List Bs} {g n : Nat} (hg : g < 18446744073709551616) (hn : n <= rs.length) (hn2 : rs.length < 18446744073709551616) (h : ∀ r ∈ rs, okF r) {rest w : Bs} {e : Int} (h2 : nxE rest = some (w, e)) :
  Q0 (G1 (N4 g n :: rs) ++ rest) = some ⟨g, rs, (G1 (N4 g n :: rs)).length, (G1 (N4 g n :: rs) ++ rest).length⟩ := by
 have := qcc (rs := N4 g n :: rs) (fun r hr => by
  rcases List.mem_cons.1 hr with rfl | hr
  ·exact (q1u hg (by omega)).1
  ·exact h r hr) h2
 unfold Q0
 rw [this]
 simp only [qka hg (show n < 18446744073709551616 by omega), if_pos hn]
theorem qkb {rs : List Bs} {g n : Nat} (hg : g < 18446744073709551616) (hn2 : n < 18446744073709551616) (hn : rs.length < n) (h : ∀ r ∈ rs, okF r) {rest w : Bs} {e : Int} (h2 : nxE rest = some (w, e)) : Q0 (G1 (N4 g n :: rs) ++ rest) = none := by
 have := qcc (rs := N4 g n :: rs) (fun r hr => by
  rcases List.mem_cons.1 hr with rfl | hr
  ·exact (q1u hg hn2).1
  ·exact h r hr) h2
 unfold Q0
 rw [this]
 simp only [qka hg hn2, if_neg (show ¬ n <= rs.length by omega)]
theorem qbb {rest w : Bs} {e : Int} (h2 : nxE rest = some (w, e)) : Q0 rest = none := by
 have := qcc (rs := []) (fun _ h => by cases h) h2
 simp only [G1, List.flatMap_nil, List.nil_append] at this
 unfold Q0
 rw [this]
theorem qce : Q0 [] = none := qbb qba
theorem q9u {b : Bs} {w : Wh} (h : Q0 b = some w) : w.all = b.length /\ w.good <= b.length /\ 0 < w.good /\ Q0 (b.take w.good) = some ⟨w.g, w.l, w.good, w.good⟩ := by
 obtain ⟨rs, rest, x, e, h1, h2, h3, h4⟩ := qfr b
 unfold Q0 at h
 rw [h4] at h
 rcases rs with _ | ⟨r, rs⟩
 ·cases h
 simp only at h
 rcases hh : qoq r with _ | ⟨g, n⟩
 ·rw [hh] at h; cases h
 rw [hh] at h
 simp only at h
 by_cases hn : n <= rs.length
 ·rw [if_pos hn] at h
  injection h with h
  subst h
  have hlen : (G1 (r :: rs)).length <= b.length := by rw [h1, List.length_append]; omega
  have ht : b.take (G1 (r :: rs)).length = G1 (r :: rs) := by rw [h1, List.take_left]
  refine ⟨rfl, hlen, (by show 0 < (G1 (r :: rs)).length; rw [N8, List.length_append, U5]; omega), ?_⟩
  simp only
  rw [ht]
  unfold Q0
  rw [qk9 h2]
  simp only [hh, if_pos hn]
 ·rw [if_neg hn] at h; cases h
theorem qor {r : Bs} (h : okF r) {j : Nat} (h0 : 0 < j) (hj : j < r.length + 7) : ∃ w, nxE ((frm r).take j) = some (w, 4) := by
 have hl := U5 r
 have hlen : ((frm r).take j).length = j := by rw [List.length_take]; omega
 have hb : ∀ k, k < j -> bAt ((frm r).take j) k = bAt (frm r) k := fun k hk => by unfold bAt; rw [List.getElem?_take_of_lt hk]
 have hb0 : bAt (frm r) 0 = 197 := (qev r []).1
 unfold nxE
 rw [if_neg (by intro e; rw [e] at hlen; simp at hlen; omega), if_neg (by rw [hb 0 h0, hb0]; simp)]
 by_cases h3 : j < 3
 ·rw [if_pos (by omega)]; exact ⟨_, rfl⟩
 ·have hs : q5z ((frm r).take j) = r.length := by
   unfold q5z
   rw [hb 1 (by omega), hb 2 (by omega)]
   have := qjx (p := r) h.2 []
   rw [List.append_nil] at this
   exact this
  have h1 := h.1
  rw [if_neg (by omega), hs, if_neg (by omega), if_pos (by omega)]
  exact ⟨_, rfl⟩
theorem qcf : ∀ (rs : List Bs) (cut : Nat), (∀ r ∈ rs, okF r) -> ∃ j rest w e, (G1 rs).take cut = G1 (rs.take j) ++ rest /\ nxE rest = some (w, e) /\ j <= rs.length /\ (∀ i, i <= rs.length -> (G1 (rs.take i)).length <= cut -> i <= j)
 | [], cut, _ => ⟨0, [], _, _, by simp [G1], qba, Nat.le_refl _, fun i h _ => h⟩
 | r :: rs, cut, h => by
  have hfl := U5 r
  by_cases hc : r.length + 7 <= cut
  ·obtain ⟨j, rest, w, e, h1, h2, h3, h4⟩ := qcf rs (cut - (r.length + 7)) fun q hq => h q (List.mem_cons_of_mem _ hq)
   refine ⟨j + 1, rest, w, e, ?_, h2, by simp only [List.length_cons]; omega, fun i hi hle => ?_⟩
   ·rw [List.take_succ_cons, N8, N8, List.take_append, List.take_of_length_le (by omega), hfl, h1, List.append_assoc]
   ·rcases i with _ | i
    ·omega
    rw [List.take_succ_cons, N8, List.length_append, hfl] at hle
    have := h4 i (by simp only [List.length_cons] at hi; omega) (by omega)
    omega
  ·have ht : (G1 (r :: rs)).take cut = (frm r).take cut := by
    rw [N8, List.take_append, show cut - (frm r).length = 0 by omega, List.take_zero, List.append_nil]
   have hz : ∀ i, i <= (r :: rs).length -> (G1 ((r :: rs).take i)).length <= cut -> i <= 0 := fun i hi hle => by
    rcases i with _ | i
    ·omega
    rw [List.take_succ_cons, N8, List.length_append, hfl] at hle
    omega
   rcases Nat.eq_zero_or_pos cut with rfl | h0
   ·exact ⟨0, [], _, _, by rw [ht]; simp [G1], qba, Nat.zero_le _, hz⟩
   ·obtain ⟨w, hw⟩ := qor (h r (List.mem_cons_self ..)) h0 (by omega)
    exact ⟨0, (frm r).take cut, w, 4, by rw [ht]; simp [G1], hw, Nat.zero_le _, hz⟩
end Go.Aw
