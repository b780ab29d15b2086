import Derived.Test.YtpbnmegmhhkloaaDoorW06F04LB
import Derived.Test.YtpbnmegmhhkloaaDoorW06E12A
namespace Go.Aw
open Go
open Go.Proofs.Tryd (prog)
set_option linter.all false
set_option maxHeartbeats 4000000
set_option maxRecDepth 8000
abbrev Bs := List UInt8
def okF (r : Bs) : Prop := 1 <= r.length /\ r.length <= 65535
theorem qqy {b : Bs} (hn : nxE b = none) : b = frm (q68 b) ++ b.drop (q67 b + 7) /\ okF (q68 b) /\ (q68 b).length = q67 b := by
 unfold nxE at hn
 split at hn
 ·cases hn
 split at hn
 ·cases hn
 rename_i h197
 split at hn
 ·cases hn
 rename_i h3
 split at hn
 ·cases hn
 rename_i h0
 split at hn
 ·cases hn
 rename_i h8
 split at hn
 ·cases hn
 rename_i hw
 have hw' : q2a ((b.take (q67 b + 7)).drop 1) = true := by simpa using hw
 rw [q2a, Bool.and_eq_true] at hw'
 have hs := of_decide_eq_true hw'.2
 rcases b with _ | ⟨x0, _ | ⟨x1, _ | ⟨x2, r⟩⟩⟩
 ·simp at h3
 ·simp at h3
 ·simp at h3
 have e0 : x0 = 197 := by
  have : bAt (x0 :: x1 :: x2 :: r) 0 = 197 := by simpa using h197
  exact this
 have b1 := x1.toNat_lt
 have b2 := x2.toNat_lt
 have i1 : hiB (x1.toNat * 256 + x2.toNat) = x1 := by
  unfold hiB
  rw [show (x1.toNat * 256 + x2.toNat) / 256 % 256 = x1.toNat by omega]; simp
 have i2 : loB (x1.toNat * 256 + x2.toNat) = x2 := by
  unfold loB
  rw [show (x1.toNat * 256 + x2.toNat) % 256 = x2.toNat by omega]; simp
 have es : q67 (x0 :: x1 :: x2 :: r) = x1.toNat * 256 + x2.toNat := rfl
 obtain ⟨n, hn⟩ : ∃ n, n = x1.toNat * 256 + x2.toNat := ⟨_, rfl⟩
 rw [<- hn] at es i1 i2
 have er : q68 (x0 :: x1 :: x2 :: r) = r.take n := by
  unfold q68
  rw [es]
  rfl
 rw [es] at h0 h8 hs
 simp only [List.length_cons] at h8
 have hlr : (r.take n).length = n := by rw [List.length_take]; omega
 have hl4 : (r.take (n + 4)).length = n + 4 := by rw [List.length_take]; omega
 have et : ((x0 :: x1 :: x2 :: r).take (n + 7)).drop 1 = x1 :: x2 :: r.take (n + 4) := rfl
 rw [et] at hs
 have e5 : (x1 :: x2 :: r.take (n + 4)).take ((x1 :: x2 :: r.take (n + 4)).length - 4) = x1 :: x2 :: r.take n := by
  rw [show (x1 :: x2 :: r.take (n + 4)).length - 4 = n + 2 by simp only [List.length_cons, hl4]; omega]
  show x1 :: x2 :: (r.take (n + 4)).take n = _
  rw [List.take_take, Nat.min_eq_left (by omega)]
 rw [e5] at hs
 rw [er, es]
 refine ⟨?_, ⟨by omega, by omega⟩, hlr⟩
 unfold frm
 rw [hlr, i1, i2, hs, e0]
 show _ = 197 :: x1 :: x2 :: (r.take (n + 4) ++ r.drop (n + 4))
 rw [List.take_append_drop]
def qmv (b : Bs) : List Bs × Nat × Int := recs (b.length + 1) 0 b
theorem q7t : ∀ (f a : Nat) (c : Bs), c.length < f -> ∃ rs rest w e, c = q1i rs ++ rest /\ (∀ r ∈ rs, okF r) /\ nxE rest = some (w, e) /\ recs f a c = (rs, a + (q1i rs).length, e)
 | 0, a, c, h => by omega
 | f + 1, a, c, h => by
  unfold recs
  rcases hn : nxE c with _ | ⟨w, e⟩
  ·obtain ⟨h1, h2, h3⟩ := qqy hn
   have hs := qih hn
   obtain ⟨rs, rest, w, e, i1, i2, i3, i4⟩ := q7t f (a + (q67 c + 7)) (c.drop (q67 c + 7)) (by rw [List.length_drop]; omega)
   refine ⟨q68 c :: rs, rest, w, e, ?_, ?_, i3, ?_⟩
   ·rw [U9, List.append_assoc, <- i1]; exact h1
   ·intro r hr
    rcases List.mem_cons.1 hr with rfl | hr
    ·exact h2
    ·exact i2 r hr
   ·simp only [i4, U9, List.length_append, G9, h3]
    rw [show a + (q67 c + 7) + (q1i rs).length = a + (q67 c + 7 + (q1i rs).length) by omega]
  ·exact ⟨[], c, w, e, rfl, fun _ h => (by cases h), hn, rfl⟩
theorem qio {rest w : Bs} {e : Int} (h : nxE rest = some (w, e)) : ∀ (rs : List Bs) (f a : Nat), (∀ r ∈ rs, okF r) -> (q1i rs ++ rest).length < f -> recs f a (q1i rs ++ rest) = (rs, a + (q1i rs).length, e)
 | [], f, a, _, hf => by
  obtain ⟨f, rfl⟩ : ∃ g, f = g + 1 := ⟨f - 1, by omega⟩
  unfold recs
  simp only [q1i, List.flatMap_nil, List.nil_append, h, List.length_nil, Nat.add_zero]
 | r :: rs, f, a, hr, hf => by
  obtain ⟨f, rfl⟩ : ∃ g, f = g + 1 := ⟨f - 1, by omega⟩
  have hok := hr r (List.mem_cons_self ..)
  have hfl := G9 r
  rw [U9, List.append_assoc] at hf ⊢
  rw [List.length_append] at hf
  obtain ⟨x1, x2⟩ := qqq hok (q1i rs ++ rest)
  have x3 := qld hok.2 (q1i rs ++ rest)
  have ih := qio h rs f (a + (r.length + 7)) (fun q hq => hr q (List.mem_cons_of_mem _ hq)) (by omega)
  unfold recs
  rw [x1]
  simp only
  rw [x2, x3, <- hfl, List.drop_left, hfl, ih, List.length_append, hfl]
  simp only
  rw [show a + (r.length + 7) + (q1i rs).length = a + (r.length + 7 + (q1i rs).length) by omega]
theorem qcb : nxE [] = some ([101, 110, 100], 6) := rfl
theorem qkr (b : Bs) : ∃ rs rest w e, b = q1i rs ++ rest /\ (∀ r ∈ rs, okF r) /\ nxE rest = some (w, e) /\ qmv b = (rs, (q1i rs).length, e) := by
 obtain ⟨rs, rest, w, e, h1, h2, h3, h4⟩ := q7t (b.length + 1) 0 b (Nat.lt_succ_self _)
 exact ⟨rs, rest, w, e, h1, h2, h3, by rw [qmv, h4, Nat.zero_add]⟩
theorem qdj {rs : List Bs} (h : ∀ r ∈ rs, okF r) {rest w : Bs} {e : Int} (h2 : nxE rest = some (w, e)) : qmv (q1i rs ++ rest) = (rs, (q1i rs).length, e) := by
 rw [qmv, qio h2 rs _ 0 h (Nat.lt_succ_self _), Nat.zero_add]
theorem qip {rs : List Bs} (h : ∀ r ∈ rs, okF r) : qmv (q1i rs) = (rs, (q1i rs).length, 6) := by
 have := qdj h qcb
 rwa [List.append_nil] at this
structure Wh where
 g : Nat
 l : List Bs
 good : Nat
 all : Nat
def qnj : Bs -> Option (Nat × Nat)
 | [] => none
 | c :: r => if c = 71 then
   let x := q0u 18446744073709551615 (r, false)
   let y := q0u 18446744073709551615 x.2
   if y.2.2 = false /\ y.2.1 = [] then some (x.1, y.1) else none
  else none
def U0 (b : Bs) : Option Wh := match (qmv b).1 with
 | [] => none
 | h :: l => match qnj h with
  | none => none
  | some (g, n) => if n <= l.length then some ⟨g, l, (qmv b).2.1, b.length⟩ else none
def V5 (g n : Nat) : Bs := 71 :: (enc g ++ enc n)
theorem qmw {g n : Nat} (hg : g < 18446744073709551616) (hn : n < 18446744073709551616) : qnj (V5 g n) = some (g, n) := by
 unfold V5 qnj
 have e1 := qbx (k := 18446744073709551615) (n := g) (by omega) hg (enc n)
 have e2 := qbx (k := 18446744073709551615) (n := n) (by omega) hn []
 rw [List.append_nil] at e2
 simp only [if_true, e1, e2, and_self]
theorem q6p {g n : Nat} (hg : g < 18446744073709551616) (hn : n < 18446744073709551616) : okF (V5 g n) /\ (V5 g n).length <= 21 := by
 have h1 := q5o hg
 have h2 := q5o hn
 unfold okF V5
 simp only [List.length_cons, List.length_append]
 omega
theorem qdk {rs : List Bs} {g n : Nat} (hg : g < 18446744073709551616) (hn : n <= rs.length) (hn2 : rs.length < 18446744073709551616) (h : ∀ r ∈ rs, okF r) {rest w : Bs} {e : Int} (h2 : nxE rest = some (w, e)) :
  U0 (q1i (V5 g n :: rs) ++ rest) = some ⟨g, rs, (q1i (V5 g n :: rs)).length, (q1i (V5 g n :: rs) ++ rest).length⟩ := by
 have := qdj (rs := V5 g n :: rs) (fun r hr => by
  rcases List.mem_cons.1 hr with rfl | hr
  ·exact (q6p hg (by omega)).1
  ·exact h r hr) h2
 unfold U0
 rw [this]
 simp only [qmw hg (show n < 18446744073709551616 by omega), if_pos hn]
theorem qft {rest w : Bs} {e : Int} (h2 : nxE rest = some (w, e)) : U0 rest = none := by
 have := qdj (rs := []) (fun _ h => by cases h) h2
 simp only [q1i, List.flatMap_nil, List.nil_append] at this
 unfold U0
 rw [this]
theorem qb7 : U0 [] = none := qft qcb
theorem q8v {b : Bs} {w : Wh} (h : U0 b = some w) : w.all = b.length /\ w.good <= b.length /\ 0 < w.good /\ U0 (b.take w.good) = some ⟨w.g, w.l, w.good, w.good⟩ := by
 obtain ⟨rs, rest, x, e, h1, h2, h3, h4⟩ := qkr b
 unfold U0 at h
 rw [h4] at h
 rcases rs with _ | ⟨r, rs⟩
 ·cases h
 simp only at h
 rcases hh : qnj r with _ | ⟨g, n⟩
 ·rw [hh] at h; cases h
 rw [hh] at h
 simp only at h
 by_cases hn : n <= rs.length
 ·rw [if_pos hn] at h
  injection h with h
  subst h
  have hlen : (q1i (r :: rs)).length <= b.length := by rw [h1, List.length_append]; omega
  have ht : b.take (q1i (r :: rs)).length = q1i (r :: rs) := by rw [h1, List.take_left]
  refine ⟨rfl, hlen, (by show 0 < (q1i (r :: rs)).length; rw [U9, List.length_append, G9]; omega), ?_⟩
  simp only
  rw [ht]
  unfold U0
  rw [qip h2]
  simp only [hh, if_pos hn]
 ·rw [if_neg hn] at h; cases h
end Go.Aw
