import Derived.Test.YtnkagdjmjakeiaaGreatDoorV22O16A
namespace Go.Aw
open Go
open Go.Proofs.Tryz (prog)
set_option linter.all false
set_option maxHeartbeats 4000000
theorem qw7 {T : Tab} {id : Nat} {s : RS} (h : T id = ql3 s) : ACalls prog q13 [.ptr id 0] T (fun v T' => v = .b (!s.2 && decide (s.1 = [])) /\ T' = T) := by
 refine K3 O1 qcm (by simp) ?_
 have hr : T id = .row 2 [bts s.1 none, .b s.2] := h
 have d : decide ((s.1.length : Int) = 0) = decide (s.1 = []) := decide_eq_decide.2 (by rw [<- List.length_eq_zero_iff]; omega)
 unfold q5z
 simp -implicitDefEqProofs -dsimp only [go_sem, seval, ↓J0 _ _ q46]
 refine can (z0g h) ?_
 rcases hb : s.2 with _ | _
 ·simp -implicitDefEqProofs -dsimp only [go_sem, seval, hb, hr, bts, d]
  exact J9 rfl
 ·simp -implicitDefEqProofs -dsimp only [go_sem, seval, hb]
  exact J9 rfl
end Go.Aw
namespace Go.Aw
open Go
open Go.Proofs.Tryz (prog)
set_option linter.all false
set_option maxHeartbeats 4000000
def q7z : Nat -> List UInt8 -> Nat
 | 0, _ => 0
 | _ + 1, [] => 0
 | f + 1, c :: cs => if c.toNat < 128 then 0 else q7z f cs + 1
def ql6 : List UInt8 -> Nat
 | [] => 0
 | c :: cs => ql6 cs * 128 + c.toNat % 128
theorem qtg : ∀ n : Nat, ql6 (enc n) = n := by
 intro n
 induction n using Nat.strongRecOn with
 | ind n ih =>
  by_cases h : n < 128
  ·rw [q1d h]
   have e : (UInt8.ofNat n).toNat = n := by rw [UInt8.toNat_ofNat_of_lt' (by show n < 256; omega)]
   simp only [ql6, e]; omega
  ·rw [qbn h]
   have e : (UInt8.ofNat (n % 128 + 128)).toNat = n % 128 + 128 := by rw [UInt8.toNat_ofNat_of_lt' (by show n % 128 + 128 < 256; omega)]
   simp only [ql6, e, ih (n / 128) (by omega)]; omega
theorem ql7 : ∀ (f n : Nat) (rest : List UInt8), (enc n).length <= f -> q7z f (enc n ++ rest) + 1 = (enc n).length
 | 0, n, _, h => by have := List.length_pos_iff.2 (qqu n); omega
 | f + 1, n, rest, h => by
  by_cases hs : n < 128
  ·have e : (UInt8.ofNat n).toNat = n := by rw [UInt8.toNat_ofNat_of_lt' (by show n < 256; omega)]
   rw [q1d hs]
   simp only [List.cons_append, List.nil_append, q7z, e, if_pos hs, List.length_cons, List.length_nil]
  ·have e : (UInt8.ofNat (n % 128 + 128)).toNat = n % 128 + 128 := by rw [UInt8.toNat_ofNat_of_lt' (by show n % 128 + 128 < 256; omega)]
   rw [qbn hs] at h ⊢
   simp only [List.length_cons] at h
   have ih := ql7 f (n / 128) rest (by omega)
   simp only [List.cons_append, q7z, e, if_neg (show ¬ n % 128 + 128 < 128 by omega), List.length_cons]
   omega
theorem qjv : ∀ (f : Nat) (c : List UInt8), q7z f c <= f /\ q7z f c <= c.length
 | 0, _ => by simp [q7z]
 | _ + 1, [] => by simp [q7z]
 | f + 1, c :: cs => by
  have := qjv f cs
  unfold q7z
  split
  ·simp
  ·simp only [List.length_cons]; omega
def z2t (c : List UInt8) : Nat × Nat :=
 let j := q7z 12 c
 if c.length <= j \/ 9 < j then (0, 0) else
 let n := ql6 (c.take (j + 1)) % 18446744073709551616
 if enc n = c.take (j + 1) then (n, j + 1) else (0, 0)
theorem qw8 (c : List UInt8) : z2t c = qb8 c := by
 have hle := qjv 12 c
 unfold z2t qb8
 simp only
 cases hd : dec 0 0 c with
 | some r =>
  obtain ⟨n, z⟩ := r
  obtain ⟨h1, h2, h3, h4⟩ := qfz hd
  have h10 := qdc h4
  have hs : q7z 12 c + 1 = z := by rw [h3, h1]; exact ql7 12 n _ (by omega)
  have ht : c.take z = enc n := by
   conv => lhs; rw [h3]
   rw [h1, List.take_left]
  rw [if_neg (by omega), hs, ht, qtg, Nat.mod_eq_of_lt h4, if_pos rfl]
 | none =>
  simp only
  split
  ·rfl
  ·split
   ·rename_i hn he
    have hlt : ql6 (c.take (q7z 12 c + 1)) % 18446744073709551616 < 18446744073709551616 := Nat.mod_lt _ (by decide)
    have := qvl hlt (c.drop (q7z 12 c + 1))
    rw [he, List.take_append_drop, hd] at this
    cases this
   ·rfl
theorem qw9 {R : U6} (hR : ExtR R) {T : Tab} {b : List UInt8} {cap : Option Nat} {a : Nat} (hl : b.length <= 1000000000) (ha : a <= b.length) : ∀ (f i : Nat), i + f = 12 -> a + i <= b.length ->
  R (.exit 0) [(0, bts b cap), (1, .i .i64 a), (6, .i .i64 (a + i + q7z f (b.drop (a + i)) : Nat)), (26, .b false)] [] T ->
  AW prog q04 R [(0, bts b cap), (1, .i .i64 a), (6, .i .i64 (a + i : Nat))] [] T := by
 intro f
 induction f with
 | zero =>
  intro i hi hle h2
  simp only [q7z, Nat.add_zero] at h2
  have w12 : IntKind.i64.wrap ((a : Int) + 12) = ((a + 12 : Nat) : Int) := (V8 (by unfold I64; omega)).trans (by omega)
  have d12 : decide (((a + i : Nat) : Int) < ((a + 12 : Nat) : Int)) = false := decide_eq_false (by omega)
  refine O4 (l := q04) rfl hR ?_
  unfold q1a
  by_cases hlt : a + i < b.length
  ·have d1 : decide (((a + i : Nat) : Int) < b.length) = true := decide_eq_true (by omega)
   have d1' : ((a + i : Nat) : Int) < b.length := by omega
   obtain ⟨y, hy⟩ : ∃ y, b[a + i]? = some y := ⟨_, List.getElem?_eq_getElem hlt⟩
   have hat : ((N3 b).drop (a + i))[0]? = some (.i .u8 y.toNat) := by simp [N3, hy]
   rcases h128 : decide ((128 : Int) <= y.toNat) with _ | _
   ·simp -implicitDefEqProofs -dsimp only [go_sem, seval, bts, d1, d1', Int.natCast_nonneg, Int.toNat_natCast, Nat.mul_one, hat, h128, decide_true, decide_false]
    exact h2
   ·simp -implicitDefEqProofs -dsimp only [go_sem, seval, bts, d1, d1', Int.natCast_nonneg, Int.toNat_natCast, Nat.mul_one, hat, h128, w12, d12, decide_true, decide_false]
    exact h2
  ·have d1 : decide (((a + i : Nat) : Int) < b.length) = false := decide_eq_false (by omega)
   simp -implicitDefEqProofs -dsimp only [go_sem, seval, bts, d1, decide_true, decide_false]
   exact h2
 | succ f ih =>
  intro i hi hle h2
  have w12 : IntKind.i64.wrap ((a : Int) + 12) = ((a + 12 : Nat) : Int) := (V8 (by unfold I64; omega)).trans (by omega)
  have d12 : decide (((a + i : Nat) : Int) < ((a + 12 : Nat) : Int)) = true := decide_eq_true (by omega)
  have hws : IntKind.i64.wrap (((a + i : Nat) : Int) + 1) = ((a + (i + 1) : Nat) : Int) := (V8 (by unfold I64; omega)).trans (by omega)
  refine O4 (l := q04) rfl hR ?_
  unfold q1a
  by_cases hlt : a + i < b.length
  ·have d1 : decide (((a + i : Nat) : Int) < b.length) = true := decide_eq_true (by omega)
   have d1' : ((a + i : Nat) : Int) < b.length := by omega
   obtain ⟨y, hy⟩ : ∃ y, b[a + i]? = some y := ⟨_, List.getElem?_eq_getElem hlt⟩
   have hat : ((N3 b).drop (a + i))[0]? = some (.i .u8 y.toNat) := by simp [N3, hy]
   have hdr : b.drop (a + i) = y :: b.drop (a + (i + 1)) := by
    rw [List.drop_eq_getElem_cons hlt]; congr 1; exact (List.getElem?_eq_some_iff.1 hy).2
   rw [hdr] at h2
   unfold q7z at h2
   by_cases hy128 : y.toNat < 128
   ·have h128 : decide ((128 : Int) <= y.toNat) = false := decide_eq_false (by omega)
    rw [if_pos hy128] at h2
    simp -implicitDefEqProofs -dsimp only [go_sem, seval, bts, d1, d1', Int.natCast_nonneg, Int.toNat_natCast, Nat.mul_one, hat, h128, decide_true, decide_false]
    exact h2
   ·have h128 : decide ((128 : Int) <= y.toNat) = true := decide_eq_true (by omega)
    rw [if_neg hy128] at h2
    simp -implicitDefEqProofs -dsimp only [go_sem, seval, bts, d1, d1', Int.natCast_nonneg, Int.toNat_natCast, Nat.mul_one, hat, h128, w12, d12, decide_true, decide_false, hws]
    refine ih (i + 1) (by omega) (by omega) ?_
    rw [show a + (i + 1) + q7z f (b.drop (a + (i + 1))) = a + i + (q7z f (b.drop (a + (i + 1))) + 1) by omega]
    exact h2
  ·have d1 : decide (((a + i : Nat) : Int) < b.length) = false := decide_eq_false (by omega)
   have hdr : b.drop (a + i) = [] := List.drop_of_length_le (by omega)
   rw [hdr] at h2
   simp only [q7z, Nat.add_zero] at h2
   simp -implicitDefEqProofs -dsimp only [go_sem, seval, bts, d1, decide_true, decide_false]
   exact h2
theorem qwa {R : U6} (hR : ExtR R) {T : Tab} {b : List UInt8} {cap : Option Nat} {a : Nat} {k : AV} (hk : k.plain = true) (hl : b.length <= 1000000000) : ∀ (i : Nat), a + i <= b.length -> ∀ (n : Nat), n < 18446744073709551616 ->
  (∀ j : Int, R (.exit 2) [(0, bts b cap), (1, .i .i64 a), (6, k), (7, .i .u64 ((n * 128 ^ i + ql6 ((b.drop a).take i)) % 18446744073709551616 : Nat)), (8, .i .i64 j), (42, .b false)] [] T) ->
  AW prog Y4 R [(0, bts b cap), (1, .i .i64 a), (6, k), (7, .i .u64 n), (8, .i .i64 ((a : Int) + i - 1))] [] T := by
 intro i
 induction i with
 | zero =>
  intro ha n hn h2
  have d : decide ((a : Int) <= (a : Int) + ((0 : Nat) : Int) - 1) = false := decide_eq_false (by omega)
  refine O4 (l := Y4) rfl hR ?_
  unfold q1b
  have d' : decide ((a : Int) <= (a : Int) + 0 - 1) = false := decide_eq_false (by omega)
  simp -implicitDefEqProofs -dsimp only [go_sem, seval, d, d', hk]
  simp only [List.take_zero, ql6, Nat.pow_zero, Nat.mul_one, Nat.add_zero, Nat.mod_eq_of_lt hn] at h2
  exact h2 _
 | succ i ih =>
  intro ha n hn h2
  have e0 : (a : Int) + ((i + 1 : Nat) : Int) - 1 = ((a + i : Nat) : Int) := by omega
  rw [e0]
  have d : decide ((a : Int) <= ((a + i : Nat) : Int)) = true := decide_eq_true (by omega)
  have d1' : ((a + i : Nat) : Int) < b.length := by omega
  obtain ⟨y, hy⟩ : ∃ y, b[a + i]? = some y := ⟨_, List.getElem?_eq_getElem (by omega)⟩
  have hat : ((N3 b).drop (a + i))[0]? = some (.i .u8 y.toNat) := by simp [N3, hy]
  have hyb := y.toNat_lt
  have t1 : ((y.toNat : Int)).tmod 128 = ((y.toNat % 128 : Nat) : Int) := by rw [Int.tmod_eq_emod_of_nonneg (by omega)]; omega
  have t2 : IntKind.u64.wrap ((y.toNat % 128 : Nat) : Int) = ((y.toNat % 128 : Nat) : Int) := q66 (by omega)
  have wm : ∀ m : Nat, IntKind.u64.wrap (m : Int) = ((m % 18446744073709551616 : Nat) : Int) := fun m => by
   simp only [IntKind.wrap, IntKind.signed, IntKind.bits]
   simp
  have t3 : IntKind.u64.wrap ((n : Int) * 128) = ((n * 128 % 18446744073709551616 : Nat) : Int) := by rw [show (n : Int) * 128 = ((n * 128 : Nat) : Int) by omega, wm]
  have t4 : IntKind.u64.wrap (((n * 128 % 18446744073709551616 : Nat) : Int) + ((y.toNat % 128 : Nat) : Int)) = (((n * 128 + y.toNat % 128) % 18446744073709551616 : Nat) : Int) := by
   rw [show ((n * 128 % 18446744073709551616 : Nat) : Int) + ((y.toNat % 128 : Nat) : Int) = ((n * 128 % 18446744073709551616 + y.toNat % 128 : Nat) : Int) by omega, wm, Nat.mod_add_mod]
  have t5 : IntKind.i64.wrap (((a + i : Nat) : Int) - 1) = (a : Int) + i - 1 := (V8 (by unfold I64; omega)).trans (by omega)
  have z1 : ((128 : Int) = 0) = False := by simp
  refine O4 (l := Y4) rfl hR ?_
  unfold q1b
  simp -implicitDefEqProofs -dsimp only [go_sem, seval, d, hk, bts, d1', Int.natCast_nonneg, Int.toNat_natCast, Nat.mul_one, hat, t1, t2, t3, t4, t5, z1]
  refine ih (by omega) _ (Nat.mod_lt _ (by decide)) (fun j => ?_)
  have h3 := h2 j
  have ht : (b.drop a).take (i + 1) = (b.drop a).take i ++ [y] := by
   rw [q6l (y := y)]
   rw [List.getElem?_drop]; exact hy
  have hv : ∀ l : List UInt8, ql6 (l ++ [y]) = y.toNat % 128 * 128 ^ l.length + ql6 l := by
   intro l
   induction l with
   | nil => simp [ql6]
   | cons c l ih => simp only [List.cons_append, ql6, ih, List.length_cons, Nat.pow_succ, Nat.add_mul]; rw [Nat.mul_assoc]; omega
  have hlen : ((b.drop a).take i).length = i := by rw [List.length_take, List.length_drop]; omega
  rw [ht, hv, hlen] at h3
  have e : (n * 128 ^ (i + 1) + (y.toNat % 128 * 128 ^ i + ql6 ((b.drop a).take i))) % 18446744073709551616 = ((n * 128 + y.toNat % 128) % 18446744073709551616 * 128 ^ i + ql6 ((b.drop a).take i)) % 18446744073709551616 := by
   rw [Nat.add_mod ((n * 128 + y.toNat % 128) % 18446744073709551616 * 128 ^ i), Nat.mul_mod, Nat.mod_mod, <- Nat.mul_mod, <- Nat.add_mod]
   congr 1
   rw [Nat.add_mul, Nat.pow_succ, Nat.mul_assoc, Nat.mul_comm 128]; omega
  rw [e] at h3
  exact h3
end Go.Aw
