import Derived.Test.YtnkagdjmjakeiaaGreatDoorV22G21A
namespace Go.Aw
open Go
open Go.Proofs.Tryz (prog)
set_option linter.all false
set_option maxHeartbeats 4000000
theorem qth {R : U6} (hR : ExtR R) {T : Tab} {b : List UInt8} {cap : Option Nat} {a : Nat} {k : AV} {x n0 : Int} (hk : k.plain = true) (hl : b.length <= 1000000000) (i : Nat) (hi : a + i <= b.length) (hx : x = (a : Int) + i - 1) (hn : n0 = 0)
  (h2 : ∀ j : Int, R (.exit 2) [(0, bts b cap), (1, .i .i64 a), (6, k), (7, .i .u64 (ql6 ((b.drop a).take i) % 18446744073709551616 : Nat)), (8, .i .i64 j), (42, .b false)] [] T) :
  AW prog Y4 R [(0, bts b cap), (1, .i .i64 a), (6, k), (7, .i .u64 n0), (8, .i .i64 x)] [] T := by
 subst hx; subst hn
 refine qwa hR hk hl i hi 0 (by decide) (fun j => ?_)
 rw [Nat.zero_mul, Nat.zero_add]
 exact h2 j
theorem qot (b : List UInt8) (cap : Option Nat) (a : Nat) (hl : b.length <= 1000000000) (ha : a <= b.length) : Q4 prog q09 [bts b cap, .i .i64 a] (.tup [.i .u64 (qb8 (b.drop a)).1, .i .i64 (qb8 (b.drop a)).2]) := by
 rw [<- qw8]
 refine K8 O1 qa4 (by simp) fun T => ?_
 obtain ⟨c, hc⟩ : ∃ c, c = b.drop a := ⟨_, rfl⟩
 have hcl : c.length = b.length - a := by rw [hc, List.length_drop]
 have hst := qjv 12 c
 rw [<- hc]
 unfold q4u
 simp -implicitDefEqProofs -dsimp only [go_sem, seval]
 refine qw9 (T := T) (b := b) (cap := cap) (a := a) (by repeat' (first | exact N8 _ _ | assumption | apply N7 | apply N0 | apply V0)) hl ha 12 0 rfl (by omega) ?_
 rw [Nat.add_zero, <- hc]
 unfold z2t
 simp only
 generalize q7z 12 c = j at hst ⊢
 by_cases h1 : c.length <= j
 ·have d1 : decide ((b.length : Int) <= ((a + j : Nat) : Int)) = true := decide_eq_true (by omega)
  rw [if_pos (.inl h1)]
  simp -implicitDefEqProofs -dsimp only [go_sem, seval, bts, d1, decide_true, decide_false]
  exact J9 rfl
 have d1 : decide ((b.length : Int) <= ((a + j : Nat) : Int)) = false := decide_eq_false (by omega)
 have w1 : IntKind.i64.wrap (((a + j : Nat) : Int) - a) = (j : Int) := (V8 (by unfold I64; omega)).trans (by omega)
 by_cases h9 : 9 < j
 ·have d2 : decide ((9 : Int) < j) = true := decide_eq_true (by omega)
  rw [if_pos (.inr h9)]
  simp -implicitDefEqProofs -dsimp only [go_sem, seval, bts, d1, w1, d2, decide_true, decide_false]
  exact J9 rfl
 have d2 : decide ((9 : Int) < j) = false := decide_eq_false (by omega)
 rw [if_neg (by omega)]
 simp -implicitDefEqProofs -dsimp only [go_sem, seval, bts, d1, w1, d2, decide_true, decide_false]
 refine qth (T := T) (b := b) (cap := cap) (a := a) (by repeat' (first | exact N8 _ _ | assumption | apply N7 | apply N0 | apply V0)) rfl hl (j + 1) (by omega) (by omega) rfl (fun j' => ?_)
 rw [<- hc]
 obtain ⟨A, hA⟩ : ∃ A, A = (b.drop a).take (a + j + 1 - a) := ⟨_, rfl⟩
 have hA2 : A = c.take (j + 1) := by rw [hA, <- hc, show a + j + 1 - a = j + 1 by omega]
 rw [<- hA2]
 have eA : A.length = a + j + 1 - a := by rw [hA, List.length_take, List.length_drop]; omega
 have hn : ql6 A % 18446744073709551616 < 18446744073709551616 := Nat.mod_lt _ (by decide)
 generalize ql6 A % 18446744073709551616 = n at hn ⊢
 have w2 : IntKind.i64.wrap (((a + j : Nat) : Int) + 1) = ((a + j + 1 : Nat) : Int) := (V8 (by unfold I64; omega)).trans (by omega)
 have w3 : IntKind.i64.wrap (((a + j + 1 : Nat) : Int) - a) = ((j + 1 : Nat) : Int) := (V8 (by unfold I64; omega)).trans (by omega)
 have s1 : (a : Int) <= ((a + j + 1 : Nat) : Int) /\ ((a + j + 1 : Nat) : Int) <= b.length := by omega
 have s2 : a <= a + j + 1 /\ a + j + 1 <= b.length := by omega
 have cP := qw4 n hn
 simp -implicitDefEqProofs -dsimp only [go_sem, seval, bts, w2, s1, s2, Int.ofNat_le, Int.natCast_nonneg, Int.toNat_natCast, Nat.mul_one, q7d, q7e, G3, <- hA, eA, q4a, Nat.zero_le, ↓J0 _ _ q6z]
 refine CallK.pure cP (qy2 (fun _ => ?_) ?_)
 ·simp -implicitDefEqProofs -dsimp only [go_sem, seval, I5, q9b, gdd, bts, w2, s1, s2, Int.ofNat_le, Int.natCast_nonneg, Int.toNat_natCast, Nat.mul_one, q7d, q7e, G3, <- hA, eA, q4a, Nat.zero_le]
 simp -implicitDefEqProofs -dsimp only [go_sem, seval, bts, G3, q4a]
 by_cases he : enc n = A
 ·rw [if_pos he]
  simp -implicitDefEqProofs -dsimp only [go_sem, seval, he, decide_true, Bool.not_true, w2, w3]
  exact J9 rfl
 ·have d : decide (enc n = A) = false := decide_eq_false he
  rw [if_neg he]
  simp -implicitDefEqProofs -dsimp only [go_sem, seval, d, Bool.not_false]
  exact J9 rfl
def qwb (b : List UInt8) (cap : Option Nat) (s : RS) : Slot := .row 3 [bts b cap, .i .i64 (b.length - s.1.length : Nat), .b s.2]
def Suf (b : List UInt8) (s : RS) : Prop := s.1.length <= b.length /\ b.drop (b.length - s.1.length) = s.1
def nT (T : Tab) (id : Nat) (b : List UInt8) (cap : Option Nat) (s : RS) : Tab := T.put id (qwb b cap s)
theorem qou {T : Tab} {id : Nat} {b : List UInt8} {cap : Option Nat} {s : RS} : nT T id b cap s id = qwb b cap s := Tab.put_same ..
theorem Suf.whole (b : List UInt8) (x : Bool) : Suf b (b, x) := ⟨Nat.le_refl _, by simp⟩
theorem Suf.most {b : List UInt8} {s : RS} (h : Suf b s) (k : Nat) : Suf b (q0g k s).2 := by
 obtain ⟨h1, h2⟩ := h
 unfold q0g
 split
 ·exact ⟨h1, h2⟩
 ·split
  ·split
   ·rename_i n z hd hle
    obtain ⟨_, q, _⟩ := qfz hd
    refine ⟨by simp only [List.length_drop]; omega, ?_⟩
    simp only [List.length_drop]
    rw [<- h2, List.drop_drop]
    congr 1
    rw [h2]
    omega
   ·exact ⟨h1, h2⟩
  ·exact ⟨h1, h2⟩
theorem qnt {T : Tab} {id : Nat} {b : List UInt8} {cap : Option Nat} {s : RS} (h : T id = qwb b cap s) (hs : Suf b s) (k : Nat) (hl : b.length <= 1000000000) : ACalls prog U4 [.ptr id 0, .i .u64 k] T (fun v T' => v = .i .u64 (q0g k s).1 /\ T' = nT T id b cap (q0g k s).2) := by
 refine K3 O1 q6j (by simp) ?_
 have hr : T id = .row 3 [bts b cap, .i .i64 (b.length - s.1.length : Nat), .b s.2] := h
 have cN := qot b cap (b.length - s.1.length) hl (by omega)
 rw [hs.2] at cN
 have hself : nT T id b cap s = T := Tab.put_self h
 unfold q2j
 simp -implicitDefEqProofs -dsimp only [go_sem, seval, hr, ↓J0 _ _ qa5]
 refine cpn cN ?_
 rcases hb : s.2 with _ | _
 ·rw [qns hb]
  have hle := qrc s.1
  have hr' := hr
  rw [hb] at hr'
  by_cases hz : (qb8 s.1).2 = 0
  ·have d : decide (((qb8 s.1).2 : Int) = 0) = true := decide_eq_true (by omega)
   rw [if_pos (.inl hz)]
   simp -implicitDefEqProofs -dsimp only [go_sem, seval, hr', d, decide_true, decide_false]
   refine V6 hr' rfl rfl (by simp) (J3 ?_)
   simp -implicitDefEqProofs -dsimp only [go_sem, seval]
   exact J9 rfl
  ·have d : decide (((qb8 s.1).2 : Int) = 0) = false := decide_eq_false (by omega)
   by_cases hk : k < (qb8 s.1).1
   ·have d2 : decide ((k : Int) < (qb8 s.1).1) = true := decide_eq_true (by omega)
    rw [if_pos (.inr hk)]
    simp -implicitDefEqProofs -dsimp only [go_sem, seval, hr', d, d2, decide_true, decide_false]
    refine V6 hr' rfl rfl (by simp) (J3 ?_)
    simp -implicitDefEqProofs -dsimp only [go_sem, seval]
    exact J9 rfl
   ·have d2 : decide ((k : Int) < (qb8 s.1).1) = false := decide_eq_false (by omega)
    have hs1 := hs.1
    have wa : IntKind.i64.wrap (((b.length - s.1.length : Nat) : Int) + (qb8 s.1).2) = ((b.length - (s.1.drop (qb8 s.1).2).length : Nat) : Int) := by
     rw [List.length_drop]; exact (V8 (by unfold I64; omega)).trans (by omega)
    rw [if_neg (by omega)]
    simp -implicitDefEqProofs -dsimp only [go_sem, seval, hr', d, d2, decide_true, decide_false, wa]
    refine V6 hr' rfl rfl (by simp) (J3 ?_)
    simp -implicitDefEqProofs -dsimp only [go_sem, seval]
    exact J9 rfl
 ·rw [qkr hb]
  have hr' := hr
  rw [hb] at hr'
  simp -implicitDefEqProofs -dsimp only [go_sem, seval, hr', decide_true, decide_false]
  refine V6 hr' rfl rfl (by simp) (J3 ?_)
  simp -implicitDefEqProofs -dsimp only [go_sem, seval]
  refine O6 (.refl _) ?_
  rw [hself]
  exact Tab.put_self hr'
theorem qms {T : Tab} {id : Nat} {b : List UInt8} {cap : Option Nat} {s : RS} (h : T id = qwb b cap s) (hs : Suf b s) (k : Nat) (hk : k < 9223372036854775808) (hl : b.length <= 1000000000) : ACalls prog Q2 [.ptr id 0, .i .i64 k] T (fun v T' => v = .i .i64 (q0g k s).1 /\ T' = nT T id b cap (q0g k s).2) := by
 refine K3 O1 q77 (by simp) ?_
 have d : decide ((k : Int) < 0) = false := decide_eq_false (by omega)
 have w : IntKind.u64.wrap (k : Int) = k := q66 (by omega)
 have hle := qj6 k s
 have w2 : IntKind.i64.wrap ((q0g k s).1 : Int) = (q0g k s).1 := V8 (by unfold I64; omega)
 unfold q2z
 simp -implicitDefEqProofs -dsimp only [go_sem, seval, d, w, ↓J0 _ _ q2k]
 refine can (qnt h hs k hl) ?_
 simp -implicitDefEqProofs -dsimp only [go_sem, seval, w2]
 exact O6 (.refl _) rfl
theorem z2u {T : Tab} {id : Nat} {b : List UInt8} {cap : Option Nat} {s : RS} (h : T id = qwb b cap s) (hs : Suf b s) (hl : b.length <= 1000000000) : ACalls prog I1 [.ptr id 0] T (fun v T' => v = .i .u64 (q0g 18446744073709551615 s).1 /\ T' = nT T id b cap (q0g 18446744073709551615 s).2) := by
 refine K3 O1 q8k (by simp) ?_
 unfold q43
 simp -implicitDefEqProofs -dsimp only [go_sem, seval, ↓J0 _ _ q2k]
 refine can (qnt h hs 18446744073709551615 hl) ?_
 simp -implicitDefEqProofs -dsimp only [go_sem, seval]
 exact O6 (.refl _) rfl
theorem qti {T : Tab} {id : Nat} {b : List UInt8} {cap : Option Nat} {s : RS} (h : T id = qwb b cap s) (hs : Suf b s) (hl : b.length <= 1000000000) : ACalls prog Y0 [.ptr id 0] T (fun v T' => v = .i .i64 (if s.2 = true then 0 else s.1.length : Nat) /\ T' = T) := by
 refine K3 O1 q6h (by simp) ?_
 have hr : T id = .row 3 [bts b cap, .i .i64 (b.length - s.1.length : Nat), .b s.2] := h
 have hs1 := hs.1
 unfold q2h
 rcases hb : s.2 with _ | _
 ·have w : IntKind.i64.wrap ((b.length : Int) - ((b.length - s.1.length : Nat) : Int)) = (s.1.length : Int) := (V8 (by unfold I64; omega)).trans (by omega)
  simp -implicitDefEqProofs -dsimp only [go_sem, seval, hr, hb, w]
  exact O6 (.refl _) rfl
 ·simp -implicitDefEqProofs -dsimp only [go_sem, seval, hr, hb]
  exact O6 (.refl _) rfl
end Go.Aw
