import Derived.Test.YtpbnmegmhhkloaaDoorW6D
import Derived.Test.YtpbnmegmhhkloaaDoorW06E12I
import Derived.Test.YtpbnmegmhhkloaaDoorW06F04Z
import Derived.Test.YtpbnmegmhhkloaaDoorAwMore5
namespace Go.Aw
open Go
open Go.Proofs.Tryd (prog)
set_option linter.all false
set_option maxHeartbeats 8000000
set_option maxRecDepth 8000
def whC (w : Wh) : List AV := [.i .u64 w.g, .fz w.l.length (btL w.l) none, .i .i64 w.good, .i .i64 w.all]
def whZ : List AV := [.i .u64 0, .fz 0 [] (some 0), .i .i64 0, .i .i64 0]
theorem qki (c : UInt8) (r : Bs) : qoq (c :: r) = if c = 71 then (if (q1a 18446744073709551615 (q1a 18446744073709551615 (r, false)).2).2.2 = false /\ (q1a 18446744073709551615 (q1a 18446744073709551615 (r, false)).2).2.1 = [] then some ((q1a 18446744073709551615 (r, false)).1, (q1a 18446744073709551615 (q1a 18446744073709551615 (r, false)).2).1) else none) else none := rfl
theorem qoy : ∀ (f a : Nat) (c : Bs), c.length < f -> ∀ r ∈ (recs f a c).1, 1 <= r.length /\ r.length <= c.length := fun f a c h => by
 obtain ⟨rs, rest, w, e, h1, h2, h3, h4⟩ := q8r f a c h
 rw [h4]
 intro r hr
 refine ⟨(h2 r hr).1, ?_⟩
 have : ∀ (rs : List Bs), r ∈ rs -> r.length <= (G1 rs).length := fun rs => by
  induction rs with
  | nil => intro h; cases h
  | cons q rs ih =>
   intro h
   rw [N8, List.length_append, U5]
   rcases List.mem_cons.1 h with rfl | h
   ·omega
   ·have := ih h; omega
 have := this rs hr
 rw [h1, List.length_append]; omega
theorem qfw : ∀ (f a : Nat) (c : Bs), c.length < f -> (recs f a c).1.length <= c.length := fun f a c h => by
 obtain ⟨rs, rest, w, e, h1, h2, h3, h4⟩ := q8r f a c h
 rw [h4]
 have : ∀ (rs : List Bs), rs.length <= (G1 rs).length := fun rs => by
  induction rs with
  | nil => exact Nat.zero_le _
  | cons q rs ih => rw [N8, List.length_append, U5, List.length_cons]; omega
 have := this rs
 rw [h1, List.length_append]; simp only; omega
theorem qez {T T1 : Tab} {r r' : AV} {Q : AV -> Tab -> Prop} (hle : TabLe T T1) (hw : Wk r r') (hQ : Q r' T) : qdq r Q T1 := ⟨[], T, r', List.nodup_nil, by simp, hle, by rw [q4r]; exact hw, hQ⟩
def qpc (rs : List Bs) (at' all : Nat) : Option Wh := match rs with
 | [] => none
 | h :: l => match qoq h with
  | none => none
  | some (g, n) => if n <= l.length then some ⟨g, l, at', all⟩ else none
theorem qkj (b : Bs) : Q0 b = qpc (recs (b.length + 1) 0 b).1 (recs (b.length + 1) 0 b).2.1 b.length := rfl
theorem qoz (b : Bs) (cap : Option Nat) (hl : b.length <= 100000000) : ∃ x e, PCalls prog q4s [bts b cap] (match Q0 b with
  | some w => .tup [.agg (whC w), .nilifc]
  | none => .tup [.agg whZ, q2w x (qes e)]) := by
 have fN : ∀ (w : List UInt8) (e : Int), e ≠ 0 -> PCalls prog O2 [.s w, .i .i64 e] (q2w w (qes e)) := fun w e h => by
  have := qjv w e
  rwa [if_neg h] at this
 have cA := qsp b cap (by omega)
 have hrl := qoy (b.length + 1) 0 b (Nat.lt_succ_self _)
 have hrf := qkj b
 rcases hr : recs (b.length + 1) 0 b with ⟨rs, at', e⟩
 rw [hr] at cA hrl hrf
 simp only [qvp] at cA hrl
 rcases rs with _ | ⟨h, l⟩
 ·have hrd : Q0 b = none := hrf
  rw [hrd]
  refine ⟨[104, 101, 97, 100], 3, K7 O5 q7l (by simp) fun T => ?_⟩
  unfold q4v
  simp -implicitDefEqProofs -dsimp only [go_sem, seval, ↓J2 _ _ q5n]
  refine cpn cA ?_
  simp -implicitDefEqProofs -dsimp only [go_sem, seval, List.length_nil, decide_true, ↓q1m, q31, true_and, ↓J2 _ _ Y0]
  refine cpn (fN _ 3 (by decide)) ?_
  simp -implicitDefEqProofs -dsimp only [go_sem, seval, q2w, whZ]
  exact J8 rfl
 have hh := hrl h (List.mem_cons_self ..)
 obtain ⟨c, r, rfl⟩ : ∃ c r, h = c :: r := by
  rcases h with _ | ⟨c, r⟩
  ·simp at hh
  ·exact ⟨c, r, rfl⟩
 have d0 : decide ((((c :: r) :: l).length : Int) = 0) = false := decide_eq_false (by simp only [List.length_cons]; omega)
 have dl : ((0 : Int) < (((c :: r) :: l).length : Int)) := by simp only [List.length_cons]; omega
 have g0 : (btL ((c :: r) :: l))[0]? = some (bts (c :: r) none) := rfl
 have dl2 : ((0 : Int) < ((c :: r).length : Int)) := by simp only [List.length_cons]; omega
 have g1 : (J1 (c :: r))[0]? = some (.i .u8 (c.toNat : Int)) := rfl
 have hlb : l.length <= b.length := by
  have := qfw (b.length + 1) 0 b (Nat.lt_succ_self _)
  rw [hr] at this
  simp only [List.length_cons] at this
  omega
 by_cases hc : c = 71
 case neg =>
  have hrd : Q0 b = none := by
   rw [hrf]
   simp only [qpc, qki, if_neg hc]
  have dc : decide ((c.toNat : Int) = 71) = false := decide_eq_false fun h => hc (UInt8.toNat_inj.1 (show c.toNat = 71 by omega))
  rw [hrd]
  refine ⟨[104, 101, 97, 100], 3, K7 O5 q7l (by simp) fun T => ?_⟩
  unfold q4v
  simp -implicitDefEqProofs -dsimp only [go_sem, seval, ↓J2 _ _ q5n]
  refine cpn cA ?_
  generalize hN' : ((c :: r) :: l).length = N at *
  generalize hB' : btL ((c :: r) :: l) = B at *
  generalize hLc : (c :: r).length = Lc at *
  generalize hBc : J1 (c :: r) = Bc at *
  simp -implicitDefEqProofs -dsimp only [go_sem, seval, d0, dl, g0, bts, hLc, hBc, dl2, g1, dc, Bool.not_false, Int.le_refl, Int.toNat_zero, Nat.zero_mul, List.drop_zero, ↓q1m, q31, true_and, ↓J2 _ _ Y0]
  refine cpn (fN _ 3 (by decide)) ?_
  simp -implicitDefEqProofs -dsimp only [go_sem, seval, q2w, whZ]
  exact J8 rfl
 subst hc
 have dc : decide (((71 : UInt8).toNat : Int) = 71) = true := decide_eq_true rfl
 have hrlen : r.length <= b.length := by have := hh.2; simp only [List.length_cons] at this; omega
 have hN : ∀ T, ACalls prog q1p [bts r none] T (fun v T' => ∃ id, v = .ptr id 0 /\ T id = .unused /\ T' = rT T id (r, false)) := fun T => qsr r none (by omega)
 have t1 : (1 <= (71 :: r).length /\ (71 :: r).length <= (71 :: r).length) = True := eq_true ⟨by simp only [List.length_cons]; omega, Nat.le_refl _⟩
 have e1 : (J1 (71 :: r)).drop 1 = J1 r := rfl
 have e2 : (71 :: r).length - 1 = r.length := by simp only [List.length_cons]; omega
 have e3 : (J1 r).take r.length = J1 r := List.take_of_length_le (by rw [U0]; exact Nat.le_refl _)
 have q1 : (1 <= ((71 :: r) :: l).length /\ ((71 :: r) :: l).length <= ((71 :: r) :: l).length) = True := eq_true ⟨by simp only [List.length_cons]; omega, Nat.le_refl _⟩
 have q2 : (btL ((71 :: r) :: l)).drop 1 = btL l := rfl
 have q3 : ((71 :: r) :: l).length - 1 = l.length := by simp only [List.length_cons]; omega
 have q4 : (btL l).take l.length = btL l := List.take_of_length_le (by rw [qjy]; exact Nat.le_refl _)
 have w1 : IntKind.i64.wrap ((((71 :: r) :: l).length : Int) - 1) = (l.length : Int) := by
  rw [K8 (by unfold I64; simp only [List.length_cons]; omega)]; simp only [List.length_cons]; omega
 have w2 : IntKind.u64.wrap (l.length : Int) = (l.length : Int) := IntWalk.u64_in _ (by omega)
 have hd := qki 71 r
 rw [if_pos rfl] at hd
 obtain ⟨x, hx⟩ : ∃ x, x = q1a 18446744073709551615 (r, false) := ⟨_, rfl⟩
 rw [<- hx] at hd
 obtain ⟨y, hy⟩ : ∃ y, y = q1a 18446744073709551615 x.2 := ⟨_, rfl⟩
 rw [<- hy] at hd
 have hxl : x.2.1.length <= r.length := by rw [hx]; exact qj2 _ (r, false)
 have hL : Len r.length := by unfold Len; omega
 refine ⟨(if y.2.2 = false /\ y.2.1 = [] then [114, 101, 99, 111, 114, 100, 115] else [104, 101, 97, 100]), (if y.2.2 = false /\ y.2.1 = [] then 4 else 3), K7 O5 q7l (by simp) fun T => ?_⟩
 unfold q4v
 simp -implicitDefEqProofs -dsimp only [go_sem, seval, ↓J2 _ _ q5n]
 refine cpn cA ?_
 generalize hN' : ((71 :: r) :: l).length = N at *
 generalize hB' : btL ((71 :: r) :: l) = B at *
 generalize hLc : (71 :: r).length = Lc at *
 generalize hBc : J1 (71 :: r) = Bc at *
 simp only [bts] at hN
 simp -implicitDefEqProofs -dsimp only [go_sem, seval, d0, dl, g0, bts, hLc, hBc, dl2, g1, dc, Bool.not_true, Int.le_refl, Int.toNat_zero, Nat.zero_mul, List.drop_zero, t1, e1, e2, e3, ↓q1m, q31, true_and, ↓J2 _ _ qem]
 refine CallK.of (hN T) (fun v T1 ⟨id, i1, hid, i2⟩ => J7 ?_)
 subst i1; subst i2
 simp -implicitDefEqProofs -dsimp only [go_sem, seval, ↓J2 _ _ q3n]
 refine can (qvq qk7 hL) ?_
 rw [<- hx]
 simp -implicitDefEqProofs -dsimp only [go_sem, seval, ↓J2 _ _ q3n]
 refine can (qvq qk7 (qs5 hxl hL)) ?_
 rw [<- hy]
 simp -implicitDefEqProofs -dsimp only [go_sem, seval, ↓J2 _ _ q5q]
 refine can (qox qk7) ?_
 have hT : TabLe T (rT (rT (rT T id (r, false)) id x.2) id y.2) := by
  simp only [rT, Tab.put_put]
  exact (TabLe.refl T).put hid
 generalize rT (rT (rT T id (r, false)) id x.2) id y.2 = T3 at *
 by_cases hdn : y.2.2 = false /\ y.2.1 = []
 ·have hb : (!y.2.2 && decide (y.2.1 = [])) = true := by rw [hdn.1, hdn.2]; rfl
  rw [if_pos hdn] at hd
  rw [if_pos hdn, if_pos hdn, hb]
  by_cases hn : y.1 <= l.length
  ·have dn : decide ((l.length : Int) < (y.1 : Int)) = false := decide_eq_false (by omega)
   have hrd : Q0 b = some ⟨x.1, l, at', b.length⟩ := by
    rw [hrf]
    simp only [qpc, hd, if_pos hn]
   rw [hrd]
   simp -implicitDefEqProofs -dsimp only [go_sem, seval, Bool.not_true, w1, w2, dn, d0, bts, q1, q2, q3, q4]
   refine qez hT (.refl _) ⟨rfl, rfl⟩
  ·have dn : decide ((l.length : Int) < (y.1 : Int)) = true := decide_eq_true (by omega)
   have hrd : Q0 b = none := by
    rw [hrf]
    simp only [qpc, hd, if_neg hn]
   rw [hrd]
   simp -implicitDefEqProofs -dsimp only [go_sem, seval, Bool.not_true, w1, w2, dn, ↓J2 _ _ Y0]
   refine cpn (fN _ 4 (by decide)) ?_
   simp -implicitDefEqProofs -dsimp only [go_sem, seval, q2w, whZ]
   refine qez hT (.refl _) ⟨rfl, rfl⟩
 ·have hb : (!y.2.2 && decide (y.2.1 = [])) = false := by
   rcases h1 : y.2.2 with _ | _
   ·rw [decide_eq_false (fun h2 => hdn ⟨h1, h2⟩)]; rfl
   ·rfl
  rw [if_neg hdn] at hd
  rw [if_neg hdn, if_neg hdn, hb]
  have hrd : Q0 b = none := by
   rw [hrf]
   simp only [qpc, hd]
  rw [hrd]
  simp -implicitDefEqProofs -dsimp only [go_sem, seval, Bool.not_false, ↓J2 _ _ Y0]
  refine cpn (fN _ 3 (by decide)) ?_
  simp -implicitDefEqProofs -dsimp only [go_sem, seval, q2w, whZ]
  refine qez hT (.refl _) ⟨rfl, rfl⟩
end Go.Aw
