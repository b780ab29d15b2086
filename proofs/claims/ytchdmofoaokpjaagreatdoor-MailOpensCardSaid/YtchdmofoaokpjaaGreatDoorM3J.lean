import Derived.Test.YtchdmofoaokpjaaGreatDoorM3G
import Derived.Test.YtchdmofoaokpjaaGreatDoorM30N17F04Y
namespace Go.Aw
open Go
open Go.Proofs.Tryz (prog)
set_option linter.all false
set_option maxHeartbeats 8000000
set_option maxRecDepth 8000
theorem MS.undo {B T : Tab} {id : Nat} {most : Int} {l : List Sn} {v : AV} {j : Nat} {s : Slot} (h : MS (B.put j s) T id most l v) (hs : s ≠ .unused) (hj : B j = .unused) (s' : Slot) : MS B (T.put j s') id most l v := by
 have ne : ∀ i, (B.put j s) i = .unused -> i ≠ j /\ B i = .unused := fun i hi => by
  have : i ≠ j := fun e => hs (by rw [e, Tab.put_same] at hi; exact hi)
  rw [Tab.put_ne _ _ this] at hi
  exact ⟨this, hi⟩
 obtain ⟨n1, n2⟩ := ne id h.bid
 refine ⟨by rw [Tab.put_ne _ _ n1]; exact h.row, ?_, n2, fun x hx => ?_, h.nd, fun i hi => ?_, h.len, h.mo⟩
 ·rcases h.sl with q | ⟨idC, junk, m, q1, q2, q3, q4, q5, q6⟩
  ·exact .inl q
  ·obtain ⟨m1, m2⟩ := ne idC q4
   exact .inr ⟨idC, junk, m, q1, by rw [Tab.put_ne _ _ m1]; exact q2, q3, m2, q5, q6⟩
 ·obtain ⟨q1, q2, q3, q4⟩ := h.byt x hx
  obtain ⟨m1, m2⟩ := ne x.id q2
  exact ⟨by rw [Tab.put_ne _ _ m1]; exact q1, m2, q3, q4⟩
 ·have e : i ≠ j := fun e => hi (by rw [e]; exact hj)
  rw [Tab.put_ne _ _ e]
  have := h.le i (by rw [Tab.put_ne _ _ e]; exact hi)
  rw [this, Tab.put_ne _ _ e]
theorem z0o {B T1 T : Tab} {id z : Nat} {most : Int} {l : List Sn} {v va : AV} {n : Nat} {xs : List AV} (h : Own T1 z va n xs T) (hm : MS B T1 id most l v) :
  ∃ B', TabLe B B' /\ MS B' T id most l v /\ (∀ T' l' v', MS B' T' id most l' v' -> ∃ T1', Own T1' z va n xs T' /\ MS B T1' id most l' v') /\ (0 < n -> ∃ ia, va = .sl ia 0 n none /\ B' ia = .row z xs) := by
 obtain ⟨hx, h⟩ := h
 rcases h with ⟨rfl, rfl, rfl⟩ | ⟨ia, rfl, hia, rfl⟩
 ·exact ⟨B, .refl B, hm, fun T' l' v' h' => ⟨T', ⟨hx, .inl ⟨rfl, rfl, rfl⟩⟩, h'⟩, fun h => absurd h (by decide)⟩
 ·have hB := hm.le.unused hia
  refine ⟨B.put ia (.row z xs), (TabLe.refl B).put hB, hm.base hia _ (by simp), fun T' l' v' h' => ?_, fun _ => ⟨ia, rfl, Tab.put_same ..⟩⟩
  have hr : T' ia = .row z xs := by rw [h'.le ia (by rw [Tab.put_same]; simp), Tab.put_same]
  refine ⟨T'.put ia .unused, ⟨hx, .inr ⟨ia, rfl, Tab.put_same .., ?_⟩⟩, h'.undo (by simp) hB _⟩
  rw [Tab.put_put, Tab.put_self hr]
def RelS (l : List Sn) (ys : List (Lt Cf)) : Prop := l.length = ys.length /\ ∀ (i : Nat) y, ys[i]? = some y -> ∃ j, l[i]? = some ⟨y.tk, y.tn, j, frm (q26 y)⟩
theorem RelS.add {l : List Sn} {ys : List (Lt Cf)} (h : RelS l ys) (y : Lt Cf) (j : Nat) : RelS (l ++ [⟨y.tk, y.tn, j, frm (q26 y)⟩]) (ys ++ [y]) := by
 refine ⟨by rw [List.length_append, List.length_append, h.1]; rfl, fun i x hx => ?_⟩
 by_cases hi : i < ys.length
 ·rw [List.getElem?_append_left hi] at hx
  rw [List.getElem?_append_left (by rw [h.1]; exact hi)]
  exact h.2 i x hx
 ·have hi' : i < (ys ++ [y]).length := (List.getElem?_eq_some_iff.1 hx).1
  rw [List.length_append] at hi'
  simp only [List.length_cons, List.length_nil] at hi'
  obtain rfl : i = ys.length := by omega
  rw [List.getElem?_append_right (Nat.le_refl _), Nat.sub_self] at hx
  injection hx with hx
  subst hx
  exact ⟨j, by rw [List.getElem?_append_right (by rw [h.1]; exact Nat.le_refl _), h.1, Nat.sub_self]; rfl⟩
def z0p (ls : List (Lt Rf)) : List AV := ls.flatMap fun l => l.rc
def qwo (ls : List (Lt Cf)) : List AV := ls.flatMap fun l => l.cc
theorem z3g (l : List (Lt Rf)) : (z0p l).length = l.length * 26 := Q5 (f := fun l : Lt Rf => l.rc) (z := 26) (fun _ => rfl) l
theorem z6z {l : List (Lt Rf)} {k : Nat} {s : Lt Rf} (h : l[k]? = some s) : (z0p l).drop (k * 26) = s.rc ++ z0p (l.drop (k + 1)) := q08 (f := fun l : Lt Rf => l.rc) (z := 26) (fun _ => rfl) h
theorem z3h (l : List (Lt Cf)) : (qwo l).length = l.length * 26 := Q5 (f := fun l : Lt Cf => l.cc) (z := 26) (fun _ => rfl) l
theorem z70 {l : List (Lt Cf)} {k : Nat} {s : Lt Cf} (h : l[k]? = some s) : (qwo l).drop (k * 26) = s.cc ++ qwo (l.drop (k + 1)) := q08 (f := fun l : Lt Cf => l.cc) (z := 26) (fun _ => rfl) h
end Go.Aw
namespace Go.Aw
open Go
open Go.Proofs.Tryz (prog)
set_option linter.all false
set_option maxHeartbeats 8000000
set_option maxRecDepth 8000
theorem qv3 : ∀ (g p z : List AV), z.length = g.length -> qbq (p ++ z) p.length g = p ++ g
 | [], p, z, h => by
  have : z = [] := List.length_eq_zero_iff.1 h
  subst this; rfl
 | x :: g, p, [], h => by cases h
 | x :: g, p, y :: z, h => by
  have e : (p ++ y :: z).set p.length x = (p ++ [x]) ++ z := by simp
  have ih := qv3 g (p ++ [x]) z (by simpa using h)
  simp only [List.length_append, List.length_cons, List.length_nil, Nat.zero_add] at ih
  rw [qbq, e, ih]
  simp
theorem qtz {z g : List AV} (h : z.length = g.length) : qbq z 0 g = g := qv3 g [] z h
theorem zfs (g : Lt Cf) : qbq [.i .i64 0, .i .i64 0, .i .i64 0, .i .i64 0, .i .i64 0, .i .i64 0, .i .u64 0, .i .i64 0, .i .i64 0, .i .i64 0, .b false, .i .u64 0, .i .i64 0, .fz 0 [] (some 0), .fz 0 [] (some 0), .fz 0 [] (some 0), .i .i64 0, .i .u64 0, .b false, .fz 0 [] (some 0), .fz 0 [] (some 0), .i .i64 0, .i .u64 0, .s [], .i .u64 0, .i .i64 0] 0 (g.cells cfC) = g.cells cfC := qtz rfl
theorem z3i {R : G9} (hR : ExtR R) {B : Tab} {id : Nat} {ls : List (Lt Rf)} {cap : Option Nat} {k a : Int} {m : W} (hl : Len ls.length) (hA : ∀ x ∈ ls, x.Arg)
  (h2 : ∀ (T1 T : Tab) (l : List Sn) (v va : AV) (ys : List (Lt Cf)), Own T1 26 va ys.length (qwo ys) T -> MS B T1 id 50 l v -> RelS l ys -> (∀ y ∈ ys, y.Small /\ y.Rng /\ lrF y = true) -> ys.length <= 10 ->
   R (.exit 0) [(1, .i .i64 k), (2, .i .u16 a), (3, wv m), (9, .ptr id 0), (10, va), (24, .fz ls.length (z0p ls) cap), (25, .i .i64 ls.length), (26, .i .i64 ls.length), (27, .b false)] [] T) : ∀ (us : List (Lt Rf)) (i : Nat), ls.drop i = us -> i <= ls.length ->
  ∀ (T1 T : Tab) (l : List Sn) (v va : AV) (ys : List (Lt Cf)), Own T1 26 va ys.length (qwo ys) T -> MS B T1 id 50 l v -> RelS l ys -> (∀ y ∈ ys, y.Small /\ y.Rng /\ lrF y = true) -> ys.length <= min i 10 ->
  AW prog q2m R [(1, .i .i64 k), (2, .i .u16 a), (3, wv m), (9, .ptr id 0), (10, va), (24, .fz ls.length (z0p ls) cap), (25, .i .i64 ls.length), (26, .i .i64 i)] [] T := by
 unfold Len at hl
 intro us
 induction us with
 | nil =>
  intro i hi hle T1 T l v va ys ho hM hR' hys hyl
  have hi' := V6 hi hle
  obtain ⟨p1, p2, p3, p4, p5, p6⟩ := ho.form
  refine V1 hR ?_
  unfold q28
  have h2 := h2 T1 T l v va ys ho hM hR' hys (by omega)
  rw [hi'] at h2
  simp -implicitDefEqProofs -dsimp only [go_sem, seval, hi', Int.lt_irrefl, p1, p2, p3, p4, p5, p6]
  exact h2
 | cons u us ih =>
  intro i hi hle T1 T l v va ys ho hM hR' hys hyl
  obtain ⟨hlt, hy, hi'⟩ := Y6 hi
  have hws : IntKind.i64.wrap ((i : Int) + 1) = ((i + 1 : Nat) : Int) := O8 (by omega)
  have hcell := z6z hy
  have hlen : i * 26 + 26 <= (z0p ls).length := by rw [z3g]; omega
  have hu := hA u (List.mem_of_getElem? hy)
  have c1 := z24 u hu.wide
  have hf := hu.fine
  have hr := hu.rng
  have hs := hf.small
  obtain ⟨p1, p2, p3, p4, p5, p6⟩ := ho.form
  have hul : (u.rc).length = 26 := rfl
  have hut : (u.rc ++ z0p (ls.drop (i + 1))).take 26 = u.rc := List.take_left' rfl
  have hul2 : (26 <= (u.rc ++ z0p (ls.drop (i + 1))).length) = True := eq_true (by rw [List.length_append, hul]; omega)
  have hup : u.rc.take 26 = u.rc := rfl
  obtain ⟨B', hBB, hMB, hback, _⟩ := z0o ho hM
  have cS := qp4 hMB u.ours hs hf.t hr
  generalize hrc : u.rc = U at *
  rw [show u.cells rfL = U from hrc] at c1
  generalize u.ours = y at *
  refine Q1 (l := q2m) rfl hR ?_
  unfold q28
  rcases d : decide ((i : Int) < 10) with _ | _
  ·have := of_decide_eq_false d
   simp -implicitDefEqProofs -dsimp only [go_sem, seval, Int.ofNat_lt, hlt, Int.natCast_nonneg, Int.toNat_natCast, hlen, hcell, hut, hul, hul2, hup, p1, p2, p3, p4, p5, p6, ↓J0 _ _ q8q]
   refine cpn c1 ?_
   simp -implicitDefEqProofs -dsimp only [go_sem, seval, d, ↓Q2, I2, true_and, p1, p2, p3, p4, p5, p6, hws]
   exact ih (i + 1) hi' hlt T1 T l v va ys ho hM hR' hys (by omega)
  have hi10 := of_decide_eq_true d
  simp -implicitDefEqProofs -dsimp only [go_sem, seval, Int.ofNat_lt, hlt, Int.natCast_nonneg, Int.toNat_natCast, hlen, hcell, hut, hul, hul2, hup, p1, p2, p3, p4, p5, p6, ↓J0 _ _ q8q]
  refine cpn c1 ?_
  simp -implicitDefEqProofs -dsimp only [go_sem, seval, d, ↓Q2, I2, true_and, p1, p2, p3, p4, p5, p6, ↓J0 _ _ q7w]
  refine CallK.of cS (fun r T2 ⟨e1, v1, l1, hM1, f0, f1⟩ => J1 ?_)
  subst e1
  obtain ⟨T1', ho', hM'⟩ := hback T2 l1 v1 hM1
  have hll : l.length <= 10 := by rw [hR'.1]; omega
  rcases hk : lrF y with _ | _
  ·have es : sdC 50 l y = 1 := by unfold sdC; rw [hk, if_pos rfl]
   rw [es] at f0 ⊢
   obtain rfl := f0 (by decide)
   simp -implicitDefEqProofs -dsimp only [go_sem, seval, p1, p2, p3, p4, p5, p6, hws]
   exact ih (i + 1) hi' hlt T1' T2 _ v1 va ys ho' hM' hR' hys (by omega)
  ·have es : sdC 50 l y = 0 := by unfold sdC; rw [hk, if_neg (by decide), if_neg (by omega)]
   rw [es] at f1 ⊢
   obtain ⟨j, rfl⟩ := f1 rfl
   simp -implicitDefEqProofs -dsimp only [go_sem, seval, zfs, p1, p2, p3, p4, p5, p6, decide_true]
   refine ho'.app (m := 1) (news := y.cc) rfl rfl (by omega) (by omega) fun va' T3 ho3 => J1 ?_
   obtain ⟨p1, p2, p3, p4, p5, p6⟩ := ho3.form
   simp -implicitDefEqProofs -dsimp only [go_sem, seval, p1, p2, p3, p4, p5, p6, hws]
   refine ih (i + 1) hi' hlt T1' T3 _ v1 va' (ys ++ [y]) ?_ hM' (hR'.add y j) (fun x hx => ?_) (by rw [List.length_append]; simp only [List.length_cons, List.length_nil]; omega)
   ·have : qwo (ys ++ [y]) = qwo ys ++ y.cc := by simp [qwo]
    rw [this, List.length_append]; exact ho3
   ·rcases List.mem_append.1 hx with hx | hx
    ·exact hys x hx
    ·obtain rfl := List.mem_singleton.1 hx
     exact ⟨hs, hr, hk⟩
end Go.Aw
namespace Go.Aw
open Go
open Go.Proofs.Tryz (prog)
set_option linter.all false
set_option maxHeartbeats 8000000
set_option maxRecDepth 8000
theorem qm0 (l : Bs) (p : Nat) : ∀ j, q0m l p 0#32 j = l
 | 0 => rfl
 | j + 1 => by
  simp only [q0m]
  rw [if_neg (by simp), qm0 l p j]
theorem z0q {y : Lt Cf} (h : lrF y = true) (hr : y.Rng) {p : Nat} {m : W} (hp : p + 31 < 8 * (frm (q26 y)).length) : decide (q57 (loE (q0m (frm (q26 y)) p m 32)) = 0) = decide ((m.toNat : Int) = 0) := by
 by_cases hm : m = 0#32
 ·subst hm
  rw [qm0, (z0e h hr).2]; rfl
 ·obtain ⟨e, h1, h2⟩ := z6x (zb0 hm hp)
  rw [h1, decide_eq_false (show ¬ q57 (some e) = 0 from h2), decide_eq_false]
  intro h
  exact hm (BitVec.eq_of_toNat_eq (by simp; omega))
theorem qrb (ls : List (Lt Rf)) (cap : Option Nat) (k : Int) (a : Nat) (m : W) (hl : Len ls.length) (hA : ∀ x ∈ ls, x.Arg) (ha : a < 65536) : PCalls prog q6c [.fz ls.length (z0p ls) cap, .i .i64 k, .i .u16 a, wv m] (.b true) := by
 refine K6 U1 qae (by simp) fun T => ?_
 unfold q6f
 simp -implicitDefEqProofs -dsimp only [go_sem, seval, ↓J0 _ _ qnb]
 refine CallK.of (z0f 50) (fun r T1 ⟨id, e1, h1, _⟩ => J1 ?_)
 subst e1
 rw [show clM 50 = 50 by decide] at h1
 simp -implicitDefEqProofs -dsimp only [go_sem, seval]
 refine z3i (B := T) (by repeat' (first | exact O6 _ _ | assumption | apply O5 | apply N4 | apply V8)) hl hA (fun Ta Tb l v va ys ho hM hR hys hyl => ?_) ls 0 rfl (Nat.zero_le _) T1 T1 [] _ (.fz 0 [] (some 0)) [] (Own.nil T1 26) h1 ⟨rfl, fun i y h => by simp at h⟩ (fun y hy => (by cases hy)) (by simp)
 obtain ⟨B', hBB, hMB, _, hsl⟩ := z0o ho hM
 by_cases h0 : ys.length = 0
 ·have d0 : decide ((ys.length : Int) = 0) = true := decide_eq_true (by omega)
  rcases ho.2 with ⟨rfl, _, _⟩ | ⟨ia, rfl, _, _⟩
  ·simp -implicitDefEqProofs -dsimp only [go_sem, seval, ↓J0 _ _ q30]
   refine cpn qdo ?_
   simp -implicitDefEqProofs -dsimp only [go_sem, seval]
   exact (hBB.trans hMB.le.le).fin
  ·simp -implicitDefEqProofs -dsimp only [go_sem, seval, d0, ↓J0 _ _ q30]
   refine cpn qdo ?_
   simp -implicitDefEqProofs -dsimp only [go_sem, seval]
   exact (hBB.trans hMB.le.le).fin
 obtain ⟨ia, rfl, hia⟩ := hsl (by omega)
 have d0 : decide ((ys.length : Int) = 0) = false := decide_eq_false (by omega)
 have z0 : ((ys.length : Int) = 0) = False := eq_false (by omega)
 have hpos : (0 : Int) < ys.length := by omega
 obtain ⟨i, hi⟩ : ∃ i : Nat, k % (ys.length : Int) = i := ⟨(k % (ys.length : Int)).toNat, by have := Int.emod_nonneg k (show (ys.length : Int) ≠ 0 by omega); omega⟩
 have hlt : i < ys.length := by have := Int.emod_lt_of_pos k hpos; omega
 obtain ⟨y, hy⟩ : ∃ y, ys[i]? = some y := ⟨_, List.getElem?_eq_getElem hlt⟩
 obtain ⟨hys1, hys2, hys3⟩ := hys y (List.mem_of_getElem? hy)
 obtain ⟨j, hj⟩ := hR.2 i y hy
 have hll := hR.1
 have hrem : (Int.tmod k ys.length < 0 -> IntKind.i64.wrap (Int.tmod k ys.length + ys.length) = (i : Int)) /\ (¬ Int.tmod k ys.length < 0 -> Int.tmod k ys.length = (i : Int)) := by
  have b1 := Int.tmod_lt_of_pos k hpos
  have b2 := Int.lt_tmod_of_pos k hpos
  have e2 := Int.tmod_add_mul_tdiv k ys.length
  have e3 : k % (ys.length : Int) = Int.tmod k ys.length % (ys.length : Int) := by
   conv => lhs; rw [<- e2]
   rw [Int.add_mul_emod_self_left]
  rw [hi] at e3
  constructor
  ·intro hq
   rw [q0c (by unfold I64; omega), e3, <- Int.add_emod_right (Int.tmod k ys.length) ys.length, Int.emod_eq_of_lt (by omega) (by omega)]
  ·intro hq
   rw [e3, Int.emod_eq_of_lt (by omega) (by omega)]
 have hel := q95 hys2 hys3
 have hfl := qfj (q26 y)
 obtain ⟨q1, q2⟩ := z0e hys3 hys2
 have hki : (k % (l.length : Int)).toNat = i := by rw [hll, hi, Int.toNat_natCast]
 have hC := quz hMB k (s := ⟨y.tk, y.tn, j, frm (q26 y)⟩) (by rw [hki]; exact hj)
 have hG := qwn hMB k (s := ⟨y.tk, y.tn, j, frm (q26 y)⟩) (by rw [hki]; exact hj) (by simp only; omega) a ha m
 rw [hki] at hG
 have ec : q57 none = 0 := rfl
 have hgr : grb l i ⟨y.tk, y.tn, j, frm (q26 y)⟩ a m = l.set i ⟨y.tk, y.tn, j, q0m (frm (q26 y)) (a % (8 * (frm (q26 y)).length - 31)) m 32⟩ := by
  unfold grb; rw [if_pos (by simp only; rw [q2]; rfl)]
 rw [hgr] at hG
 have hp : a % (8 * (frm (q26 y)).length - 31) + 31 < 8 * (frm (q26 y)).length := by have := Nat.mod_lt a (show 0 < 8 * (frm (q26 y)).length - 31 by omega); omega
 have hcode := z0q hys3 hys2 (m := m) hp
 have cO := fun cap => qjp (frm (q26 y)) cap (by omega)
 rw [q1, q2, ec] at cO
 have cO2 := fun cap => qjp (q0m (frm (q26 y)) (a % (8 * (frm (q26 y)).length - 31)) m 32) cap (by rw [q1z]; omega)
 have cSm := qgt y y hys1 hys1
 rw [z28] at cSm
 have hltl : i < l.length := by omega
 have hTk := fun T4 h4 => qv0 (B := B') (T := T4) (id := id) (most := 50) (l := l.set i ⟨y.tk, y.tn, j, q0m (frm (q26 y)) (a % (8 * (frm (q26 y)).length - 31)) m 32⟩) (v := v) h4 k (s := ⟨y.tk, y.tn, j, q0m (frm (q26 y)) (a % (8 * (frm (q26 y)).length - 31)) m 32⟩) (by rw [List.length_set, hki, List.getElem?_set_self hltl])
 simp only [q1z, bts] at hTk cO cO2
 generalize loA (q0m (frm (q26 y)) (a % (8 * (frm (q26 y)).length - 31)) m 32) = A at *
 generalize q57 (loE (q0m (frm (q26 y)) (a % (8 * (frm (q26 y)).length - 31)) m 32)) = C at *
 have hycell := z70 hy
 have hyl2 : i * 26 + 26 <= (qwo ys).length := by rw [z3h]; omega
 have hyt : (y.cc ++ qwo (ys.drop (i + 1))).take 26 = y.cc := List.take_left' rfl
 have hyt2 : (26 <= (y.cc ++ qwo (ys.drop (i + 1))).length) = True := eq_true (by rw [List.length_append]; have : y.cc.length = 26 := rfl; omega)
 have ws1 : IntKind.i64.wrap ((ys.length : Int) - 1) = ((ys.length - 1 : Nat) : Int) := (q0c (by unfold I64; omega)).trans (by omega)
 rcases d : decide (Int.tmod k ys.length < 0) with _ | _
 ·have er := hrem.2 (of_decide_eq_false d)
  have dn : decide ((i : Int) < 0) = false := decide_eq_false (by omega)
  simp -implicitDefEqProofs -dsimp only [go_sem, seval, d0, z0, er, dn, ↓J0 _ _ q7x]
  refine CallK.of hC (fun r T3 ⟨w, e3, hw⟩ => J1 ?_)
  subst e3
  obtain ⟨p1, p2, p3, p4, p5, p6⟩ := hw.form
  simp -implicitDefEqProofs -dsimp only [go_sem, seval, p1, p2, p3, p4, p5, p6, ↓J0 _ _ q4y]
  refine CallK.give0 hw rfl (fun q => cO q Tb) (fun v' T' hh => ?_)
  obtain ⟨rfl, rfl⟩ := hh
  refine J1 ?_
  simp -implicitDefEqProofs -dsimp only [go_sem, seval, ↓J0 _ _ q9g]
  refine CallK.of hG (fun r T4 ⟨e4, h4⟩ => J1 ?_)
  subst e4
  simp -implicitDefEqProofs -dsimp only [go_sem, seval, ↓J0 _ _ q7y]
  refine CallK.of (hTk T4 h4) (fun r T5 ⟨w2, T6, v6, e5, hw2, h6⟩ => J1 ?_)
  subst e5
  rw [List.length_set, hki] at h6
  have hia6 : T6 ia = .row 26 (qwo ys) := by rw [h6.le ia (by rw [hia]; simp)]; exact hia
  have hL := qp3 h6
  rw [List.length_eraseIdx_of_lt (by rw [List.length_set]; exact hltl), List.length_set, hll] at hL
  obtain ⟨p1, p2, p3, p4, p5, p6⟩ := hw2.form
  simp -implicitDefEqProofs -dsimp only [go_sem, seval, p1, p2, p3, p4, p5, p6, ↓J0 _ _ q4y]
  refine CallK.give0 hw2 rfl (fun q => cO2 q T6) (fun v' T' hh => ?_)
  obtain ⟨rfl, rfl⟩ := hh
  refine J1 ?_
  simp -implicitDefEqProofs -dsimp only [go_sem, seval, decide_true, ↓Q2, I2, true_and, hia6, Int.ofNat_lt, hlt, Int.natCast_nonneg, Int.toNat_natCast, hyl2, hycell, hyt, hyt2, ↓J0 _ _ q0n]
  refine cpn cSm ?_
  simp -implicitDefEqProofs -dsimp only [go_sem, seval, hcode, qm1, decide_true, eq_self, ↓Q2, I2, true_and, ws1, ↓J0 _ _ q4n]
  refine can hL ?_
  simp -implicitDefEqProofs -dsimp only [go_sem, seval, decide_true, ↓Q2, I2, true_and, ↓J0 _ _ q30]
  refine cpn qdo ?_
  simp -implicitDefEqProofs -dsimp only [go_sem, seval]
  exact (hBB.trans h6.le.le).fin
 ·have er := hrem.1 (of_decide_eq_true d)
  simp -implicitDefEqProofs -dsimp only [go_sem, seval, d0, z0, d, er, ↓J0 _ _ q7x]
  refine CallK.of hC (fun r T3 ⟨w, e3, hw⟩ => J1 ?_)
  subst e3
  obtain ⟨p1, p2, p3, p4, p5, p6⟩ := hw.form
  simp -implicitDefEqProofs -dsimp only [go_sem, seval, p1, p2, p3, p4, p5, p6, ↓J0 _ _ q4y]
  refine CallK.give0 hw rfl (fun q => cO q Tb) (fun v' T' hh => ?_)
  obtain ⟨rfl, rfl⟩ := hh
  refine J1 ?_
  simp -implicitDefEqProofs -dsimp only [go_sem, seval, ↓J0 _ _ q9g]
  refine CallK.of hG (fun r T4 ⟨e4, h4⟩ => J1 ?_)
  subst e4
  simp -implicitDefEqProofs -dsimp only [go_sem, seval, ↓J0 _ _ q7y]
  refine CallK.of (hTk T4 h4) (fun r T5 ⟨w2, T6, v6, e5, hw2, h6⟩ => J1 ?_)
  subst e5
  rw [List.length_set, hki] at h6
  have hia6 : T6 ia = .row 26 (qwo ys) := by rw [h6.le ia (by rw [hia]; simp)]; exact hia
  have hL := qp3 h6
  rw [List.length_eraseIdx_of_lt (by rw [List.length_set]; exact hltl), List.length_set, hll] at hL
  obtain ⟨p1, p2, p3, p4, p5, p6⟩ := hw2.form
  simp -implicitDefEqProofs -dsimp only [go_sem, seval, p1, p2, p3, p4, p5, p6, ↓J0 _ _ q4y]
  refine CallK.give0 hw2 rfl (fun q => cO2 q T6) (fun v' T' hh => ?_)
  obtain ⟨rfl, rfl⟩ := hh
  refine J1 ?_
  simp -implicitDefEqProofs -dsimp only [go_sem, seval, decide_true, ↓Q2, I2, true_and, hia6, Int.ofNat_lt, hlt, Int.natCast_nonneg, Int.toNat_natCast, hyl2, hycell, hyt, hyt2, ↓J0 _ _ q0n]
  refine cpn cSm ?_
  simp -implicitDefEqProofs -dsimp only [go_sem, seval, hcode, qm1, decide_true, eq_self, ↓Q2, I2, true_and, ws1, ↓J0 _ _ q4n]
  refine can hL ?_
  simp -implicitDefEqProofs -dsimp only [go_sem, seval, decide_true, ↓Q2, I2, true_and, ↓J0 _ _ q30]
  refine cpn qdo ?_
  simp -implicitDefEqProofs -dsimp only [go_sem, seval]
  exact (hBB.trans h6.le.le).fin
end Go.Aw
