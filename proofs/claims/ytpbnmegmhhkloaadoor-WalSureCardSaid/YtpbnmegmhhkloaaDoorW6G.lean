import Derived.Test.YtpbnmegmhhkloaaDoorW6F
namespace Go.Aw
open Go
open Go.Proofs.Tryd (prog)
set_option linter.all false
set_option maxHeartbeats 8000000
set_option maxRecDepth 8000
theorem Un.dw {d : Dk} (h : Un d) (hl : d.left <= 9223372036854775807) : Dw d := ⟨h.ok, hl⟩
theorem qfx (d : Dk) (k : Int) : (clr d k).left = d.left := by unfold clr; split; rfl; exact (Y9 ..).2.2.2
theorem qmq {T : Tab} {did lid : Nat} (hne : did ≠ lid) {d : Dk} {w : Wl} (hd : Un d) (hl : d.left <= 9223372036854775807) (hf : (10 : Int) + d.a1.b.length <= d.room) (hw : w.dead = false) :
  ACalls prog q0o [.ptr lid 0] (tL T did lid d w) (fun v T' => v = .i .i64 0 /\ T' = tL T did lid (fresh d) ⟨0, 1, false⟩) := by
 refine K1 O5 q9g (by simp) ?_
 have hT := qaj (T := T) (did := did) (lid := lid) d w
 obtain ⟨c1, c2, c3, c4, c5, c6⟩ := hd.clear (k := 0) (.inl rfl)
 have hcl := qfx d 0
 have c4' : (clr d 0).get 1 = d.get 1 := c4
 have hC := q74 (T := T) hne (w := ⟨0, 1, false⟩) (hd.dw hl) (k := 0) (.inl rfl)
 rw [c1] at hC
 have n0 : q09 0 (⟨0, 1, false⟩ : Wl) = ⟨0, 1, false⟩ := by simp [q09]
 rw [n0] at hC
 have hH := qkl 1 0 (by decide) (by decide)
 have hP := qfo (N4 1 0) none (by have := (q1u (g := 1) (n := 0) (by decide) (by decide)).2; omega)
 have hok : qjw (N4 1 0) = .tup [bts (frm (N4 1 0)) none, .i .i64 0] := by
  have := (q1u (g := 1) (n := 0) (by decide) (by decide)).1
  unfold qjw q7m
  rw [decide_eq_true this.1, decide_eq_true this.2]; rfl
 rw [hok] at hP
 have hfit : (((clr d 0).get 0).b.length : Int) + (frm (N4 1 0)).length + ((clr d 0).get (1 - 0)).b.length <= (clr d 0).room := by
  rw [c3, c4, c5, q14]
  show (([] : Bs).length : Int) + (10 : Nat) + d.a1.b.length <= d.room
  simp only [List.length_nil]; omega
 obtain ⟨p1, p2⟩ := c2.put (.inl rfl) hfit
 obtain ⟨a1, a2⟩ := c2.append (.inl rfl) hfit
 have hPut := qn8 (T := T) hne (d := clr d 0) (w := ⟨0, 1, false⟩) (c2.dw (by rw [hcl]; exact hl)) 0 (frm (N4 1 0)) none (by rw [q14]; decide) (by rw [a1]; exact a2.dw (by rw [(Y9 ..).2.2.2, hcl]; exact hl))
 have hfr : (clr d 0).set 0 ⟨((clr d 0).get 0).b ++ frm (N4 1 0), none, (((clr d 0).get 0).b ++ frm (N4 1 0)).length⟩ = fresh d := by
  rw [c3, List.nil_append, q14]; rfl
 rw [p1, hfr, n0] at hPut
 have hT2 := qaj (T := T) (did := did) (lid := lid) (clr d 0) ⟨0, 1, false⟩
 generalize frm (N4 1 0) = F at *
 generalize N4 1 0 = H at *
 simp only [bts] at hP hPut
 unfold q46
 simp -implicitDefEqProofs -dsimp only [go_sem, seval, hT]
 refine O6 hT rfl rfl (by simp) (J7 ?_)
 have hTa := Tab.put_same (tL T did lid d w) lid (.row 4 [.ptr did 0, .i .i64 0, .i .u64 w.g, .b w.dead])
 simp -implicitDefEqProofs -dsimp only [go_sem, seval]
 refine O6 hTa rfl rfl (by simp) (J7 ?_)
 have e1 : (tL T did lid d w).put lid (.row 4 [.ptr did 0, .i .i64 0, .i .u64 1, .b w.dead]) = tL T did lid d ⟨0, 1, false⟩ := by
  rw [hw]; exact qmp d w ⟨0, 1, false⟩
 simp -implicitDefEqProofs -dsimp only [go_sem, seval, Tab.put_put, e1, ↓J2 _ _ V1]
 refine can hC ?_
 simp -implicitDefEqProofs -dsimp only [go_sem, seval, decide_true, Bool.not_true, hT2, ↓J2 _ _ q7k]
 refine cpn hH ?_
 simp -implicitDefEqProofs -dsimp only [go_sem, seval, bts, ↓J2 _ _ q0z]
 refine cpn hP ?_
 simp -implicitDefEqProofs -dsimp only [go_sem, seval, ↓J2 _ _ q3a]
 refine can hPut ?_
 simp -implicitDefEqProofs -dsimp only [go_sem, seval]
 exact K6 (.refl _) rfl
theorem qp1 {T : Tab} {did lid : Nat} (hne : did ≠ lid) {d : Dk} {w : Wl} (hd : Un d) (hl : d.left <= 9223372036854775807) (hk : Kk w.k) {wh : Wh} (hr : Q0 (d.get w.k).b = some wh) :
  ACalls prog q11 [.ptr lid 0, .agg (whC wh)] (tL T did lid d w) (fun v T' => v = .i .i64 0 /\ T' = tL T did lid (qhj d w.k wh) { w with g := wh.g }) := by
 refine K1 O5 qab (by simp) ?_
 have hT := qaj (T := T) (did := did) (lid := lid) d w
 obtain ⟨r1, r2, r3, r4⟩ := q9u hr
 have e1 : (tL T did lid d w).put lid (.row 4 [.ptr did 0, .i .i64 w.k, .i .u64 wh.g, .b w.dead]) = tL T did lid d { w with g := wh.g } := qmp d w { w with g := wh.g }
 have hT2 := qaj (T := T) (did := did) (lid := lid) d { w with g := wh.g }
 have hA := qf0 (T := T) hne d { w with g := wh.g }
 have n0 : ∀ w : Wl, q09 0 w = w := fun w => by simp [q09]
 unfold q5a qhj
 by_cases h1 : wh.good < wh.all
 ·have d1 : decide ((wh.good : Int) < (wh.all : Int)) = true := decide_eq_true (by omega)
  rw [if_pos h1]
  obtain ⟨c1, c2⟩ := hd.cut hk r2
  have hC := qn7 hd.ok hl hA w.k wh.good
  rw [qak hne, c1] at hC
  have hn := q3f (T := T) (did := did) (lid := lid) (d := d.set w.k ⟨(d.get w.k).b.take wh.good, none, wh.good⟩) (w := { w with g := wh.g }) 0
  rw [n0] at hn
  simp -implicitDefEqProofs -dsimp only [go_sem, seval, whC, hT]
  refine O6 hT rfl rfl (by simp) (J7 ?_)
  simp -implicitDefEqProofs -dsimp only [go_sem, seval, e1, d1, hT2, ↓J2 _ _ q4a]
  refine can hC ?_
  simp -implicitDefEqProofs -dsimp only [go_sem, seval, ↓J2 _ _ Q2]
  refine can hn ?_
  simp -implicitDefEqProofs -dsimp only [go_sem, seval]
  exact K6 (.refl _) rfl
 ·have d1 : decide ((wh.good : Int) < (wh.all : Int)) = false := decide_eq_false (by omega)
  rw [if_neg h1]
  have hS := qot hA w.k
  have es : d.sure w.k = (d.get w.k).su := by unfold Dk.sure; rw [if_neg hk.v]
  rw [es] at hS
  by_cases h2 : (d.get w.k).su < wh.all
  ·have d2 : decide ((d.get w.k).su < (wh.all : Int)) = true := decide_eq_true h2
   rw [if_pos h2]
   obtain ⟨c1, c2⟩ := hd.sync hk
   have hC := qey hd.ok hl hA w.k
   rw [qak hne, c1] at hC
   have hn := q3f (T := T) (did := did) (lid := lid) (d := d.set w.k ⟨(d.get w.k).b, (d.get w.k).c, (d.get w.k).b.length⟩) (w := { w with g := wh.g }) 0
   rw [n0] at hn
   simp -implicitDefEqProofs -dsimp only [go_sem, seval, whC, hT]
   refine O6 hT rfl rfl (by simp) (J7 ?_)
   simp -implicitDefEqProofs -dsimp only [go_sem, seval, e1, d1, hT2, ↓J2 _ _ q3j]
   refine can hS ?_
   simp -implicitDefEqProofs -dsimp only [go_sem, seval, d2, hT2, ↓J2 _ _ q1b]
   refine can hC ?_
   simp -implicitDefEqProofs -dsimp only [go_sem, seval, ↓J2 _ _ Q2]
   refine can hn ?_
   simp -implicitDefEqProofs -dsimp only [go_sem, seval]
   exact K6 (.refl _) rfl
  ·have d2 : decide ((d.get w.k).su < (wh.all : Int)) = false := decide_eq_false h2
   rw [if_neg h2]
   simp -implicitDefEqProofs -dsimp only [go_sem, seval, whC, hT]
   refine O6 hT rfl rfl (by simp) (J7 ?_)
   simp -implicitDefEqProofs -dsimp only [go_sem, seval, e1, d1, hT2, ↓J2 _ _ q3j]
   refine can hS ?_
   simp -implicitDefEqProofs -dsimp only [go_sem, seval, d2]
   exact K6 (.refl _) rfl
def chE : Option (Int × Wh) -> Int
 | none => 0
 | some (k, _) => k
def chL : Option (Int × Wh) -> List AV
 | none => whZ
 | some (_, w) => whC w
def chS (o : Option (Int × Wh)) (k : Int) (r : Option Wh) : Option (Int × Wh) := match r with
 | none => o
 | some w => match o with
  | none => some (k, w)
  | some (j, v) => if v.g < w.g then some (k, w) else some (j, v)
theorem qkm (d : Dk) : chS (chS none 0 (Q0 (d.get 0).b)) 1 (Q0 (d.get 1).b) = U2 d := by
 show chS (chS none 0 (Q0 d.a0.b)) 1 (Q0 d.a1.b) = U2 d
 unfold U2
 rcases Q0 d.a0.b with _ | x <;> rcases Q0 d.a1.b with _ | y <;> rfl
theorem qkn (o : Option (Int × Wh)) : (chL o).length = 4 := by rcases o with _ | ⟨k, w⟩ <;> rfl
theorem qdo {R : Z1} (hR : ExtR R) {T : Tab} {did : Nat} {d : Dk} (hd : d.Ok) (hT : At T did d) (hl : d.lost = false) (k : Int) (hk : Kk k) (o : Option (Int × Wh))
  (h2 : AW prog q1g R [(0, .ptr did 0), (3, .lp 3 0), (6, .lp 6 0), (7, .i .i64 (chE (chS o k (Q0 (d.get k).b)))), (8, .b (chS o k (Q0 (d.get k).b)).isSome), (14, .i .i64 (k + 1))] [(3, whZ), (6, chL (chS o k (Q0 (d.get k).b)))] T) :
  AW prog q1g R [(0, .ptr did 0), (3, .lp 3 0), (6, .lp 6 0), (7, .i .i64 (chE o)), (8, .b o.isSome), (14, .i .i64 k)] [(3, whZ), (6, chL o)] T := by
 have hRd := qke hd hT k
 have e : d.read k = (bts (d.get k).b none, 0) := by unfold Dk.read; rw [if_neg hk.v, if_neg (by rw [hl]; decide)]
 rw [e] at hRd
 have hbl : (d.get k).b.length <= 1048576 := by
  have h1 := hd.r1
  have h2 := hd.fits
  rcases hk with rfl | rfl
  ·show d.a0.b.length <= _; omega
  ·show d.a1.b.length <= _; omega
 obtain ⟨x, er, hRr⟩ := qoz (d.get k).b none (by omega)
 have dk : decide (k < 2) = true := decide_eq_true (by rcases hk with rfl | rfl <;> decide)
 have wk : IntKind.i64.wrap (k + 1) = k + 1 := K8 (by unfold I64; rcases hk with rfl | rfl <;> decide)
 have hcl := qkn o
 have hct : (chL o).take 4 = chL o := List.take_of_length_le (by omega)
 refine N6 (l := q1g) rfl hR ?_
 unfold q2b
 rcases hrd : Q0 (d.get k).b with _ | w
 ·rw [hrd] at hRr h2
  simp only [chS] at hRr h2
  generalize (d.get k).b = B at *
  generalize chL o = CL at *
  simp -implicitDefEqProofs -dsimp only [go_sem, seval, dk, ↓J2 _ _ Q9]
  refine can hRd ?_
  simp -implicitDefEqProofs -dsimp only [go_sem, seval, bts, decide_true, Bool.not_true, whZ, ↓J2 _ _ q4w]
  refine cpn hRr ?_
  simp -implicitDefEqProofs -dsimp only [go_sem, seval, q7p, q2w, whZ, wk, ↓q1m, q31, true_and]
  exact h2
 ·rw [hrd] at hRr h2
  simp only at hRr
  generalize (d.get k).b = B at *
  rcases o with _ | ⟨j, v⟩
  ·simp only [chS, chL, chE, Option.isSome_none, Option.isSome_some] at h2 ⊢
   simp -implicitDefEqProofs -dsimp only [go_sem, seval, dk, ↓J2 _ _ Q9]
   refine can hRd ?_
   simp -implicitDefEqProofs -dsimp only [go_sem, seval, bts, decide_true, Bool.not_true, whZ, ↓J2 _ _ q4w]
   refine cpn hRr ?_
   simp -implicitDefEqProofs -dsimp only [go_sem, seval, q7p, whC, whZ, wk, Bool.not_false, ↓q1m, q31, true_and]
   exact h2
  ·by_cases hg : v.g < w.g
   ·have dg : decide ((v.g : Int) < (w.g : Int)) = true := decide_eq_true (by omega)
    simp only [chS, if_pos hg, chL, chE, Option.isSome_some] at h2 ⊢
    simp -implicitDefEqProofs -dsimp only [go_sem, seval, dk, ↓J2 _ _ Q9]
    refine can hRd ?_
    simp -implicitDefEqProofs -dsimp only [go_sem, seval, bts, decide_true, Bool.not_true, whZ, ↓J2 _ _ q4w]
    refine cpn hRr ?_
    simp -implicitDefEqProofs -dsimp only [go_sem, seval, q7p, whC, whZ, wk, dg, Bool.not_true, ↓q1m, q31, true_and]
    exact h2
   ·have dg : decide ((v.g : Int) < (w.g : Int)) = false := decide_eq_false (by omega)
    simp only [chS, if_neg hg, chL, chE, Option.isSome_some] at h2 ⊢
    simp -implicitDefEqProofs -dsimp only [go_sem, seval, dk, ↓J2 _ _ Q9]
    refine can hRd ?_
    simp -implicitDefEqProofs -dsimp only [go_sem, seval, bts, decide_true, Bool.not_true, whZ, ↓J2 _ _ q4w]
    refine cpn hRr ?_
    simp -implicitDefEqProofs -dsimp only [go_sem, seval, q7p, whC, whZ, wk, dg, Bool.not_true, ↓q1m, q31, true_and]
    exact h2
theorem qko {T : Tab} {did : Nat} {d : Dk} (hd : d.Ok) (hT : At T did d) (hl : d.lost = false) : ACalls prog q1z [.ptr did 0] T (fun v T' => v = .tup [.i .i64 (chE (U2 d)), .agg (chL (U2 d)), .b (U2 d).isSome, .i .i64 0] /\ T' = T) := by
 refine K1 O5 qdc (by simp) ?_
 have hlen := qkn (U2 d)
 have ht : (chL (U2 d)).take 4 = chL (U2 d) := List.take_of_length_le (by omega)
 have hdr : (chL (U2 d)).drop 4 = [] := List.drop_of_length_le (by omega)
 have key := fun (R : Z1) (hR : ExtR R) => qdo (R := R) hR hd hT hl 0 (.inl rfl) none
 have key2 := fun (R : Z1) (hR : ExtR R) => qdo (R := R) hR hd hT hl 1 (.inr rfl) (chS none 0 (Q0 (d.get 0).b))
 rw [qkm] at key2
 unfold q81
 simp -implicitDefEqProofs -dsimp only [go_sem, seval]
 refine key _ (by repeat' (first | exact N3 _ _ | assumption | apply N2 | apply K3 | apply V2)) (key2 _ (by repeat' (first | exact N3 _ _ | assumption | apply N2 | apply K3 | apply V2)) ?_)
 generalize U2 d = o at *
 generalize chL o = CL at *
 refine q27 (by repeat' (first | exact N3 _ _ | assumption | apply N2 | apply K3 | apply V2)) ?_
 unfold q2b
 simp -implicitDefEqProofs -dsimp only [go_sem, seval, show decide ((1 : Int) + 1 < 2) = false from rfl, whZ, hlen, ht, hdr]
 exact q19 _ (fun _ => .inr (.inl rfl)) ⟨rfl, rfl⟩
end Go.Aw
