import Derived.Test.YtpbnmegmhhkloaaDoorW6H
namespace Go.Aw
open Go
open Go.Proofs.Tryd (prog)
set_option linter.all false
set_option maxHeartbeats 8000000
set_option maxRecDepth 8000
theorem qku {d : Dk} (h : d.Ok) (k : Int) : (d.get k).Ok := by unfold Dk.get; split; exact h.o0; exact h.o1
theorem qf1 {d d' : Dk} (h : Dw d) (hd' : d'.Ok) (hw : WrC d d') {k : Int} {a : Ar} (ha : a.Ok) (hs : (a.b.length : Int) <= d.free + (d.get k).b.length) : Dw (d'.set k a) := by
 obtain ⟨p1, p2, p3, p4, p5, p6⟩ := hd'
 have hl := h.left
 have hl' := hw.left
 have hr := hw.room
 have e0 := hw.a0
 have e1 := hw.a1
 have hfr : d.free = d.room - d.a0.b.length - d.a1.b.length := rfl
 unfold Dk.set
 unfold Dk.get at hs
 by_cases hk : k = 0
 ·rw [if_pos hk] at hs ⊢
  refine ⟨⟨p1, p2, ?_, ha, p5, p6⟩, by simp only; omega⟩
  simp only [e1, hr]
  omega
 ·rw [if_neg hk] at hs ⊢
  refine ⟨⟨p1, p2, ?_, p4, ha, p6⟩, by simp only; omega⟩
  simp only [e0, hr]
  omega
theorem Dw.wr {d d' : Dk} (h : Dw d) (hd' : d'.Ok) (hw : WrC d d') : Dw d' := ⟨hd', by have := hw.left; have := h.left; omega⟩
theorem q4z {d : Dk} (h : Dw d) (k : Int) (b : List UInt8) : Dw (d.append k b).2 := by
 obtain ⟨d', hd', hw, hwr⟩ := q10 d h.ok
 have hg := qku h.ok k
 unfold Dk.append
 split
 ·exact h
 ·split
  ·exact h
  ·have key : Dw (d'.set k ⟨(d.get k).b ++ b, none, (d.get k).su⟩) := by
    refine qf1 h hd' hw ⟨hg.s0, ?_⟩ ?_
    ·have := hg.s1; simp only [List.length_append]; omega
    ·simp only [List.length_append]; omega
   rcases hwr with e | e | e <;> rw [e] <;> simp only
   ·rw [if_neg (by simp)]; exact h.wr hd' hw
   ·rw [if_pos (by simp)]; exact key
   ·rw [if_pos (by simp)]; exact key
theorem qfz {d : Dk} (h : Dw d) (k : Int) : Dw (d.sync k).2 := by
 obtain ⟨d', hd', hw, hwr⟩ := q10 d h.ok
 have hg := qku h.ok k
 have hf := h.ok.fits
 have hfr : d.free = d.room - d.a0.b.length - d.a1.b.length := rfl
 unfold Dk.sync
 split
 ·exact h
 ·have key : Dw (d'.set k ⟨(d.get k).b, (d.get k).c, (d.get k).b.length⟩) := qf1 h hd' hw ⟨by simp only; omega, by simp only; omega⟩ (by simp only; omega)
  rcases hwr with e | e | e <;> rw [e] <;> simp only
  ·rw [if_neg (by simp)]; exact h.wr hd' hw
  ·rw [if_neg (by simp)]; exact h.wr hd' hw
  ·rw [if_pos (by simp)]; exact key
theorem qp2 {d : Dk} (h : Dw d) (k n : Int) : Dw (d.cut k n).2 := by
 obtain ⟨d', hd', hw, hwr⟩ := q10 d h.ok
 have hg := qku h.ok k
 have hf := h.ok.fits
 have hfr : d.free = d.room - d.a0.b.length - d.a1.b.length := rfl
 unfold Dk.cut
 split
 ·exact h
 ·split
  ·exact h
  ·have key : Dw (d'.set k ⟨(d.get k).b.take n.toNat, none, n⟩) := by
    refine qf1 h hd' hw ⟨by simp only; omega, ?_⟩ ?_
    ·simp only [List.length_take]; omega
    ·simp only [List.length_take]; omega
   rcases hwr with e | e | e <;> rw [e] <;> simp only
   ·rw [if_neg (by simp)]; exact h.wr hd' hw
   ·rw [if_neg (by simp)]; exact h.wr hd' hw
   ·rw [if_pos (by simp)]; exact key
theorem qp3 {d : Dk} (h : Dw d) {n : Int} (hn : I64 n) : Dw (d.arm n) := by
 obtain ⟨⟨p1, p2, p3, p4, p5, p6⟩, h2⟩ := h
 unfold I64 at hn
 exact ⟨⟨p1, p2, p3, p4, p5, by simp only [Dk.arm]; omega⟩, by simp only [Dk.arm]; omega⟩
theorem q4i {d : Dk} (h : Dw d) (k : Int) : Dw (q0a d k).2 := by
 unfold q0a
 split
 ·exact h
 split
 ·exact h
 ·exact qp2 h k 0
theorem qf2 {d : Dk} (h : Dw d) (k : Int) (b : Bs) : Dw (q9v d k b).2 := by
 unfold q9v
 split
 ·exact qfz (q4z h k b) k
 ·exact q4z h k b
theorem qp4 {d : Dk} (h : Dw d) (w : Wl) (p : Bs) : Dw (qft d w p).2.1 := by
 unfold qft
 split
 ·exact h
 split
 ·exact h
 ·exact q4z h _ _
theorem qkv {d : Dk} (h : Dw d) (w : Wl) : Dw (q71 d w).2.1 := by
 unfold q71
 split
 ·exact h
 ·exact qfz h _
theorem qmr {d : Dk} (h : Dw d) (w : Wl) (rs : List Bs) : Dw (q3q d w rs).2.1 := by
 unfold q3q
 simp only
 split
 ·exact q4i h _
 split
 ·exact qf2 (q4i h _) _ _
 ·exact q4i (qf2 (q4i h _) _ _) _
theorem qhe {T : Tab} {did lid : Nat} (hne : did ≠ lid) {d : Dk} {w : Wl} (hd : Dw d) (hk : Kk w.k) (hw : w.dead = false) (hg : w.g < 1000000) (rs : List Bs) (cap : Option Nat) (hl : rs.length <= 1000) (hx : ∀ r ∈ rs, okF r) (hf : (G1 rs).length <= 100000000) :
  ACalls prog I4 [.ptr lid 0, .fz rs.length (btL rs) cap] (tL T did lid d w) (fun v T' => v = .i .i64 (q3q d w rs).1 /\ T' = tL T did lid (q3q d w rs).2.1 (q3q d w rs).2.2) := by
 refine K1 O5 q7f (by simp) ?_
 have hT := qaj (T := T) (did := did) (lid := lid) d w
 have hM := qkq (T := T) (did := did) (lid := lid) (d := d) (w := w)
 rw [hw] at hM
 simp only [Bool.false_eq_true, if_false] at hM
 have hF := qkt rs cap hl hx
 have hC := q74 (T := T) hne (w := w) hd hk.oth
 have hd1 := q4i hd (1 - w.k)
 have dg : decide ((w.g : Int) = 18446744073709551615) = false := decide_eq_false (by omega)
 have wk : IntKind.i64.wrap (1 - w.k) = 1 - w.k := K8 (by unfold I64; rcases hk with h | h <;> rw [h] <;> decide)
 have wk2 : IntKind.i64.wrap (1 - (1 - w.k)) = w.k := (K8 (by unfold I64; rcases hk with h | h <;> rw [h] <;> decide)).trans (by omega)
 have wg : IntKind.u64.wrap ((w.g : Int) + 1) = ((w.g + 1 : Nat) : Int) := (IntWalk.u64_in _ (by omega)).trans (by omega)
 have hH := qkl (w.g + 1) rs.length (by omega) (by omega)
 have hho := q1u (g := w.g + 1) (n := rs.length) (by omega) (by omega)
 have hP := qfo (N4 (w.g + 1) rs.length) none (by have := hho.2; omega)
 have hok : qjw (N4 (w.g + 1) rs.length) = .tup [bts (frm (N4 (w.g + 1) rs.length)) none, .i .i64 0] := by
  unfold qjw q7m
  rw [decide_eq_true hho.1.1, decide_eq_true hho.1.2]; rfl
 rw [hok] at hP
 have hfl := U5 (N4 (w.g + 1) rs.length)
 have hCc := q4f (frm (N4 (w.g + 1) rs.length)) (G1 rs) none none (by have := hho.2; omega) (by omega)
 unfold q2m q3q
 simp only
 obtain ⟨c, hc⟩ : ∃ c, c = q0a d (1 - w.k) := ⟨_, rfl⟩
 rw [<- hc] at hC hd1 ⊢
 by_cases h1 : c.1 = 0
 case neg =>
  have dz : decide (c.1 = 0) = false := decide_eq_false h1
  rw [if_pos h1]
  generalize btL rs = B at *
  generalize rs.length = N at *
  generalize G1 rs = F at *
  simp only [bts] at hF
  simp -implicitDefEqProofs -dsimp only [go_sem, seval, ↓J2 _ _ V8]
  refine can hM ?_
  simp -implicitDefEqProofs -dsimp only [go_sem, seval, decide_true, Bool.not_true, ↓J2 _ _ q48]
  refine cpn hF ?_
  simp -implicitDefEqProofs -dsimp only [go_sem, seval, decide_true, Bool.not_true, hT, dg, wk, ↓J2 _ _ V1]
  refine can hC ?_
  simp -implicitDefEqProofs -dsimp only [go_sem, seval, dz, Bool.not_false]
  exact K6 (.refl _) rfl
 have dz : decide (c.1 = 0) = true := decide_eq_true h1
 rw [if_neg (fun h => h h1)]
 rw [h1] at hC
 have n0 : q09 0 w = w := by simp [q09]
 rw [n0] at hC
 have hT1 := qaj (T := T) (did := did) (lid := lid) c.2 w
 have hPut := qn8 (T := T) hne (w := w) hd1 (1 - w.k) (frm (N4 (w.g + 1) rs.length) ++ G1 rs) none (by rw [List.length_append]; have := hho.2; omega) (q4z hd1 _ _)
 have hd2 := qf2 hd1 (1 - w.k) (frm (N4 (w.g + 1) rs.length) ++ G1 rs)
 obtain ⟨p, hp⟩ : ∃ p, p = q9v c.2 (1 - w.k) (frm (N4 (w.g + 1) rs.length) ++ G1 rs) := ⟨_, rfl⟩
 rw [<- hp] at hPut hd2 ⊢
 by_cases h2 : p.1 = 0
 case neg =>
  have dz2 : decide (p.1 = 0) = false := decide_eq_false h2
  rw [if_pos h2]
  generalize frm (N4 (w.g + 1) rs.length) ++ G1 rs = FF at *
  generalize frm (N4 (w.g + 1) rs.length) = G at *
  generalize N4 (w.g + 1) rs.length = H at *
  generalize btL rs = B at *
  generalize rs.length = N at *
  generalize G1 rs = F at *
  simp only [bts] at hF hP hCc hPut
  simp -implicitDefEqProofs -dsimp only [go_sem, seval, ↓J2 _ _ V8]
  refine can hM ?_
  simp -implicitDefEqProofs -dsimp only [go_sem, seval, decide_true, Bool.not_true, ↓J2 _ _ q48]
  refine cpn hF ?_
  simp -implicitDefEqProofs -dsimp only [go_sem, seval, decide_true, Bool.not_true, hT, dg, wk, ↓J2 _ _ V1]
  refine can hC ?_
  simp -implicitDefEqProofs -dsimp only [go_sem, seval, dz, decide_true, Bool.not_true, hT1, wg, ↓J2 _ _ q7k]
  refine cpn hH ?_
  simp -implicitDefEqProofs -dsimp only [go_sem, seval, bts, ↓J2 _ _ q0z]
  refine cpn hP ?_
  simp -implicitDefEqProofs -dsimp only [go_sem, seval, ↓J2 _ _ K9]
  refine cpn hCc ?_
  simp -implicitDefEqProofs -dsimp only [go_sem, seval, ↓J2 _ _ q3a]
  refine can hPut ?_
  simp -implicitDefEqProofs -dsimp only [go_sem, seval, dz2, Bool.not_false]
  exact K6 (.refl _) rfl
 have dz2 : decide (p.1 = 0) = true := decide_eq_true h2
 rw [if_neg (fun h => h h2)]
 rw [h2, n0] at hPut
 have hT2 := qaj (T := T) (did := did) (lid := lid) p.2 w
 have hT3 := Tab.put_same (tL T did lid p.2 w) lid (.row 4 [.ptr did 0, .i .i64 (1 - w.k), .i .u64 w.g, .b w.dead])
 have e4 : (tL T did lid p.2 w).put lid (.row 4 [.ptr did 0, .i .i64 (1 - w.k), .i .u64 ((w.g + 1 : Nat) : Int), .b w.dead]) = tL T did lid p.2 ⟨1 - w.k, w.g + 1, w.dead⟩ := qmp p.2 w ⟨1 - w.k, w.g + 1, w.dead⟩
 have hC2 := q74 (T := T) hne (w := ⟨1 - w.k, w.g + 1, w.dead⟩) hd2 hk
 generalize frm (N4 (w.g + 1) rs.length) ++ G1 rs = FF at *
 generalize frm (N4 (w.g + 1) rs.length) = G at *
 generalize N4 (w.g + 1) rs.length = H at *
 generalize btL rs = B at *
 generalize rs.length = N at *
 generalize G1 rs = F at *
 simp only [bts] at hF hP hCc hPut
 simp -implicitDefEqProofs -dsimp only [go_sem, seval, ↓J2 _ _ V8]
 refine can hM ?_
 simp -implicitDefEqProofs -dsimp only [go_sem, seval, decide_true, Bool.not_true, ↓J2 _ _ q48]
 refine cpn hF ?_
 simp -implicitDefEqProofs -dsimp only [go_sem, seval, decide_true, Bool.not_true, hT, dg, wk, ↓J2 _ _ V1]
 refine can hC ?_
 simp -implicitDefEqProofs -dsimp only [go_sem, seval, dz, decide_true, Bool.not_true, hT1, wg, ↓J2 _ _ q7k]
 refine cpn hH ?_
 simp -implicitDefEqProofs -dsimp only [go_sem, seval, bts, ↓J2 _ _ q0z]
 refine cpn hP ?_
 simp -implicitDefEqProofs -dsimp only [go_sem, seval, ↓J2 _ _ K9]
 refine cpn hCc ?_
 simp -implicitDefEqProofs -dsimp only [go_sem, seval, ↓J2 _ _ q3a]
 refine can hPut ?_
 simp -implicitDefEqProofs -dsimp only [go_sem, seval, dz2, decide_true, Bool.not_true, hT2, wg]
 refine O6 hT2 rfl rfl (by simp) (J7 ?_)
 simp -implicitDefEqProofs -dsimp only [go_sem, seval]
 refine O6 hT3 rfl rfl (by simp) (J7 ?_)
 simp -implicitDefEqProofs -dsimp only [go_sem, seval, Tab.put_put, e4, wk2, ↓J2 _ _ V1]
 refine can hC2 ?_
 simp -implicitDefEqProofs -dsimp only [go_sem, seval]
 exact K6 (.refl _) rfl
theorem qsz (p : Bs) (c : Option Nat) (hp : Len p.length) : PCalls prog G3 [bts p c] (bts (p.take 40) none) := by
 refine K7 O5 q6p (by simp) fun T => ?_
 unfold Len at hp
 unfold q24
 by_cases h : 40 < p.length
 ·have d : decide ((40 : Int) < (p.length : Int)) = true := decide_eq_true (by omega)
  have h1 : (0 <= 40 /\ 40 <= p.length) = True := eq_true ⟨by omega, by omega⟩
  have h40 : (40 <= p.length) = True := eq_true (by omega)
  have e : (p.take 40).length = 40 := by rw [List.length_take]; omega
  simp -implicitDefEqProofs -dsimp only [go_sem, seval, bts, d, h1, h40, O1]
  refine K6 ?_ rfl
  rw [e]
  exact .fz
 ·have d : decide ((40 : Int) < (p.length : Int)) = false := decide_eq_false (by omega)
  have e : p.take 40 = p := List.take_of_length_le (by omega)
  rw [e]
  simp -implicitDefEqProofs -dsimp only [go_sem, seval, bts, d]
  exact K6 .fz rfl
end Go.Aw
