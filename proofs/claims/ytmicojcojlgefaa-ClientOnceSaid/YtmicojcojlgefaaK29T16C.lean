import Derived.Test.YtmicojcojlgefaaAwD
import Derived.Test.YtmicojcojlgefaaK29T16A
namespace Go.Aw
set_option linter.all false
open Go
open Go.Proofs.Try (prog)
set_option linter.unusedSimpArgs false

/-- Members. -/
def mem (l : List (Int × Bool)) : List AV := l.flatMap fun m => [.i .i64 m.1, .b m.2]
theorem mem_cons (m : Int × Bool) (l : List (Int × Bool)) : mem (m :: l) = .i .i64 m.1 :: .b m.2 :: mem l := rfl
theorem mem_append (l m : List (Int × Bool)) : mem (l ++ m) = mem l ++ mem m := by simp [mem]
theorem mem_at {l : List (Int × Bool)} {k : Nat} {m : Int × Bool} (h : l[k]? = some m) : (mem l).drop (k * 2) = .i .i64 m.1 :: .b m.2 :: mem (l.drop (k + 1)) := by
  induction l generalizing k with
  | nil => simp at h
  | cons a l ih =>
    cases k with
    | zero => simp at h; subst h; simp [mem_cons]
    | succ k =>
      simp at h
      rw [mem_cons, Nat.add_mul]
      simpa using ih h

structure Rf where
  ep : Int
  sh : Int
  l : List (Int × Bool)
  ln : Int

def Rf.cells (c : Rf) (k : Option Nat) : List AV := [.i .u64 c.ep, .i .i64 c.sh, .fz c.l.length (mem c.l) k, .i .i64 c.ln]

def rnewF (xs : List (Int × Bool)) (ln : Int) : List (Int × Bool) → Nat → Bool
  | [], _ => true
  | y :: ys, k => !decide (y.1 < 0) && !decide (7 < y.1) && !(!decide (ixI y.1 (xs.map (·.1)) = (k : Int))) && !decide (y.1 = ln) && rnewF xs ln ys (k + 1)

def Rf.right (c : Rf) : Bool :=
  !decide (c.ep = 0) && !decide (c.sh < 0) && !decide (3 < c.sh) && !decide ((c.l.length : Int) = 0) && !decide (8 < (c.l.length : Int)) &&
    !(!((c.l[0]?).getD (0, false)).2) && !decide (c.ln < -1) && !decide (7 < c.ln) && rnewF c.l c.ln c.l 0

end Go.Aw

namespace Go.Aw
open Go
open Go.Proofs.Try (prog)
set_option linter.all false

def ourCh (l : List (Int × Bool)) : List Int := (l.take 10).map (·.1)
def ourFu (l : List (Int × Bool)) : List Bool := (l.take 10).map (·.2)
def Rf.ours (c : Rf) : Cf := ⟨c.ep, c.sh, ourCh c.l, ourFu c.l, c.ln⟩

theorem lp_Ours {R : RPost} (hR : ExtR R) {T : Tab} {c : Rf} {k1 : Option Nat} (hl : Len c.l.length) : ∀ (ys : List (Int × Bool)) (k : Nat), c.l.drop k = ys → k ≤ c.l.length → ∀ (v1 v2 : AV) (T1 : Tab),
    Owns T [⟨1, v1, ((c.l.take k).take 10).length, ints (ourCh (c.l.take k))⟩, ⟨1, v2, ((c.l.take k).take 10).length, bools (ourFu (c.l.take k))⟩] T1 →
    (∀ v1 v2 T1, Owns T [⟨1, v1, (c.l.take 10).length, ints (ourCh c.l)⟩, ⟨1, v2, (c.l.take 10).length, bools (ourFu c.l)⟩] T1 →
      R (.exit 0) [(2, .lp 2 0), (3, .lp 3 0), (14, .fz c.l.length (mem c.l) k1), (15, .i .i64 c.l.length), (16, .i .i64 c.l.length), (17, .b false)]
        [(2, [.i .u64 0, .i .i64 0, .fz 0 [] (some 0), .fz 0 [] (some 0), .i .i64 0]), (3, [.i .u64 c.ep, .i .i64 c.sh, v1, v2, .i .i64 c.ln])] T1) →
    AW prog sautoirlaw16_Ours_l0 R [(2, .lp 2 0), (3, .lp 3 0), (14, .fz c.l.length (mem c.l) k1), (15, .i .i64 c.l.length), (16, .i .i64 k)]
        [(2, [.i .u64 0, .i .i64 0, .fz 0 [] (some 0), .fz 0 [] (some 0), .i .i64 0]), (3, [.i .u64 c.ep, .i .i64 c.sh, v1, v2, .i .i64 c.ln])] T1 := by
  intro ys
  induction ys with
  | nil =>
    intro k hk hle v1 v2 T1 how h2
    have hk' := drop_nil hk hle
    refine AW_loop hR ?_
    unfold sautoirlaw16_Ours_l0b
    have ht : c.l.take k = c.l := List.take_of_length_le (by omega)
    rw [ht] at how
    simp -implicitDefEqProofs -dsimp only [go_sem, seval, hk', Int.lt_irrefl]
    have := h2 v1 v2 T1 how
    rw [hk'] at this
    exact this
  | cons y ys ih =>
    intro k hk hle v1 v2 T1 how h2
    obtain ⟨hlt, hy, hk'⟩ := drop_lt hk
    have hl' := hl
    unfold Len at hl
    obtain ⟨p1, p2, p3, p4, p5, p6⟩ := how.form (List.mem_cons_self ..)
    obtain ⟨q1, q2, q3, q4, q5, q6⟩ := how.form (List.mem_cons_of_mem _ (List.mem_cons_self ..))
    simp only at p1 p2 p3 p4 p5 p6 q1 q2 q3 q4 q5 q6
    refine AW_loopD (l := sautoirlaw16_Ours_l0) rfl hR ?_
    unfold sautoirlaw16_Ours_l0b
    simp -implicitDefEqProofs -dsimp only [go_sem, seval, Int.ofNat_lt, hlt, Int.natCast_nonneg, Int.toNat_natCast, mem_at hy, p1, p2, p3, p4, p5, p6, q1, q2, q3, q4, q5, q6]
    refine br_split (fun h => ?_) (fun h => ?_) <;> simp -implicitDefEqProofs -dsimp only [go_sem, seval, h, p1, p2, p3, p4, p5, p6, q1, q2, q3, q4, q5, q6]
    · have hk10 : k < 10 := by have := of_decide_eq_true h; omega
      have hlen : ((c.l.take k).take 10).length = k := by simp; omega
      have hlen' : ((c.l.take (k + 1)).take 10).length = k + 1 := by simp; omega
      have ht : (c.l.take k).take 10 = c.l.take k := List.take_of_length_le (by simp; omega)
      have ht' : (c.l.take (k + 1)).take 10 = c.l.take k ++ [y] := by rw [List.take_of_length_le (by simp; omega)]; exact take_succ_eq hy
      refine how.app (m := 1) (news := ints [y.1]) (by simp [slCells, ints]) rfl (by simp only [hlen]; omega) (by simp only [hlen]; omega) fun v1' T2 how => aft_nil ?_
      obtain ⟨p1, p2, p3, p4, p5, p6⟩ := how.form (List.mem_cons_self ..)
      simp only at p1 p2 p3 p4 p5 p6
      simp -implicitDefEqProofs -dsimp only [go_sem, seval, p1, p2, p3, p4, p5, p6, q1, q2, q3, q4, q5, q6]
      refine how.swap.app (m := 1) (news := bools [y.2]) (by simp [slCells, bools]) rfl (by simp only [hlen]; omega) (by simp only [hlen]; omega) fun v2' T3 how => aft_nil ?_
      obtain ⟨q1, q2, q3, q4, q5, q6⟩ := how.form (List.mem_cons_self ..)
      simp only at q1 q2 q3 q4 q5 q6
      simp -implicitDefEqProofs -dsimp only [go_sem, seval, p1, p2, p3, p4, p5, p6, q1, q2, q3, q4, q5, q6]
      rw [wrap_succ (by omega)]
      refine ih (k + 1) hk' hlt _ _ _ ?_ h2
      simpa [ourCh, ourFu, ht, ht', hlen, hlen', ints_append, bools_append] using how.swap
    · have hk10 : 10 ≤ k := by have := of_decide_eq_false h; omega
      have e : ∀ j, 10 ≤ j → (c.l.take j).take 10 = c.l.take 10 := fun j hj => by rw [List.take_take, Nat.min_eq_left hj]
      rw [wrap_succ (by omega)]
      refine ih (k + 1) hk' hlt _ _ _ ?_ h2
      simpa [ourCh, ourFu, e k hk10, e (k + 1) (by omega)] using how

theorem Wks.cf {a b c : AV} {n m : Nat} {x y : List AV} {k1 k2 : Option Nat} : Wks [a, b, .fz n x k1, .fz m y k2, c] [a, b, .fz n x none, .fz m y none, c] :=
  ⟨.refl _, .refl _, .fz, .fz, .refl _, trivial⟩

theorem pc_Ours (c : Rf) (k : Option Nat) (hl : Len c.l.length) : PCalls prog f_sautoirlaw16_Ours [.agg (c.cells k)] (.agg (c.ours.cells none none)) := by
  refine pcalls_of mixed t_sautoirlaw16_Ours (by simp) fun T => ?_
  unfold s_sautoirlaw16_Ours
  simp -implicitDefEqProofs -dsimp only [go_sem, seval, Rf.cells]
  refine lp_Ours (T := T) (c := c) (k1 := k) (by repeat' (first | exact finX_ext _ _ | assumption | apply blkR_ext | apply thenR_ext | apply AW_ext)) hl c.l 0 rfl (by omega) _ _ T ?_ (fun v1 v2 T1 how => ?_)
  · exact ⟨T, ⟨T, rfl, .nil T 1⟩, .nil T 1⟩
  · obtain ⟨p1, p2, p3, p4, p5, p6⟩ := how.form (List.mem_cons_self ..)
    obtain ⟨q1, q2, q3, q4, q5, q6⟩ := how.form (List.mem_cons_of_mem _ (List.mem_cons_self ..))
    simp only at p1 p2 p3 p4 p5 p6 q1 q2 q3 q4 q5 q6
    simp -implicitDefEqProofs -dsimp only [go_sem, seval, p1, p2, p3, p4, p5, p6, q1, q2, q3, q4, q5, q6]
    refine finL_owns how fun S hS => ?_
    obtain ⟨c1, e1⟩ := hS _ (List.mem_cons_self ..)
    obtain ⟨c2, e2⟩ := hS _ (List.mem_cons_of_mem _ (List.mem_cons_self ..))
    simp only at e1 e2
    simp only [frzt, frzv, List.map_cons, List.map_nil, e1, e2, frz1_i]
    refine Wk.agg ?_
    have hn : (c.l.take 10).length = (ourCh c.l).length := by simp [ourCh]
    have hn' : (c.l.take 10).length = (ourFu c.l).length := by simp [ourFu]
    rw [hn] at *
    simp only [Rf.ours, Cf.cells]
    rw [hn] at hn'
    rw [← hn']
    exact Wks.cf
end Go.Aw

