import Derived.Test.YteiamcnjlpbihaaL17T16C
namespace Go.Aw
open Go
open Go.Proofs.Try (prog)
set_option linter.all false

/-- What Plain makes of a chain and its truths. -/
def plainF (fu : List Bool) : List Int → Nat → List (Int × Bool)
  | [], _ => []
  | y :: ys, k => (y, (fu[k]?).getD false) :: plainF fu ys (k + 1)
def Cf.plain (c : Cf) : Rf := ⟨c.ep, c.sh, plainF c.fu c.ch 0, c.ln⟩

theorem plainF_length (fu : List Bool) : ∀ (l : List Int) (k : Nat), (plainF fu l k).length = l.length
  | [], _ => rfl
  | _ :: l, k => by simp [plainF, plainF_length fu l (k + 1)]

theorem lp_Plain {R : RPost} (hR : ExtR R) {T : Tab} {c : Cf} {k1 k2 : Option Nat} (hl : c.ch.length < 1000000000) : ∀ (ys : List Int) (k : Nat), c.ch.drop k = ys → k ≤ c.ch.length → ∀ (v : AV) (T1 : Tab) (acc : List (Int × Bool)),
    acc.length = k → Owns T [⟨2, v, k, mem acc⟩] T1 →
    (∀ v T1, Owns T [⟨2, v, c.ch.length, mem (acc ++ plainF c.fu ys k)⟩] T1 →
      R (.exit 0) [(1, .lp 1 0), (2, .lp 2 0), (3, .lp 3 0), (14, .fz c.ch.length (ints c.ch) k1), (15, .i .i64 c.ch.length), (16, .i .i64 c.ch.length), (17, .b false)]
        [(1, c.cells k1 k2), (2, [.i .u64 0, .i .i64 0, .fz 0 [] (some 0), .i .i64 0]), (3, [.i .u64 c.ep, .i .i64 c.sh, v, .i .i64 c.ln])] T1) →
    AW prog sautoirlaw16_Plain_l0 R [(1, .lp 1 0), (2, .lp 2 0), (3, .lp 3 0), (14, .fz c.ch.length (ints c.ch) k1), (15, .i .i64 c.ch.length), (16, .i .i64 k)]
        [(1, c.cells k1 k2), (2, [.i .u64 0, .i .i64 0, .fz 0 [] (some 0), .i .i64 0]), (3, [.i .u64 c.ep, .i .i64 c.sh, v, .i .i64 c.ln])] T1 := by
  intro ys
  induction ys with
  | nil =>
    intro k hk hle v T1 acc hacc how h2
    have hk' := drop_nil hk hle
    refine AW_loopD (l := sautoirlaw16_Plain_l0) rfl hR ?_
    unfold sautoirlaw16_Plain_l0b
    simp -implicitDefEqProofs -dsimp only [go_sem, seval, hk', Int.lt_irrefl]
    have := h2 v T1 (by rw [hk']; simpa [plainF] using how)
    rw [hk'] at this
    exact this
  | cons y ys ih =>
    intro k hk hle v T1 acc hacc how h2
    obtain ⟨hlt, hy, hk'⟩ := drop_lt hk
    obtain ⟨p1, p2, p3, p4, p5, p6⟩ := how.form (List.mem_cons_self ..)
    simp only at p1 p2 p3 p4 p5 p6
    refine AW_loopD (l := sautoirlaw16_Plain_l0) rfl hR ?_
    unfold sautoirlaw16_Plain_l0b
    simp -implicitDefEqProofs -dsimp only [go_sem, seval, Int.ofNat_lt, hlt, Int.natCast_nonneg, Int.toNat_natCast, ints_at, hy, p1, p2, p3, p4, p5, p6, Cf.cells]
    have fin : ∀ (b : Bool), (c.fu[k]?).getD false = b → ∀ K : AV → Tab → Prop, (∀ v' T2, Owns T [⟨2, v', k + 1, mem (acc ++ [(y, b)])⟩] T2 → K v' T2) →
        appStep 2 16 T1 v (.fz 1 [.i .i64 y, .b b] (some 1)) K := fun b hb K hK => by
      refine how.app (m := 1) (news := mem [(y, b)]) (by simp [slCells, mem]) rfl (by simp only; omega) (by simp only; omega) fun v' T2 h' => hK v' T2 ?_
      simpa [mem_append] using h'
    have next : ∀ (b : Bool), (c.fu[k]?).getD false = b → ∀ v' T2, Owns T [⟨2, v', k + 1, mem (acc ++ [(y, b)])⟩] T2 →
        AW prog sautoirlaw16_Plain_l0 R [(1, .lp 1 0), (2, .lp 2 0), (3, .lp 3 0), (14, .fz c.ch.length (ints c.ch) k1), (15, .i .i64 c.ch.length), (16, .i .i64 ((k + 1 : Nat) : Int))]
          [(1, c.cells k1 k2), (2, [.i .u64 0, .i .i64 0, .fz 0 [] (some 0), .i .i64 0]), (3, [.i .u64 c.ep, .i .i64 c.sh, v', .i .i64 c.ln])] T2 := fun b hb v' T2 h' => by
      refine ih (k + 1) hk' hlt v' T2 (acc ++ [(y, b)]) (by simp [hacc]) h' fun v'' T3 h'' => h2 v'' T3 ?_
      simpa [plainF, hb] using h''
    refine br_split (fun h => ?_) (fun h => ?_)
    · have hlt2 := of_decide_eq_true h
      have hb : c.fu[k]? = some c.fu[k] := List.getElem?_eq_getElem hlt2
      simp -implicitDefEqProofs -dsimp only [go_sem, seval, h, Cf.cells, Int.ofNat_lt, hlt2, Int.natCast_nonneg, Int.toNat_natCast, bools_at, hb, p1, p2, p3, p4, p5, p6]
      refine fin c.fu[k] (by simp [hb]) _ fun v' T2 h' => ?_
      refine aft_nil ?_
      obtain ⟨q1, q2, q3, q4, q5, q6⟩ := h'.form (List.mem_cons_self ..)
      simp only at q1 q2 q3 q4 q5 q6
      simp -implicitDefEqProofs -dsimp only [go_sem, seval, q1, q2, q3, q4, q5, q6]
      rw [wrap_succ (by omega)]
      exact next c.fu[k] (by simp [hb]) v' T2 h'
    · have hlt2 := of_decide_eq_false h
      have hb : c.fu[k]? = none := by simp; omega
      simp -implicitDefEqProofs -dsimp only [go_sem, seval, h, p1, p2, p3, p4, p5, p6]
      refine fin false (by simp [hb]) _ fun v' T2 h' => ?_
      refine aft_nil ?_
      obtain ⟨q1, q2, q3, q4, q5, q6⟩ := h'.form (List.mem_cons_self ..)
      simp only at q1 q2 q3 q4 q5 q6
      simp -implicitDefEqProofs -dsimp only [go_sem, seval, q1, q2, q3, q4, q5, q6]
      rw [wrap_succ (by omega)]
      exact next false (by simp [hb]) v' T2 h'

theorem pc_Plain (c : Cf) (k1 k2 : Option Nat) (hl : c.ch.length < 1000000000) : PCalls prog f_sautoirlaw16_Plain [.agg (c.cells k1 k2)] (.agg (c.plain.cells none)) := by
  refine pcalls_of mixed t_sautoirlaw16_Plain (by simp) fun T => ?_
  unfold s_sautoirlaw16_Plain
  simp -implicitDefEqProofs -dsimp only [go_sem, seval, Cf.cells]
  refine lp_Plain (T := T) (c := c) (k1 := k1) (k2 := k2) (by repeat' (first | exact finX_ext _ _ | assumption | apply blkR_ext | apply thenR_ext | apply AW_ext)) hl c.ch 0 rfl (by omega) _ T [] rfl ?_ (fun v1 T1 how => ?_)
  · exact ⟨T, rfl, .nil T 2⟩
  · obtain ⟨p1, p2, p3, p4, p5, p6⟩ := how.form (List.mem_cons_self ..)
    simp only at p1 p2 p3 p4 p5 p6
    simp -implicitDefEqProofs -dsimp only [go_sem, seval, p1, p2, p3, p4, p5, p6]
    refine finL_owns how fun S hS => ?_
    obtain ⟨c1, e1⟩ := hS _ (List.mem_cons_self ..)
    simp only at e1
    simp only [frzt, frzv, List.map_cons, List.map_nil, e1, frz1_i]
    refine Wk.agg ?_
    simp only [Cf.plain, Rf.cells, plainF_length, List.nil_append]
    exact ⟨.refl _, .refl _, .fz, .refl _, trivial⟩
end Go.Aw
