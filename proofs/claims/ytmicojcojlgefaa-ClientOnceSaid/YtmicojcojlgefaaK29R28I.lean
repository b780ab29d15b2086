import Derived.Test.YtmicojcojlgefaaK29R28H
namespace Go.Aw
open Go
open Go.Proofs.Try (prog)
set_option linter.all false
set_option maxHeartbeats 4000000

def chn (k l : Int) (n : Nat) : List Int := (List.range n).map fun (i : Nat) => k * l + (i : Int)
theorem chn_succ (k l : Int) (n : Nat) : chn k l (n + 1) = chn k l n ++ [k * l + n] := by simp [chn, List.range_succ]
theorem chn_len (k l : Int) (n : Nat) : (chn k l n).length = n := by simp [chn]
def alls (n : Nat) : List Bool := List.replicate n true
theorem alls_succ (n : Nat) : alls (n + 1) = alls n ++ [true] := by simp [alls, List.replicate_succ']
theorem alls_len (n : Nat) : (alls n).length = n := by simp [alls]

theorem wrap_kl {k l i : Int} (h1 : 0 ≤ k) (h2 : k ≤ 4) (h3 : 1 ≤ l) (h4 : l ≤ 8) (h5 : 0 ≤ i) (h6 : i ≤ 8) : IntKind.i64.wrap (k * l) = k * l ∧ IntKind.i64.wrap (k * l + i) = k * l + i := by
  have a1 : k * l ≤ 4 * 8 := Int.mul_le_mul h2 h4 (by omega) (by omega)
  have a2 : 0 ≤ k * l := Int.mul_nonneg (by omega) (by omega)
  exact ⟨wrap_i64 (by unfold I64; omega), wrap_i64 (by unfold I64; omega)⟩

theorem lp_New1 {R : RPost} (hR : ExtR R) {T0 : Tab} {id : Nat} {s v k e : Int} {L : Nat} {ows : List Ow} (hk : 0 ≤ k) (hk4 : k ≤ 4) (hL : 1 ≤ L) (hL8 : L ≤ 8) : ∀ (m i : Nat), i + m = L → ∀ v1 v2 T1,
    Owns T0 (⟨1, v1, i, ints (chn k L i)⟩ :: ⟨1, v2, i, bools (alls i)⟩ :: ows) T1 →
    (∀ v1 v2 T1, Owns T0 (⟨1, v1, L, ints (chn k L L)⟩ :: ⟨1, v2, L, bools (alls L)⟩ :: ows) T1 →
      R (.exit 2) [(1, .lp 1 0), (3, .ptr id 0), (4, .i .i64 k), (5, .lp 5 0), (17, .i .i64 s), (18, .i .i64 k), (27, .i .i64 L), (28, .i .i64 L), (29, .b false)] [(1, stC s L v), (5, [.i .u64 e, .i .i64 k, v1, v2, .i .i64 (-1)])] T1) →
    AW prog order_New_l1 R [(1, .lp 1 0), (3, .ptr id 0), (4, .i .i64 k), (5, .lp 5 0), (17, .i .i64 s), (18, .i .i64 k), (27, .i .i64 L), (28, .i .i64 i)] [(1, stC s L v), (5, [.i .u64 e, .i .i64 k, v1, v2, .i .i64 (-1)])] T1 := by
  intro m
  induction m with
  | zero =>
    intro i hi v1 v2 T1 how h2
    have : i = L := by omega
    subst this
    refine AW_loop hR ?_
    unfold order_New_l1b
    simp -implicitDefEqProofs -dsimp only [go_sem, seval, Int.lt_irrefl]
    exact h2 v1 v2 T1 how
  | succ m ih =>
    intro i hi v1 v2 T1 how h2
    have hlt : i < L := by omega
    obtain ⟨p1, p2, p3, p4, p5, p6⟩ := how.form (List.mem_cons_self ..)
    obtain ⟨q1, q2, q3, q4, q5, q6⟩ := how.form (List.mem_cons_of_mem _ (List.mem_cons_self ..))
    simp only at p1 p2 p3 p4 p5 p6 q1 q2 q3 q4 q5 q6
    obtain ⟨w1, w2⟩ := wrap_kl (k := k) (l := (L : Int)) (i := i) hk hk4 (by omega) (by omega) (by omega) (by omega)
    refine AW_loopD (l := order_New_l1) rfl hR ?_
    unfold order_New_l1b
    simp -implicitDefEqProofs -dsimp only [go_sem, seval, Int.ofNat_lt, hlt, stC, w1, w2, p1, p2, p3, p4, p5, p6, q1, q2, q3, q4, q5, q6]
    refine how.app (m := 1) (news := ints [k * L + i]) (by simp [slCells, ints]) rfl (by simp only; omega) (by simp only; omega) fun v1' T2 how => aft_nil ?_
    obtain ⟨p1, p2, p3, p4, p5, p6⟩ := how.form (List.mem_cons_self ..)
    simp only at p1 p2 p3 p4 p5 p6
    simp -implicitDefEqProofs -dsimp only [go_sem, seval, p1, p2, p3, p4, p5, p6, q1, q2, q3, q4, q5, q6]
    refine how.swap.app (m := 1) (news := bools [true]) (by simp [slCells, bools]) rfl (by simp only; omega) (by simp only; omega) fun v2' T3 how => aft_nil ?_
    obtain ⟨q1, q2, q3, q4, q5, q6⟩ := how.form (List.mem_cons_self ..)
    simp only at q1 q2 q3 q4 q5 q6
    simp -implicitDefEqProofs -dsimp only [go_sem, seval, p1, p2, p3, p4, p5, p6, q1, q2, q3, q4, q5, q6]
    rw [wrap_succ (by omega)]
    refine ih (i + 1) (by omega) _ _ _ ?_ h2
    rw [chn_succ, alls_succ, ← ints_append, ← bools_append]
    exact how.swap

/-! The configurations at the beginning. -/
def cel (k : Nat) (v1 v2 : AV) : List AV := [.i .u64 ((k : Int) + 1), .i .i64 k, v1, v2, .i .i64 (-1)]
def owsF (L : Nat) : Nat → List (AV × AV) → List Ow
  | _, [] => []
  | k, p :: ps => ⟨1, p.1, L, ints (chn k L L)⟩ :: ⟨1, p.2, L, bools (alls L)⟩ :: owsF L (k + 1) ps
def celF : Nat → List (AV × AV) → List AV
  | _, [] => []
  | k, p :: ps => cel k p.1 p.2 ++ celF (k + 1) ps
theorem owsF_snoc (L : Nat) (v1 v2 : AV) : ∀ (ps : List (AV × AV)) (k : Nat), owsF L k (ps ++ [(v1, v2)]) = owsF L k ps ++ [⟨1, v1, L, ints (chn ((k + ps.length : Nat) : Int) L L)⟩, ⟨1, v2, L, bools (alls L)⟩]
  | [], k => rfl
  | p :: ps, k => by
    simp only [owsF, List.cons_append]
    rw [owsF_snoc L v1 v2 ps (k + 1), List.length_cons, show k + 1 + ps.length = k + (ps.length + 1) by omega]
theorem celF_snoc (v1 v2 : AV) : ∀ (ps : List (AV × AV)) (k : Nat), celF k (ps ++ [(v1, v2)]) = celF k ps ++ cel (k + ps.length) v1 v2
  | [], k => by simp [celF]
  | p :: ps, k => by
    simp only [celF, List.cons_append]
    rw [celF_snoc v1 v2 ps (k + 1), List.length_cons, show k + 1 + ps.length = k + (ps.length + 1) by omega, List.append_assoc]

def stR (s l v : Int) (vC : AV) : Slot := .row 6 [.i .i64 s, .i .i64 l, .i .i64 v, .i .i64 0, .i .u64 s, vC]

theorem lp_New0 {R : RPost} (hR : ExtR R) {T0 : Tab} {id : Nat} {v : Int} {S L : Nat} (hid : T0 id = .unused) (hS : 1 ≤ S) (hS4 : S ≤ 4) (hL : 1 ≤ L) (hL8 : L ≤ 8) : ∀ (m k : Nat), k + m = S → ∀ vC ps T1, ps.length = k →
    Owns (T0.put id (stR S L v vC)) (⟨5, vC, k, celF 0 ps⟩ :: owsF L 0 ps) T1 →
    (∀ vC ps T1, ps.length = S → Owns (T0.put id (stR S L v vC)) (⟨5, vC, S, celF 0 ps⟩ :: owsF L 0 ps) T1 →
      R (.exit 0) [(1, .lp 1 0), (3, .ptr id 0), (17, .i .i64 S), (18, .i .i64 S), (19, .b false)] [(1, stC S L v)] T1) →
    AW prog order_New_l0 R [(1, .lp 1 0), (3, .ptr id 0), (17, .i .i64 S), (18, .i .i64 k)] [(1, stC S L v)] T1 := by
  intro m
  induction m with
  | zero =>
    intro k hk vC ps T1 hps how h2
    have : k = S := by omega
    subst this
    refine AW_loop hR ?_
    unfold order_New_l0b
    simp -implicitDefEqProofs -dsimp only [go_sem, seval, Int.lt_irrefl]
    exact h2 vC ps T1 hps how
  | succ m ih =>
    intro k hk vC ps T1 hps how h2
    have hlt : k < S := by omega
    have w1 : IntKind.u64.wrap ((k : Int) + 1) = (k : Int) + 1 := IntWalk.u64_in _ (by omega)
    have w2 : IntKind.i64.wrap ((k : Int) + 1) = (k : Int) + 1 := by rw [wrap_succ (by omega)]; simp
    refine AW_loopD (l := order_New_l0) rfl hR ?_
    unfold order_New_l0b
    simp -implicitDefEqProofs -dsimp only [go_sem, seval, Int.ofNat_lt, hlt, stC, w1, w2]
    refine lp_New1 (T0 := T0.put id (stR S L v vC)) (ows := ⟨5, vC, k, celF 0 ps⟩ :: owsF L 0 ps) (by repeat' (first | exact finX_ext _ _ | assumption | apply blkR_ext | apply thenR_ext | apply AW_ext)) (by omega) (by omega) hL hL8 L 0 (by omega) _ _ T1 ?_ (fun v1 v2 T2 how => ?_)
    · exact ⟨T1, ⟨T1, how, .nil ..⟩, .nil ..⟩
    have w0 : T2 id = stR S L v vC := by
      rw [how.base_get (by rw [Tab.put_same]; simp [stR]), Tab.put_same]
    obtain ⟨a1, a2, a3, a4, a5, a6⟩ := how.form (List.mem_cons_self ..)
    obtain ⟨b1, b2, b3, b4, b5, b6⟩ := how.form (List.mem_cons_of_mem _ (List.mem_cons_self ..))
    obtain ⟨c1, c2, c3, c4, c5, c6⟩ := how.form (List.mem_cons_of_mem _ (List.mem_cons_of_mem _ (List.mem_cons_self ..)))
    simp only at a1 a2 a3 a4 a5 a6 b1 b2 b3 b4 b5 b6 c1 c2 c3 c4 c5 c6
    simp -implicitDefEqProofs -dsimp only [go_sem, seval, w0, stR, a1, a2, a3, a4, a5, a6, b1, b2, b3, b4, b5, b6, c1, c2, c3, c4, c5, c6]
    have how' : Owns (T0.put id (stR S L v vC)) (⟨5, vC, k, celF 0 ps⟩ :: ⟨1, v1, L, ints (chn k L L)⟩ :: ⟨1, v2, L, bools (alls L)⟩ :: owsF L 0 ps) T2 := how.perm (by
      refine List.Perm.trans (List.Perm.cons _ (List.Perm.swap _ _ _)) (List.Perm.swap _ _ _))
    refine how'.app (m := 1) (news := cel k v1 v2) (by simp [slCells, cel]) rfl (by simp only; omega) (by simp only; omega) fun vC' T3 how3 => aft_nil ?_
    have w0 : T3 id = stR S L v vC := by
      rw [how3.base_get (by rw [Tab.put_same]; simp [stR]), Tab.put_same]
    obtain ⟨c1, c2, c3, c4, c5, c6⟩ := how3.form (List.mem_cons_self ..)
    simp only at c1 c2 c3 c4 c5 c6
    simp -implicitDefEqProofs -dsimp only [go_sem, seval, w0, stR, c1, c2, c3, c4, c5, c6]
    refine stS_row w0 c3 (by rw [c4]; rfl) (by simp) ?_
    refine aft_nil ?_
    simp -implicitDefEqProofs -dsimp only [go_sem, seval, w0, stR, c1, c2, c3, c4, c5, c6, w2]
    refine ih (k + 1) (by omega) vC' (ps ++ [(v1, v2)]) _ (by simp [hps]) ?_ h2
    have hb := how3.base_put (id := id) (s := stR S L v vC') (by rw [Tab.put_same]; simp [stR])
    rw [Tab.put_put] at hb
    rw [celF_snoc, owsF_snoc, hps, Nat.zero_add]
    refine Owns.perm ?_ hb
    refine List.Perm.cons _ ?_
    exact (List.perm_append_comm (l₁ := [_, _]) (l₂ := owsF L 0 ps))

def NewQ (T0 : Tab) (S L : Nat) (v : Int) (r : AV) (T' : Tab) : Prop := ∃ id vC ps, r = .ptr id 0 ∧ T0 id = .unused ∧ ps.length = S ∧ Owns (T0.put id (stR S L v vC)) (⟨5, vC, S, celF 0 ps⟩ :: owsF L 0 ps) T'

theorem ac_order_New {T0 : Tab} {S L : Nat} {v : Int} (h : sok S L v = true) : ACalls prog f_order_New [.agg (stC S L v)] T0 (NewQ T0 S L v) := by
  refine acalls_of mixed t_order_New (by simp) ?_
  have hh := of_decide_eq_true h
  have w1 : IntKind.u64.wrap (S : Int) = S := IntWalk.u64_in _ (by omega)
  unfold s_order_New
  simp -implicitDefEqProofs -dsimp only [go_sem, seval, stC, ↓g_call _ _ c_order_RightSetup]
  refine CallK.pure (pc_RightSetup S L v) (aft_nil ?_)
  simp -implicitDefEqProofs -dsimp only [go_sem, seval, h, w1]
  refine fun id hid => aft_nil ?_
  simp -implicitDefEqProofs -dsimp only [go_sem, seval]
  refine lp_New0 (T0 := T0) (id := id) (by repeat' (first | exact finX_ext _ _ | assumption | apply blkR_ext | apply thenR_ext | apply AW_ext)) hid (by omega) (by omega) (by omega) (by omega) S 0 (by omega) (.fz 0 [] (some 0)) [] _ rfl ?_ (fun vC ps T1 hps how => ?_)
  · exact ⟨_, rfl, .nil ..⟩
  · simp -implicitDefEqProofs -dsimp only [go_sem, seval]
    exact finL_of T1 (fun _ => .inr (.inl rfl)) ⟨id, vC, ps, rfl, hid, hps, how⟩
end Go.Aw

