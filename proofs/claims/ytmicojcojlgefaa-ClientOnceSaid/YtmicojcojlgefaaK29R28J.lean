import Derived.Test.YtmicojcojlgefaaK29R28I
namespace Go.Aw
open Go
open Go.Proofs.Try (prog)
set_option linter.all false
set_option maxHeartbeats 4000000

theorem celF_length : ∀ (ps : List (AV × AV)) (k : Nat), (celF k ps).length = ps.length * 5
  | [], _ => rfl
  | p :: ps, k => by simp only [celF, List.length_append, celF_length ps (k + 1), List.length_cons]; simp [cel]; omega
theorem celF_at : ∀ (ps : List (AV × AV)) (j i : Nat) {p : AV × AV}, ps[i]? = some p → (celF j ps).drop (i * 5) = cel (j + i) p.1 p.2 ++ celF (j + i + 1) (ps.drop (i + 1))
  | [], _, _, _, h => by simp at h
  | q :: ps, j, 0, p, h => by simp at h; subst h; simp [celF]
  | q :: ps, j, i + 1, p, h => by
    have := celF_at ps (j + 1) i (p := p) (by simpa using h)
    rw [show (i + 1) * 5 = i * 5 + 5 by omega]
    simp only [celF]
    rw [show i * 5 + 5 = (cel j q.1 q.2).length + i * 5 by simp [cel]; omega, List.drop_length_add_append, this, show j + 1 + i = j + (i + 1) by omega, List.drop_succ_cons]

/-- A configuration at the beginning. -/
def cf0 (L k : Nat) : Cf := ⟨(k : Int) + 1, k, chn k L L, alls L, -1⟩
def cfsC (l : List Cf) : List AV := l.flatMap fun c => c.cells none none
def cfs0 (L k : Nat) : List Cf := (List.range k).map (cf0 L)
theorem cfs0_succ (L k : Nat) : cfs0 L (k + 1) = cfs0 L k ++ [cf0 L k] := by simp [cfs0, List.range_succ]
theorem cfsC_append (l m : List Cf) : cfsC (l ++ m) = cfsC l ++ cfsC m := by simp [cfsC]
theorem cfsC_length (l : List Cf) : (cfsC l).length = l.length * 5 := by
  induction l with
  | nil => rfl
  | cons c l ih => simp only [cfsC, List.flatMap_cons, List.length_append, List.length_cons] at *; rw [ih]; simp [Cf.cells]; omega

theorem lp_Confs {R : RPost} (hR : ExtR R) {Tb : Tab} {idC S L : Nat} (hS4 : S ≤ 4) (hL : 1 ≤ L) (hL8 : L ≤ 8) {ps : List (AV × AV)} (hps : ps.length = S) : ∀ (qs : List (AV × AV)) (k : Nat), ps.drop k = qs → k ≤ S → ∀ out T1,
    Owns Tb (⟨5, out, k, cfsC (cfs0 L k)⟩ :: ⟨5, .sl idC 0 S none, S, celF 0 ps⟩ :: owsF L k qs) T1 →
    (∀ out T1, Owns Tb [⟨5, out, S, cfsC (cfs0 L S)⟩, ⟨5, .sl idC 0 S none, S, celF 0 ps⟩] T1 → R (.exit 0) [(3, out), (11, .sl idC 0 S none), (12, .i .i64 S), (13, .i .i64 S), (14, .b false)] [] T1) →
    AW prog order_State_Confs_l0 R [(3, out), (11, .sl idC 0 S none), (12, .i .i64 S), (13, .i .i64 k)] [] T1 := by
  intro qs
  induction qs with
  | nil =>
    intro k hk hle out T1 how h2
    have hk' : S = k := by have := List.drop_eq_nil_iff.1 hk; omega
    subst hk'
    refine AW_loop hR ?_
    unfold order_State_Confs_l0b
    simp -implicitDefEqProofs -dsimp only [go_sem, seval, Int.lt_irrefl]
    exact h2 out T1 how
  | cons q qs ih =>
    intro k hk hle out T1 how h2
    obtain ⟨hlt, hy, hk'⟩ := drop_lt hk
    obtain ⟨p1, p2, p3, p4, p5, p6⟩ := how.form (List.mem_cons_self ..)
    simp only at p1 p2 p3 p4 p5 p6
    obtain ⟨i', e1, e2, _⟩ := how.get (a := ⟨5, .sl idC 0 S none, S, celF 0 ps⟩) (List.mem_cons_of_mem _ (List.mem_cons_self ..)) (by simp only; omega)
    injection e1 with e1
    subst e1
    have hcel := celF_at ps 0 k hy
    rw [Nat.zero_add] at hcel
    simp only at e2
    refine AW_loopD (l := order_State_Confs_l0) rfl hR ?_
    unfold order_State_Confs_l0b
    simp -implicitDefEqProofs -dsimp only [go_sem, seval, Int.ofNat_lt, hps ▸ hlt, Int.natCast_nonneg, Int.toNat_natCast, p1, p2, p3, p4, p5, p6]
    obtain ⟨a1, a2, a3, a4, a5, a6⟩ := how.form (a := ⟨1, q.1, L, ints (chn k L L)⟩) (by simp [owsF])
    obtain ⟨b1, b2, b3, b4, b5, b6⟩ := how.form (a := ⟨1, q.2, L, bools (alls L)⟩) (by simp [owsF])
    simp only at a1 a2 a3 a4 a5 a6 b1 b2 b3 b4 b5 b6
    have hle5 : k * 5 + 5 ≤ (celF 0 ps).length := by rw [celF_length]; omega
    simp -implicitDefEqProofs -dsimp only [go_sem, seval, e2, hcel, cel, hle5, a1, a2, a3, a4, a5, a6, b1, b2, b3, b4, b5, b6, p1, p2, p3, p4, p5, p6, List.cons_append, List.nil_append, ↓g_call _ _ c_order_copied]
    have how2 : Owns Tb (⟨1, q.1, L, ints (chn k L L)⟩ :: ⟨1, q.2, L, bools (alls L)⟩ :: ⟨5, out, k, cfsC (cfs0 L k)⟩ :: ⟨5, .sl idC 0 S none, S, celF 0 ps⟩ :: owsF L (k + 1) qs) T1 :=
      how.perm (by simp only [owsF]; exact (List.perm_append_comm (l₁ := [_, _]) (l₂ := [_, _])).append_right _)
    refine CallK.frz2 (r := .agg ((cf0 L k).cells none none)) how2 hL hL (fun q1 q2 => ?_) (fun T2 how2 => aft_nil ?_)
    · have := pc_ocopied (cf0 L k) q1 q2 (by simp [cf0, chn]; omega) (by simp [cf0, alls]; omega)
      simpa [Cf.cells, cf0, chn_len, alls_len] using this
    have w2 : IntKind.i64.wrap ((k : Int) + 1) = ((k + 1 : Nat) : Int) := wrap_succ (by omega)
    simp -implicitDefEqProofs -dsimp only [go_sem, seval, Cf.cells, p1, p2, p3, p4, p5, p6]
    refine how2.app (m := 1) (news := (cf0 L k).cells none none) (by simp [slCells, Cf.cells]) rfl (by simp only; omega) (by simp only; omega) fun out' T3 how3 => aft_nil ?_
    obtain ⟨p1, p2, p3, p4, p5, p6⟩ := how3.form (List.mem_cons_self ..)
    simp only at p1 p2 p3 p4 p5 p6
    simp -implicitDefEqProofs -dsimp only [go_sem, seval, w2, p1, p2, p3, p4, p5, p6]
    refine ih (k + 1) hk' (by omega) _ _ ?_ h2
    rw [cfs0_succ, cfsC_append]
    simpa [cfsC] using how3

theorem ac_Confs {T0 Tb T1 : Tab} {id S L : Nat} {v : Int} {vC : AV} {ps : List (AV × AV)} (hb : Tb = T0.put id (stR S L v vC)) (hid : T0 id = .unused) (hS : 1 ≤ S) (hS4 : S ≤ 4) (hL : 1 ≤ L) (hL8 : L ≤ 8) (hps : ps.length = S)
    (how : Owns Tb (⟨5, vC, S, celF 0 ps⟩ :: owsF L 0 ps) T1) : ACalls prog f_order_State_Confs [.ptr id 0] T1 (fun r T' => Own T0 5 r S (cfsC (cfs0 L S)) T') := by
  refine acalls_of mixed t_order_State_Confs (by simp) ?_
  obtain ⟨idC, e1, e2, _⟩ := how.get (List.mem_cons_self ..) (by simp only; omega)
  simp only at e1 e2
  subst e1
  have e3 : T1 id = stR S L v (.sl idC 0 S none) := by
    rw [how.base_get (by rw [hb, Tab.put_same]; simp [stR]), hb, Tab.put_same]
  unfold s_order_State_Confs
  simp -implicitDefEqProofs -dsimp only [go_sem, seval, e3, stR]
  refine lp_Confs (Tb := Tb) (ps := ps) (by repeat' (first | exact finX_ext _ _ | assumption | apply blkR_ext | apply thenR_ext | apply AW_ext)) hS4 hL hL8 hps ps 0 rfl (by omega) (.fz 0 [] (some 0)) T1 ?_ (fun out T2 how2 => ?_)
  · exact ⟨T1, how, .nil ..⟩
  obtain ⟨p1, p2, p3, p4, p5, p6⟩ := how2.form (List.mem_cons_self ..)
  simp only at p1 p2 p3 p4 p5 p6
  simp -implicitDefEqProofs -dsimp only [go_sem, seval, p1, p2, p3, p4, p5, p6]
  obtain ⟨T3, ⟨T4, e4, hx, hC⟩, hy, hO⟩ := how2
  have h4 : T4 = Tb := e4
  subst h4
  rcases hC with ⟨_, e, _⟩ | ⟨iC, eC, hiC, h3⟩
  · simp only at e; omega
  rcases hO with ⟨_, e, _⟩ | ⟨iO, eO, hiO, h2⟩
  · simp only at e; omega
  simp only at eO hiO h2 h3 hy
  rw [hb] at hiC
  obtain ⟨n1, u1⟩ := Tab.unused_put hiC
  rw [h3] at hiO
  obtain ⟨n2, u2⟩ := Tab.unused_put hiO
  rw [hb] at u2
  obtain ⟨n3, u3⟩ := Tab.unused_put u2
  refine finL_of (T0.put iO (.row 5 (cfsC (cfs0 L S)))) (fun j => ?_) ⟨hy, .inr ⟨iO, eO, u3, rfl⟩⟩
  rw [h2]
  by_cases j1 : j = iO
  · subst j1; rw [Tab.put_same, Tab.put_same]; exact .refl _
  · rw [Tab.put_ne _ _ j1, Tab.put_ne _ _ j1, h3]
    by_cases j2 : j = iC
    · subst j2; exact .inl u1
    · rw [Tab.put_ne _ _ j2, hb]
      by_cases j3 : j = id
      · subst j3; exact .inl hid
      · rw [Tab.put_ne _ _ j3]; exact .refl _
end Go.Aw

