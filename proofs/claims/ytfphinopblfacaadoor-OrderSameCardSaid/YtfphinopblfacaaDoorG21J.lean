import Derived.Test.YtfphinopblfacaaDoorG21I
namespace Go.Aw
open Go
open Go.Proofs.Tryd (prog)
set_option linter.all false
set_option maxHeartbeats 4000000

/-! The beginning is good. -/
theorem good0 {S L : Nat} {v : Int} (h : sok S L v = true) : Good (os0 S L v) := by
  have hh := of_decide_eq_true h
  have hS : S ≤ 4 := by omega
  have hSL : S * L ≤ 8 := by
    have : ((S * L : Nat) : Int) = (S : Int) * (L : Int) := by norm_cast
    omega
  have hmem : ∀ k, k < S → ∀ y, y ∈ chn (k : Int) L L → ((k * L : Nat) : Int) ≤ y ∧ y < ((k * L + L : Nat) : Int) := by
    intro k hk y hy
    simp only [chn, List.mem_map, List.mem_range] at hy
    obtain ⟨i, hi, rfl⟩ := hy
    have : ((k * L : Nat) : Int) = (k : Int) * (L : Int) := by norm_cast
    omega
  have hkl : ∀ k, k < S → k * L + L ≤ 8 := fun k hk => by
    have : (k + 1) * L ≤ S * L := Nat.mul_le_mul_right _ hk
    rw [Nat.add_mul] at this; omega
  have hright : ∀ k, k < S → (cf0 L k).right = true := fun k hk => by
    have hk8 := hkl k hk
    refine (right_iff _).2 ⟨by simp only [cf0]; omega, by simp only [cf0]; omega, .inl rfl, by simp only [cf0, chn_len]; omega, by simp only [cf0, chn_len]; omega, by simp only [cf0, chn_len, alls_len], ?_, ?_, fun y hy => ?_⟩
    · simp only [cf0, alls]
      rw [List.getElem?_replicate, if_pos (by omega)]
    · simp only [cf0, chn]
      rw [List.nodup_iff_pairwise_ne, List.pairwise_map]
      exact (List.nodup_range (n := L)).imp fun hab he => hab (by omega)
    · have := hmem k hk y hy
      omega
  have hget : ∀ (k : Nat) c, (os0 S L v).cs[k]? = some c → k < S ∧ c = cf0 L k := by
    intro k c hc
    simp only [os0, cfs0] at hc
    have hlt := (List.getElem?_eq_some_iff.1 hc).1
    simp only [List.length_map, List.length_range] at hlt
    rw [List.getElem?_map, List.getElem?_range hlt] at hc
    injection hc with hc
    exact ⟨hlt, hc.symm⟩
  refine ⟨by simp [os0, cfs0]; omega, by simp only [os0]; omega, by simp only [os0]; omega, fun k c hc => ?_, fun j k c d hc hd hjk => ?_⟩
  · obtain ⟨h1, rfl⟩ := hget k c hc
    exact ⟨hright k h1, rfl, by simp only [cf0]; omega, by simp only [cf0, os0]; omega⟩
  · obtain ⟨h1, rfl⟩ := hget j c hc
    obtain ⟨h2, rfl⟩ := hget k d hd
    refine ⟨by simp only [cf0]; omega, fun y hy => ?_⟩
    have a1 := (has_iff (hright j h1) y).1 hy.1
    have a2 := (has_iff (hright k h2) y).1 hy.2
    simp only [cf0] at a1 a2
    have b1 : y ∈ chn (j : Int) L L := by
      rcases a1.2 with q | q
      · omega
      · exact q
    have b2 : y ∈ chn (k : Int) L L := by
      rcases a2.2 with q | q
      · omega
      · exact q
    have c1 := hmem j h1 y b1
    have c2 := hmem k h2 y b2
    by_cases hlt : j < k
    · have : (j + 1) * L ≤ k * L := Nat.mul_le_mul_right _ hlt
      rw [Nat.add_mul] at this; omega
    · have : (k + 1) * L ≤ j * L := Nat.mul_le_mul_right _ (show k < j by omega)
      rw [Nat.add_mul] at this; omega

theorem do_n (o : Os) (c : Cm) : (o.do c).1.n = o.n ∧ (o.do c).1.s = o.s ∧ (o.do c).1.l = o.l ∧ (o.do c).1.v = o.v := by
  unfold Os.do
  split
  · exact ⟨rfl, rfl, rfl, rfl⟩
  repeat' split
  all_goals exact ⟨rfl, rfl, rfl, rfl⟩
theorem apply_n (o : Os) (val : List UInt8) : (o.apply val).1.n = IntKind.i64.wrap (o.n + 1) ∧ (o.apply val).1.s = o.s ∧ (o.apply val).1.l = o.l ∧ (o.apply val).1.v = o.v := by
  unfold Os.apply
  split
  · exact ⟨rfl, rfl, rfl, rfl⟩
  split
  · exact do_n o.step _
  · exact ⟨rfl, rfl, rfl, rfl⟩
theorem txt_len {cs : List Cf} {c : Cm} (h1 : ∀ c ∈ cs, c.ep < 18446744073709551616) (h2 : c.ep < 18446744073709551616) : (txt cs c).length ≤ 40 := by
  unfold txt
  split
  · simp
  split
  · simp
  split
  · rename_i hok
    refine wr4_len' hok ?_
    unfold txC
    split
    · show epOf cs c.sh < _
      unfold epOf at?
      split
      · rename_i x hx
        split at hx
        · exact h1 _ (List.mem_of_getElem? hx)
        · cases hx
      · decide
    · exact h2
  · simp
where
  wr4_len' {c : Cm} (hok : c.ok = true) (he : c.ep < 18446744073709551616) : (wr4 c).length ≤ 40 := by
    have hh := of_decide_eq_true hok
    have l1 := enc_le10 (n := c.k.toNat) (by omega)
    have l2 := enc_le10 (n := c.sh.toNat) (by omega)
    have l3 := enc_le10 (n := c.ep.toNat) (by omega)
    have l4 := enc_le10 (n := c.nd.toNat) (by omega)
    simp only [wr4, List.length_append]; omega

def cmdsC (l : List Cm) : List AV := l.flatMap Cm.cells
theorem cmdsC_at {l : List Cm} {k : Nat} {c : Cm} (h : l[k]? = some c) : (cmdsC l).drop (k * 4) = c.cells ++ cmdsC (l.drop (k + 1)) := flat_at (f := Cm.cells) (z := 4) (fun _ => rfl) h
theorem cmdsC_len (l : List Cm) : (cmdsC l).length = l.length * 4 := flat_length (f := Cm.cells) (z := 4) (fun _ => rfl) l

/-! Two states in a table. -/
structure Two (T0 T : Tab) (a ia b ib : Nat) (oa ob : Os) : Prop where
  sa : St T a ia oa
  sb : St T b ib ob
  n1 : a ≠ b
  n2 : a ≠ ib
  n3 : ia ≠ b
  n4 : ia ≠ ib
  le : TabLe T0 T
  u : T0 a = .unused ∧ T0 ia = .unused ∧ T0 b = .unused ∧ T0 ib = .unused
theorem Two.setA {T0 T : Tab} {a ia b ib : Nat} {oa ob : Os} (h : Two T0 T a ia b ib oa ob) (o : Os) : Two T0 (oT T a ia o) a ia b ib o ob := by
  refine ⟨oT_st h.sa.ne, ⟨?_, ?_⟩, h.n1, h.n2, h.n3, h.n4, ?_, h.u⟩
  · rw [oT, Tab.put_ne _ _ (Ne.symm h.n3), Tab.put_ne _ _ (Ne.symm h.n1)]; exact h.sb.1
  · rw [oT, Tab.put_ne _ _ (Ne.symm h.n4), Tab.put_ne _ _ (Ne.symm h.n2)]; exact h.sb.2
  · exact (h.le.put h.u.1).put h.u.2.1
theorem Two.setB {T0 T : Tab} {a ia b ib : Nat} {oa ob : Os} (h : Two T0 T a ia b ib oa ob) (o : Os) : Two T0 (oT T b ib o) a ia b ib oa o := by
  refine ⟨⟨?_, ?_⟩, oT_st h.sb.ne, h.n1, h.n2, h.n3, h.n4, ?_, h.u⟩
  · rw [oT, Tab.put_ne _ _ h.n2, Tab.put_ne _ _ h.n1]; exact h.sa.1
  · rw [oT, Tab.put_ne _ _ h.n4, Tab.put_ne _ _ h.n3]; exact h.sa.2
  · exact (h.le.put h.u.2.2.1).put h.u.2.2.2

theorem lp_OSame {R : RPost} (hR : ExtR R) {T0 : Tab} {l : List Cm} {cap : Option Nat} {a ia b ib k : Nat} (hl : Len l.length) (hk : k < 20) (he : ∀ c ∈ l, c.ep < 18446744073709551616) : ∀ (ys : List Cm) (j : Nat), l.drop j = ys → j ≤ l.length → j ≤ 20 → ∀ (T : Tab) (oa ob : Os), Two T0 T a ia b ib oa ob → Good oa → Good ob →
    oa.n = j → ob.n = (min j k : Nat) → (oa.s = ob.s ∧ oa.l = ob.l ∧ oa.v = ob.v) → (j ≤ k → ob = oa) →
    (∀ (T : Tab) (oa ob : Os) tail L, Two T0 T a ia b ib oa ob → Good oa → oa.n = (min l.length 20 : Nat) → ob.n = (min (min l.length 20) k : Nat) → (oa.s = ob.s ∧ oa.l = ob.l ∧ oa.v = ob.v) → (min l.length 20 ≤ k → ob = oa) →
      R (.exit 0) ((1, .fz l.length (cmdsC l) cap) :: (7, .ptr a 0) :: (8, .ptr b 0) :: (9, .i .i64 k) :: tail) L T) →
    AW prog sautoirlaw21_OrderSame_l0 R [(1, .fz l.length (cmdsC l) cap), (7, .ptr a 0), (8, .ptr b 0), (9, .i .i64 k), (36, .fz l.length (cmdsC l) cap), (37, .i .i64 l.length), (38, .i .i64 j)] [] T := by
  unfold Len at hl
  intro ys
  induction ys with
  | nil =>
    intro j hj hle h20 T oa ob hT ga gb na nb hse heq h2
    have hj' := drop_nil hj hle
    refine AW_loop hR ?_
    unfold sautoirlaw21_OrderSame_l0b
    simp -implicitDefEqProofs -dsimp only [go_sem, Nat.reduceEqDiff, Nat.reduceAdd, Nat.reduceMul, Nat.reduceSub, Nat.reduceLT, Nat.reduceLeDiff, Nat.reduceBEq, reduceIte, reduceCtorEq, Int.reduceLT, Int.reduceLE, Int.reduceEq, Int.reduceNeg, Int.reduceToNat, Int.reduceAdd, Int.reduceSub, hj', Int.lt_irrefl]
    have e : min l.length 20 = j := by omega
    have := h2 T oa ob [(36, .fz j (cmdsC l) cap), (37, .i .i64 j), (38, .i .i64 j), (39, .b false)] [] hT ga (by rw [e]; exact na) (by rw [e]; exact nb) hse (by rw [e]; exact heq)
    rw [hj'] at this
    exact this
  | cons y ys ih =>
    intro j hj hle h20 T oa ob hT ga gb na nb hse heq h2
    obtain ⟨hlt, hy, hj'⟩ := drop_lt hj
    have hws : IntKind.i64.wrap ((j : Int) + 1) = ((j + 1 : Nat) : Int) := wrap_succ (by omega)
    have hcell := cmdsC_at hy
    have hlen : j * 4 + 4 ≤ (cmdsC l).length := by rw [cmdsC_len]; omega
    refine AW_loopD (l := sautoirlaw21_OrderSame_l0) rfl hR ?_
    unfold sautoirlaw21_OrderSame_l0b
    by_cases h20' : j = 20
    · have d : decide ((20 : Int) ≤ j) = true := decide_eq_true (by omega)
      simp -implicitDefEqProofs -dsimp only [go_sem, Nat.reduceEqDiff, Nat.reduceAdd, Nat.reduceMul, Nat.reduceSub, Nat.reduceLT, Nat.reduceLeDiff, Nat.reduceBEq, reduceIte, reduceCtorEq, Int.reduceLT, Int.reduceLE, Int.reduceEq, Int.reduceNeg, Int.reduceToNat, Int.reduceAdd, Int.reduceSub, Int.ofNat_lt, hlt, Int.natCast_nonneg, Int.toNat_natCast, hlen, hcell, Cm.cells, List.cons_append, List.nil_append, d]
      have e : min l.length 20 = j := by omega
      exact h2 T oa ob _ _ hT ga (by rw [e]; exact na) (by rw [e]; exact nb) hse (by rw [e]; exact heq)
    have d : decide ((20 : Int) ≤ j) = false := decide_eq_false (by omega)
    obtain ⟨s1, s2, s3, s4, s5⟩ := ga.small
    obtain ⟨u1, u2, u3, u4, u5⟩ := gb.small
    have hey := he y (List.mem_of_getElem? hy)
    have cT := ac_Text hT.sa s1 s2 y hey
    have hvl := txt_len (cs := oa.cs) (c := y) s2 hey
    have cA := ac_oApply hT.sa s3 s1 (txt oa.cs y) (by omega)
    have hTA := hT.setA (oa.apply (txt oa.cs y)).1
    have cB := ac_oApply hTA.sb u3 u1 (txt oa.cs y) (by omega)
    have hTB := hTA.setB (ob.apply (txt oa.cs y)).1
    have gA := (good_apply ga (txt oa.cs y)).1
    have gB := (good_apply gb (txt oa.cs y)).1
    obtain ⟨a1, a2, a3, a4⟩ := apply_n oa (txt oa.cs y)
    obtain ⟨b1, b2, b3, b4⟩ := apply_n ob (txt oa.cs y)
    simp only [Cm.cells] at cT
    simp -implicitDefEqProofs -dsimp only [go_sem, Nat.reduceEqDiff, Nat.reduceAdd, Nat.reduceMul, Nat.reduceSub, Nat.reduceLT, Nat.reduceLeDiff, Nat.reduceBEq, reduceIte, reduceCtorEq, Int.reduceLT, Int.reduceLE, Int.reduceEq, Int.reduceNeg, Int.reduceToNat, Int.reduceAdd, Int.reduceSub, Int.ofNat_lt, hlt, Int.natCast_nonneg, Int.toNat_natCast, hlen, hcell, Cm.cells, List.cons_append, List.nil_append, d, ↓g_call _ _ c_sautoirlaw21_Text]
    refine CallK.as cT (aft_nil ?_)
    simp -implicitDefEqProofs -dsimp only [go_sem, Nat.reduceEqDiff, Nat.reduceAdd, Nat.reduceMul, Nat.reduceSub, Nat.reduceLT, Nat.reduceLeDiff, Nat.reduceBEq, reduceIte, reduceCtorEq, Int.reduceLT, Int.reduceLE, Int.reduceEq, Int.reduceNeg, Int.reduceToNat, Int.reduceAdd, Int.reduceSub, ↓g_call _ _ c_order_State_Apply]
    refine CallK.as cA (aft_nil ?_)
    have na' : (oa.apply (txt oa.cs y)).1.n = ((j + 1 : Nat) : Int) := by rw [a1, na]; exact hws
    by_cases hjk : j < k
    · have d2 : decide ((j : Int) < k) = true := decide_eq_true (by omega)
      have eo := heq (by omega)
      subst eo
      simp -implicitDefEqProofs -dsimp only [go_sem, Nat.reduceEqDiff, Nat.reduceAdd, Nat.reduceMul, Nat.reduceSub, Nat.reduceLT, Nat.reduceLeDiff, Nat.reduceBEq, reduceIte, reduceCtorEq, Int.reduceLT, Int.reduceLE, Int.reduceEq, Int.reduceNeg, Int.reduceToNat, Int.reduceAdd, Int.reduceSub, d2, ↓g_call _ _ c_order_State_Apply]
      refine CallK.as cB (aft_nil ?_)
      simp -implicitDefEqProofs -dsimp only [go_sem, Nat.reduceEqDiff, Nat.reduceAdd, Nat.reduceMul, Nat.reduceSub, Nat.reduceLT, Nat.reduceLeDiff, Nat.reduceBEq, reduceIte, reduceCtorEq, Int.reduceLT, Int.reduceLE, Int.reduceEq, Int.reduceNeg, Int.reduceToNat, Int.reduceAdd, Int.reduceSub, hws]
      exact ih (j + 1) hj' hlt (by omega) _ _ _ hTB gA gB na' (by rw [na']; congr 1; omega) ⟨rfl, rfl, rfl⟩ (fun _ => rfl) h2
    · have d2 : decide ((j : Int) < k) = false := decide_eq_false (by omega)
      simp -implicitDefEqProofs -dsimp only [go_sem, Nat.reduceEqDiff, Nat.reduceAdd, Nat.reduceMul, Nat.reduceSub, Nat.reduceLT, Nat.reduceLeDiff, Nat.reduceBEq, reduceIte, reduceCtorEq, Int.reduceLT, Int.reduceLE, Int.reduceEq, Int.reduceNeg, Int.reduceToNat, Int.reduceAdd, Int.reduceSub, d2, hws]
      exact ih (j + 1) hj' hlt (by omega) _ _ _ hTA gA gb na' (by rw [nb]; congr 1; omega) ⟨by rw [a2]; exact hse.1, by rw [a3]; exact hse.2.1, by rw [a4]; exact hse.2.2⟩ (fun h => by omega) h2

theorem sok_nat {s l v : Int} (h : sok s l v = true) : ∃ S L : Nat, s = S ∧ l = L := by
  have hh := of_decide_eq_true h
  exact ⟨s.toNat, l.toNat, by omega, by omega⟩
theorem pc_OrderSame (s l0 v : Int) (l : List Cm) (cap : Option Nat) (n : Nat) (hl : Len l.length) (hn : n < 256) (he : ∀ c ∈ l, c.ep < 18446744073709551616) : PCalls prog f_sautoirlaw21_OrderSame [.agg (stC s l0 v), .fz l.length (cmdsC l) cap, .i .u8 n] (.b true) := by
  refine pcalls_of mixed t_sautoirlaw21_OrderSame (by simp) fun T => ?_
  have cS := pc_Setup s l0 v
  have cRS := pc_refSetup s l0 v
  simp only [stC] at cS cRS
  unfold s_sautoirlaw21_OrderSame
  simp -implicitDefEqProofs -dsimp only [go_sem, Nat.reduceEqDiff, Nat.reduceAdd, Nat.reduceMul, Nat.reduceSub, Nat.reduceLT, Nat.reduceLeDiff, Nat.reduceBEq, reduceIte, reduceCtorEq, Int.reduceLT, Int.reduceLE, Int.reduceEq, Int.reduceNeg, Int.reduceToNat, Int.reduceAdd, Int.reduceSub, stC, ↓g_call _ _ c_sautoirlaw21_Setup]
  refine CallK.pure cS (aft_nil ?_)
  rcases hok : sok s l0 v with _ | _
  · have cN := pc_oNew0 hok
    simp only [stC] at cN
    simp -implicitDefEqProofs -dsimp only [go_sem, Nat.reduceEqDiff, Nat.reduceAdd, Nat.reduceMul, Nat.reduceSub, Nat.reduceLT, Nat.reduceLeDiff, Nat.reduceBEq, reduceIte, reduceCtorEq, Int.reduceLT, Int.reduceLE, Int.reduceEq, Int.reduceNeg, Int.reduceToNat, Int.reduceAdd, Int.reduceSub, ↓g_call _ _ c_order_New]
    refine CallK.pure cN (aft_nil ?_)
    simp -implicitDefEqProofs -dsimp only [go_sem, Nat.reduceEqDiff, Nat.reduceAdd, Nat.reduceMul, Nat.reduceSub, Nat.reduceLT, Nat.reduceLeDiff, Nat.reduceBEq, reduceIte, reduceCtorEq, Int.reduceLT, Int.reduceLE, Int.reduceEq, Int.reduceNeg, Int.reduceToNat, Int.reduceAdd, Int.reduceSub, ↓g_call _ _ c_sautoirlaw21_Setup]
    refine CallK.pure cS (aft_nil ?_)
    simp -implicitDefEqProofs -dsimp only [go_sem, Nat.reduceEqDiff, Nat.reduceAdd, Nat.reduceMul, Nat.reduceSub, Nat.reduceLT, Nat.reduceLeDiff, Nat.reduceBEq, reduceIte, reduceCtorEq, Int.reduceLT, Int.reduceLE, Int.reduceEq, Int.reduceNeg, Int.reduceToNat, Int.reduceAdd, Int.reduceSub, ↓g_call _ _ c_order_New]
    refine CallK.pure cN (aft_nil ?_)
    simp -implicitDefEqProofs -dsimp only [go_sem, Nat.reduceEqDiff, Nat.reduceAdd, Nat.reduceMul, Nat.reduceSub, Nat.reduceLT, Nat.reduceLeDiff, Nat.reduceBEq, reduceIte, reduceCtorEq, Int.reduceLT, Int.reduceLE, Int.reduceEq, Int.reduceNeg, Int.reduceToNat, Int.reduceAdd, Int.reduceSub, ↓g_call _ _ c_sautoirref21_RightSetup]
    refine CallK.pure cRS (aft_nil ?_)
    simp -implicitDefEqProofs -dsimp only [go_sem, Nat.reduceEqDiff, Nat.reduceAdd, Nat.reduceMul, Nat.reduceSub, Nat.reduceLT, Nat.reduceLeDiff, Nat.reduceBEq, reduceIte, reduceCtorEq, Int.reduceLT, Int.reduceLE, Int.reduceEq, Int.reduceNeg, Int.reduceToNat, Int.reduceAdd, Int.reduceSub, hok, Bool.not_false, ↓g_gdc, rcOk, true_and, ↓g_call _ _ c_order_Same]
    refine CallK.pure pc_oSame_nil (aft_nil ?_)
    simp -implicitDefEqProofs -dsimp only [go_sem, Nat.reduceEqDiff, Nat.reduceAdd, Nat.reduceMul, Nat.reduceSub, Nat.reduceLT, Nat.reduceLeDiff, Nat.reduceBEq, reduceIte, reduceCtorEq, Int.reduceLT, Int.reduceLE, Int.reduceEq, Int.reduceNeg, Int.reduceToNat, Int.reduceAdd, Int.reduceSub, ↓g_gdc, rcOk, true_and, ↓g_call _ _ c_sautoirlaw21_awake]
    refine CallK.pure pc_awake21 (aft_nil ?_)
    simp -implicitDefEqProofs -dsimp only [go_sem, Nat.reduceEqDiff, Nat.reduceAdd, Nat.reduceMul, Nat.reduceSub, Nat.reduceLT, Nat.reduceLeDiff, Nat.reduceBEq, reduceIte, reduceCtorEq, Int.reduceLT, Int.reduceLE, Int.reduceEq, Int.reduceNeg, Int.reduceToNat, Int.reduceAdd, Int.reduceSub]
    exact finL_pure rfl
  obtain ⟨S, L, rfl, rfl⟩ := sok_nat hok
  have cN := fun T => ac_oNew (T0 := T) hok
  simp only [stC] at cN
  simp -implicitDefEqProofs -dsimp only [go_sem, Nat.reduceEqDiff, Nat.reduceAdd, Nat.reduceMul, Nat.reduceSub, Nat.reduceLT, Nat.reduceLeDiff, Nat.reduceBEq, reduceIte, reduceCtorEq, Int.reduceLT, Int.reduceLE, Int.reduceEq, Int.reduceNeg, Int.reduceToNat, Int.reduceAdd, Int.reduceSub, ↓g_call _ _ c_order_New]
  refine CallK.of (cN T) (fun r T1 ⟨a, ia, q1, q2, q3, q4, q5⟩ => aft_nil ?_)
  subst q1
  simp -implicitDefEqProofs -dsimp only [go_sem, Nat.reduceEqDiff, Nat.reduceAdd, Nat.reduceMul, Nat.reduceSub, Nat.reduceLT, Nat.reduceLeDiff, Nat.reduceBEq, reduceIte, reduceCtorEq, Int.reduceLT, Int.reduceLE, Int.reduceEq, Int.reduceNeg, Int.reduceToNat, Int.reduceAdd, Int.reduceSub, ↓g_call _ _ c_sautoirlaw21_Setup]
  refine CallK.pure cS (aft_nil ?_)
  simp -implicitDefEqProofs -dsimp only [go_sem, Nat.reduceEqDiff, Nat.reduceAdd, Nat.reduceMul, Nat.reduceSub, Nat.reduceLT, Nat.reduceLeDiff, Nat.reduceBEq, reduceIte, reduceCtorEq, Int.reduceLT, Int.reduceLE, Int.reduceEq, Int.reduceNeg, Int.reduceToNat, Int.reduceAdd, Int.reduceSub, ↓g_call _ _ c_order_New]
  refine CallK.of (cN T1) (fun r T2 ⟨b, ib, r1, r2, r3, r4, r5⟩ => aft_nil ?_)
  subst r1
  have st1 : St T1 a ia (os0 S L v) := by rw [q5]; exact oT_st q4
  have hna : T1 a ≠ .unused := by rw [st1.1]; simp [Os.row]
  have hnia : T1 ia ≠ .unused := by rw [st1.2]; simp
  have m1 : a ≠ b := fun e => hna (e ▸ r2)
  have m2 : a ≠ ib := fun e => hna (e ▸ r3)
  have m3 : ia ≠ b := fun e => hnia (e ▸ r2)
  have m4 : ia ≠ ib := fun e => hnia (e ▸ r3)
  have u1 : T b = .unused := by rw [q5, oT, Tab.put_ne _ _ (Ne.symm m3), Tab.put_ne _ _ (Ne.symm m1)] at r2; exact r2
  have u2 : T ib = .unused := by rw [q5, oT, Tab.put_ne _ _ (Ne.symm m4), Tab.put_ne _ _ (Ne.symm m2)] at r3; exact r3
  have h2 : Two T T2 a ia b ib (os0 S L v) (os0 S L v) := by
    rw [r5]
    refine ⟨⟨?_, ?_⟩, oT_st r4, m1, m2, m3, m4, ?_, q2, q3, u1, u2⟩
    · rw [oT, Tab.put_ne _ _ m2, Tab.put_ne _ _ m1]; exact st1.1
    · rw [oT, Tab.put_ne _ _ m4, Tab.put_ne _ _ m3]; exact st1.2
    · rw [q5, oT, oT]
      exact ((((TabLe.refl T).put q2).put q3).put u1).put u2
  have hg := good0 hok
  have wn : IntKind.i64.wrap (n : Int) = n := wrap_i64 (by unfold I64; omega)
  have wt : (n : Int).tmod 20 = ((n % 20 : Nat) : Int) := by rw [Int.tmod_eq_emod_of_nonneg (Int.natCast_nonneg _)]; norm_cast
  have hk : n % 20 < 20 := Nat.mod_lt _ (by decide)
  simp -implicitDefEqProofs -dsimp only [go_sem, Nat.reduceEqDiff, Nat.reduceAdd, Nat.reduceMul, Nat.reduceSub, Nat.reduceLT, Nat.reduceLeDiff, Nat.reduceBEq, reduceIte, reduceCtorEq, Int.reduceLT, Int.reduceLE, Int.reduceEq, Int.reduceNeg, Int.reduceToNat, Int.reduceAdd, Int.reduceSub, wn, wt]
  generalize n % 20 = k at hk ⊢
  refine lp_OSame (T0 := T) (l := l) (cap := cap) (by repeat' (first | exact finX_ext _ _ | assumption | apply blkR_ext | apply thenR_ext | apply AW_ext)) hl hk he l 0 rfl (Nat.zero_le _) (by omega) T2 _ _ h2 hg hg rfl (by simp [os0]) ⟨rfl, rfl, rfl⟩ (fun _ => rfl) (fun T3 oa ob tail Lx hT ga na nb hse heq => ?_)
  obtain ⟨s1, s2, s3, s4, s5⟩ := ga.small
  have cRefl := ac_oSame_refl hT.sa hT.sa s3 s4
  have em : (if (20 : Int) < (l.length : Int) then (20 : Int) else (l.length : Int)) = ((min l.length 20 : Nat) : Int) := by split <;> omega
  generalize hmm : min l.length 20 = m at na nb heq em
  by_cases hkm : m ≤ k
  · have eo := heq hkm
    subst eo
    have cAB := ac_oSame_refl hT.sa hT.sb s3 s4
    have d : decide ((m : Int) ≤ k) = true := decide_eq_true (by omega)
    simp -implicitDefEqProofs -dsimp only [go_sem, Nat.reduceEqDiff, Nat.reduceAdd, Nat.reduceMul, Nat.reduceSub, Nat.reduceLT, Nat.reduceLeDiff, Nat.reduceBEq, reduceIte, reduceCtorEq, Int.reduceLT, Int.reduceLE, Int.reduceEq, Int.reduceNeg, Int.reduceToNat, Int.reduceAdd, Int.reduceSub, em, ↓g_call _ _ c_order_Same]
    refine CallK.as cAB (aft_nil ?_)
    simp -implicitDefEqProofs -dsimp only [go_sem, Nat.reduceEqDiff, Nat.reduceAdd, Nat.reduceMul, Nat.reduceSub, Nat.reduceLT, Nat.reduceLeDiff, Nat.reduceBEq, reduceIte, reduceCtorEq, Int.reduceLT, Int.reduceLE, Int.reduceEq, Int.reduceNeg, Int.reduceToNat, Int.reduceAdd, Int.reduceSub, d, eqAv, decide_true, eq_self, ↓g_gdc, rcOk, true_and, ↓g_call _ _ c_order_Same]
    refine CallK.as cRefl (aft_nil ?_)
    simp -implicitDefEqProofs -dsimp only [go_sem, Nat.reduceEqDiff, Nat.reduceAdd, Nat.reduceMul, Nat.reduceSub, Nat.reduceLT, Nat.reduceLeDiff, Nat.reduceBEq, reduceIte, reduceCtorEq, Int.reduceLT, Int.reduceLE, Int.reduceEq, Int.reduceNeg, Int.reduceToNat, Int.reduceAdd, Int.reduceSub, ↓g_gdc, rcOk, true_and, ↓g_call _ _ c_sautoirlaw21_awake]
    refine CallK.pure pc_awake21 (aft_nil ?_)
    simp -implicitDefEqProofs -dsimp only [go_sem, Nat.reduceEqDiff, Nat.reduceAdd, Nat.reduceMul, Nat.reduceSub, Nat.reduceLT, Nat.reduceLeDiff, Nat.reduceBEq, reduceIte, reduceCtorEq, Int.reduceLT, Int.reduceLE, Int.reduceEq, Int.reduceNeg, Int.reduceToNat, Int.reduceAdd, Int.reduceSub]
    exact hT.le.fin
  · have cAB := ac_oSame_n hT.sa hT.sb hse (by rw [na, nb]; omega)
    have d : decide ((m : Int) ≤ k) = false := decide_eq_false (by omega)
    simp -implicitDefEqProofs -dsimp only [go_sem, Nat.reduceEqDiff, Nat.reduceAdd, Nat.reduceMul, Nat.reduceSub, Nat.reduceLT, Nat.reduceLeDiff, Nat.reduceBEq, reduceIte, reduceCtorEq, Int.reduceLT, Int.reduceLE, Int.reduceEq, Int.reduceNeg, Int.reduceToNat, Int.reduceAdd, Int.reduceSub, em, ↓g_call _ _ c_order_Same]
    refine CallK.as cAB (aft_nil ?_)
    simp -implicitDefEqProofs -dsimp only [go_sem, Nat.reduceEqDiff, Nat.reduceAdd, Nat.reduceMul, Nat.reduceSub, Nat.reduceLT, Nat.reduceLeDiff, Nat.reduceBEq, reduceIte, reduceCtorEq, Int.reduceLT, Int.reduceLE, Int.reduceEq, Int.reduceNeg, Int.reduceToNat, Int.reduceAdd, Int.reduceSub, d, eqAv, decide_true, eq_self, ↓g_gdc, rcOk, true_and, ↓g_call _ _ c_order_Same]
    refine CallK.as cRefl (aft_nil ?_)
    simp -implicitDefEqProofs -dsimp only [go_sem, Nat.reduceEqDiff, Nat.reduceAdd, Nat.reduceMul, Nat.reduceSub, Nat.reduceLT, Nat.reduceLeDiff, Nat.reduceBEq, reduceIte, reduceCtorEq, Int.reduceLT, Int.reduceLE, Int.reduceEq, Int.reduceNeg, Int.reduceToNat, Int.reduceAdd, Int.reduceSub, ↓g_gdc, rcOk, true_and, ↓g_call _ _ c_sautoirlaw21_awake]
    refine CallK.pure pc_awake21 (aft_nil ?_)
    simp -implicitDefEqProofs -dsimp only [go_sem, Nat.reduceEqDiff, Nat.reduceAdd, Nat.reduceMul, Nat.reduceSub, Nat.reduceLT, Nat.reduceLeDiff, Nat.reduceBEq, reduceIte, reduceCtorEq, Int.reduceLT, Int.reduceLE, Int.reduceEq, Int.reduceNeg, Int.reduceToNat, Int.reduceAdd, Int.reduceSub]
    exact hT.le.fin
end Go.Aw
