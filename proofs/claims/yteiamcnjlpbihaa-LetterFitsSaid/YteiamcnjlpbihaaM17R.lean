import Derived.Test.YteiamcnjlpbihaaM17Q
namespace Go.Aw
open Go
open Go.Proofs.Try (prog)
set_option linter.all false
set_option maxHeartbeats 8000000
set_option maxRecDepth 8000

def wS (s : Int) : Nat := if s = 118 then 41700 else if s = 108 then 17000 else 2010
theorem encV_len {v : Vt} (h : VtG v) : (encV v).length ≤ 104 := by
  obtain ⟨q1, q2, q3, q4⟩ := h
  have l1 := enc_len10 (m := v.sl.toNat) (by omega)
  have l2 := enc_len10 (m := v.rd.toNat) (by omega)
  have l3 := enc_len10 (m := v.nd.toNat) (by have := q3; simp only [baOk, Bool.and_eq_true, decide_eq_true_eq] at this; omega)
  have l4 := enc_len10 (m := v.v.length) (by omega)
  simp only [encV, encT, List.length_append]; omega
theorem enS_len {l : Lt Cf} (hr : l.Rng) (s : Int) (hs : s = 115 ∨ s = 101 ∨ s = 110 ∨ s = 109 ∨ s = 111 ∨ s = 102 ∨ s = 98 ∨ s = 118 ∨ s = 99 ∨ s = 108 ∨ s = 120 ∨ s = 105 ∨ s = 116 ∨ s = 113 ∨ s = 114) (hm : maF l s = true) : (enS l s).length ≤ wS s := by
  obtain ⟨r1, r2, r3, r4, r5, r6, r7, r8, r9⟩ := id hr
  rcases hs with rfl | rfl | rfl | rfl | rfl | rfl | rfl | rfl | rfl | rfl | rfl | rfl | rfl | rfl | rfl
  · have h : (decide (0 ≤ l.sh) && decide (l.sh < 4)) = true := hm
    simp only [Bool.and_eq_true, decide_eq_true_eq] at h
    have := enc_len10 (m := l.sh.toNat) (by omega)
    rw [enS_115]; show _ ≤ 2010; omega
  · have := enc_len10 (m := l.ep.toNat) (by omega)
    rw [enS_101]; show _ ≤ 2010; omega
  · have h : shOk l.n = true := hm
    simp only [shOk, Bool.and_eq_true, decide_eq_true_eq] at h
    have := enc_len10 (m := l.n.toNat) (by omega)
    rw [enS_110]; show _ ≤ 2010; omega
  · have h : shOk l.m = true := hm
    simp only [shOk, Bool.and_eq_true, decide_eq_true_eq] at h
    have := enc_len10 (m := l.m.toNat) (by omega)
    rw [enS_109]; show _ ≤ 2010; omega
  · have h : (decide (0 ≤ l.nd) && decide (l.nd < 8)) = true := hm
    simp only [Bool.and_eq_true, decide_eq_true_eq] at h
    have := enc_len10 (m := l.nd.toNat) (by omega)
    rw [enS_111]; show _ ≤ 2010; omega
  · have := enc_len10 (m := if l.fl = true then 1 else 0) (by split <;> omega)
    rw [enS_102]; show _ ≤ 2010; omega
  · have h : baOk l.bn = true := hm
    simp only [baOk, Bool.and_eq_true, decide_eq_true_eq] at h
    have l1 := enc_len10 (m := l.br.toNat) (by omega)
    have l2 := enc_len10 (m := l.bn.toNat) (by omega)
    rw [enS_98, List.length_append]; show _ ≤ 2010; omega
  · obtain ⟨h1, h2⟩ := vts_good (show vtsOk l.vs = true from hm) hr
    have l1 := enc_len10 (m := l.vs.length) (by omega)
    have l2 := flatB_len (g := encV) l.vs (m := 104) fun v hv => encV_len (h2 v hv)
    rw [enS_118, List.length_append]; show _ ≤ 41700; omega
  · obtain ⟨h1, h2⟩ := cfs_good (show cfsOk l.cs = true from hm) hr
    have l1 := enc_len10 (m := l.cs.length) (by omega)
    have l2 := flatB_len (g := encC) l.cs (m := 130) fun v hv => encRf_len (Cf.ok_of (h2 v hv).1 (h2 v hv).2.1)
    rw [enS_99, List.length_append]; show _ ≤ 2010; omega
  · obtain ⟨h1, h2⟩ := ens_good (show ensOk l.es = true from hm) hr
    have l1 := enc_len10 (m := l.es.length) (by omega)
    have l2 := flatB_len (g := encE) l.es (m := 2040) fun v hv => by
      have q := encEn_len (En.good_of (h2 v hv).1 (h2 v hv).2.2)
      have q2 := enc_len10 (m := (encEn v).length) (by omega)
      simp only [encE, encT, List.length_append]; omega
    rw [enS_108, List.length_append]; show _ ≤ 17000; omega
  · have h := encTx_len (good_of_ok (show txOk l.t = true from hm) r5 r6)
    rw [enS_120]; show _ ≤ 2010; omega
  · have h : idOk l.cl l.sq = true := hm
    simp only [idOk, Bool.and_eq_true, decide_eq_true_eq] at h
    have l1 := enc_len10 (m := l.cl.toNat) (by omega)
    have l2 := enc_len10 (m := l.sq.toNat) (by omega)
    rw [enS_105, List.length_append]; show _ ≤ 2010; omega
  · have h : decide ((l.v.length : Int) ≤ 64) = true := hm
    have h := of_decide_eq_true h
    have l1 := enc_len10 (m := l.v.length) (by omega)
    rw [enS_116, encT, List.length_append]; show _ ≤ 2010; omega
  · have := enc_len10 (m := l.q.toNat) (by omega)
    rw [enS_113]; show _ ≤ 2010; omega
  · have h : (decide (0 ≤ l.co) && decide (l.co ≤ 99)) = true := hm
    simp only [Bool.and_eq_true, decide_eq_true_eq] at h
    have := enc_len10 (m := l.co.toNat) (by omega)
    rw [enS_114]; show _ ≤ 2010; omega
def sgB (s : UInt8) : Bool := [115, 101, 110, 109, 111, 102, 98, 118, 99, 108, 120, 105, 116, 113, 114].contains s
theorem sgB_or : ∀ s : UInt8, sgB s = true → ((s.toNat : Int) = 115 ∨ (s.toNat : Int) = 101 ∨ (s.toNat : Int) = 110 ∨ (s.toNat : Int) = 109 ∨ (s.toNat : Int) = 111 ∨ (s.toNat : Int) = 102 ∨ (s.toNat : Int) = 98 ∨ (s.toNat : Int) = 118 ∨ (s.toNat : Int) = 99 ∨ (s.toNat : Int) = 108 ∨ (s.toNat : Int) = 120 ∨ (s.toNat : Int) = 105 ∨ (s.toNat : Int) = 116 ∨ (s.toNat : Int) = 113 ∨ (s.toNat : Int) = 114) := by
  intro s h
  simp only [sgB, List.contains_eq_mem, List.mem_cons, List.not_mem_nil, or_false, decide_eq_true_eq] at h
  rcases h with rfl | rfl | rfl | rfl | rfl | rfl | rfl | rfl | rfl | rfl | rfl | rfl | rfl | rfl | rfl <;> simp
theorem sgn_all (k : Int) : (sgnR k).all sgB = true ∧ ((sgnR k).map fun s => wS s.toNat).sum ≤ 60000 := by
  rcases kinds k with (rfl | rfl | rfl | rfl | rfl | rfl | rfl | rfl | rfl | rfl | rfl | rfl | rfl | rfl | rfl | rfl | rfl | rfl | rfl | rfl | rfl) | h
  any_goals (decide +kernel)
  rw [sgn_no h]
  decide
def encLt (l : Lt Cf) : Bs := enc l.fk.toNat ++ enc l.fn.toNat ++ enc l.tk.toNat ++ enc l.tn.toNat ++ enc l.k.toNat ++ (sgnR l.k).flatMap fun s => enS l s.toNat
theorem lp_Put1 {R : RPost} (hR : ExtR R) {T : Tab} {l : Lt Cf} {bs : Bs} (hl : Len bs.length) (hr : l.Rng) (ht : l.t.Fine) : ∀ (us : Bs) (k : Nat), bs.drop k = us → k ≤ bs.length → us.all sgB = true → (us.all fun s => maF l s.toNat) = true → ∀ (b : Bs) (c : Option Nat), b.length + (us.map fun s => wS s.toNat).sum ≤ 65000 →
    ((b ++ us.flatMap fun s => enS l s.toNat).length ≤ 65000 → ∀ c, R (.exit 2) [(1, .lp 1 0), (4, .s bs), (6, bts (b ++ us.flatMap fun s => enS l s.toNat) c), (45, .i .i64 bs.length), (46, .i .i64 bs.length), (47, .b false)] [(1, l.cells cfC)] T) →
    AW prog letter_Put_l1 R [(1, .lp 1 0), (4, .s bs), (6, bts b c), (45, .i .i64 bs.length), (46, .i .i64 k)] [(1, l.cells cfC)] T := by
  intro us
  induction us with
  | nil =>
    intro k hk hle _ _ b c hb h2
    have hk' := drop_nil hk hle
    refine AW_loop hR ?_
    unfold letter_Put_l1b
    simp -implicitDefEqProofs -dsimp only [go_sem, seval, hk', Int.lt_irrefl]
    rw [hk', List.flatMap_nil, List.append_nil] at h2
    simp only [List.map_nil, List.sum_nil, Nat.add_zero] at hb
    exact h2 hb c
  | cons y us ih =>
    intro k hk hle ha hma b c hb h2
    obtain ⟨hlt, hy, hk'⟩ := drop_lt hk
    unfold Len at hl
    have hs : IntKind.i64.wrap ((k : Int) + 1) = ((k + 1 : Nat) : Int) := wrap_succ (by omega)
    simp only [List.all_cons, Bool.and_eq_true] at ha hma
    simp only [List.map_cons, List.sum_cons] at hb
    have hle2 := enS_len hr y.toNat (sgB_or y ha.1) hma.1
    have pc := pc_lput l b c y.toNat (by omega) hr ht (sgB_or y ha.1) hma.1
    rw [List.flatMap_cons, ← List.append_assoc] at h2
    refine AW_loopD (l := letter_Put_l1) rfl hR ?_
    unfold letter_Put_l1b
    simp -implicitDefEqProofs -dsimp only [go_sem, seval, Int.ofNat_lt, hlt, Int.natCast_nonneg, Int.toNat_natCast, hy, cc_len, cc_take, ↓g_call _ _ c_letter_Letter_put]
    refine CallK.pure pc (aft_nil ?_)
    simp -implicitDefEqProofs -dsimp only [go_sem, seval, hs]
    exact ih (k + 1) hk' hlt ha.2 hma.2 (b ++ enS l y.toNat) none (by rw [List.length_append]; omega) h2
end Go.Aw
