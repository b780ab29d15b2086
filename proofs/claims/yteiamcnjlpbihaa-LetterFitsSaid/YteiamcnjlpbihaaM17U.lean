import Derived.Test.YteiamcnjlpbihaaAwMore5
namespace Go.Aw
open Go
open Go.Proofs.Try (prog)
set_option linter.all false
set_option maxHeartbeats 8000000
set_option maxRecDepth 8000

/-! Great letters. -/
def putW (l : Lt Cf) : AV := if lrF l = true then .tup [.fz (frm (encLt l)).length [] none, .i .i64 0] else .tup [.fz 0 [] none, .i .i64 1]
theorem putW_indep (l : Lt Cf) : Indep (putW l) := by
  unfold putW
  split <;>
  · refine Indep.tup fun x hx => ?_
    simp only [List.mem_cons, List.not_mem_nil, or_false] at hx
    rcases hx with rfl | rfl
    · exact Indep.fzl
    · exact Indep.i
theorem pc_lPutW (l : Lt Cf) (hs : l.Small) (ht : l.t.Fine) (hr : l.Rng) : PCalls prog f_letter_Put [.agg l.cc] (putW l) := by
  refine (pc_lPutF l hs ht hr).wkr ?_
  unfold lputR putW
  split
  · exact Wk.tup ⟨Wk.fzl, .refl _, trivial⟩
  · exact Wk.tup ⟨Wk.fzl, .refl _, trivial⟩
def zl (a k : Int) (x y w : AV) : List AV := [.i .i64 a, .i .i64 0, .i .i64 a, .i .i64 0, .i .i64 k, .i .i64 0, .i .u64 0, .i .i64 0, .i .i64 0, .i .i64 0, .b false, .i .u64 0, .i .i64 0, x, y, w, .i .i64 0, .i .u64 0, .b false, .fz 0 [] (some 0), .fz 0 [] (some 0), .i .i64 0, .i .u64 0, .s [], .i .u64 0, .i .i64 0]
section
variable (a k : Int) (x y w v : AV)
theorem zl_len : (zl a k x y w).length = 26 := rfl
theorem zl_take : (zl a k x y w).take 26 = zl a k x y w := rfl
theorem zl_13 : (zl a k x y w)[13]? = some x := rfl
theorem zl_15 : (zl a k x y w)[15]? = some w := rfl
theorem zs_13 : (zl a k x y w).take 13 ++ [v] ++ (zl a k x y w).drop 14 = zl a k v y w := rfl
theorem zs_15 : (zl a k x y w).take 15 ++ [v] ++ (zl a k x y w).drop 16 = zl a k x y v := rfl
end
def promL (N : Nat) (v : Vt) : Lt Cf := ⟨1, 0, 1, 0, 5, 0, 0, 0, 0, 0, false, 0, 0, List.replicate N v, [], [], zT, 0, 0, [], 0, 0⟩
def pushE (t : Tx) : En := ⟨1, 1, t, 0, 0, 0⟩
def pushL (t : Tx) : Lt Cf := ⟨2, 0, 2, 0, 12, 0, 0, 0, 0, 0, false, 0, 0, [], [], List.replicate 8 (pushE t), zT, 0, 0, [], 0, 0⟩
theorem rep_mem {α : Type} {n : Nat} {a b : α} (h : b ∈ List.replicate n a) : b = a := (List.mem_replicate.1 h).2
theorem prom_small {N : Nat} {v : Vt} (hN : N ≤ 500) : (promL N v).Small := ⟨(by show Len (List.replicate N v).length; rw [List.length_replicate]; unfold Len; omega), knowL_small.2, knowL_small.3, knowL_small.4, knowL_small.5, fun _ h => (by cases h), fun _ h => (by cases h)⟩
theorem prom_rng {N : Nat} {v : Vt} (hv : v.Arg) : (promL N v).Rng := ⟨knowL_rng.1, knowL_rng.2, knowL_rng.3, knowL_rng.4, knowL_rng.5, fun _ h => (by cases h), fun x h => (by rw [rep_mem h]; exact hv.rd), fun _ h => (by cases h), fun _ h => (by cases h)⟩
theorem push_small {t : Tx} (ht : t.Fine) : (pushL t).Small := ⟨knowL_small.1, knowL_small.2, (show (8 : Nat) < 9223372036854775808 by decide), knowL_small.4, knowL_small.5, fun _ h => (by cases h), fun x h => (by rw [rep_mem h]; exact ht)⟩
theorem push_rng {t : Tx} (ht : t.Fine) (h1 : t.sq < 18446744073709551616) (h2 : ∀ r ∈ t.rs, 0 ≤ r.n ∧ r.n < 18446744073709551616) : (pushL t).Rng := ⟨knowL_rng.1, knowL_rng.2, knowL_rng.3, knowL_rng.4, knowL_rng.5, fun _ h => (by cases h), fun _ h => (by cases h), fun _ h => (by cases h), fun x h => (by rw [rep_mem h]; exact ⟨ht, (show (0 : Int) ≤ 1 ∧ (1 : Int) < 18446744073709551616 by decide), h1, h2, (show (0 : Int) < 18446744073709551616 by decide)⟩)⟩
theorem push_right (t : Tx) : lrF (pushL t) = txOk t := by
  have eb : baF (pushL t) (pushL t).bare0 (sgnR 12) = pushL t := rfl
  have em : ((sgnR 12).all fun s => maF (pushL t) s.toNat) = (decide ((0 : Int) ≤ 0) && decide ((0 : Int) < 4) && (true && (shOk 0 && (shOk 0 && (true && (ensOk (List.replicate 8 (pushE t)) && true)))))) := rfl
  have he : enOk (pushE t) = txOk t := by simp [enOk, pushE]
  have hz : ensOk (List.replicate 8 (pushE t)) = txOk t := by
    simp only [ensOk, List.replicate, List.any_cons, List.any_nil, enNo, he]
    cases txOk t <;> rfl
  have hk : (pushL t).k = 12 := rfl
  rw [lrF, hk, eb, em, ltE_refl, hz]
  have : kdOk 12 = true ∧ adOk (pushL t).fk (pushL t).fn = true ∧ adOk (pushL t).tk (pushL t).tn = true := ⟨by decide, (show adOk 2 0 = true by decide), (show adOk 2 0 = true by decide)⟩
  rw [this.1, this.2.1, this.2.2]
  cases txOk t <;> decide
theorem lp_F0 {R : RPost} (hR : ExtR R) {T : Tab} {v : Vt} {tc : List AV} {N n : Nat} (hN : N = n % 401) (hn : n < 65536) : ∀ (m k : Nat), k + m = N → ∀ (x : AV) (T1 : Tab), Own T 4 x k ((List.replicate k v).flatMap vtC) T1 →
    (∀ x T1, Own T 4 x N ((List.replicate N v).flatMap vtC) T1 → R (.exit 0) [(2, .i .u16 n), (3, .lp 3 0), (4, .lp 4 0), (7, .lp 7 0), (8, .i .i64 N), (22, .b false)] [(3, vtC v), (4, tc), (7, zl 1 5 x (.fz 0 [] (some 0)) (.fz 0 [] (some 0)))] T1) →
    AW prog sautoirlaw17_LetterFits_l0 R [(2, .i .u16 n), (3, .lp 3 0), (4, .lp 4 0), (7, .lp 7 0), (8, .i .i64 k)] [(3, vtC v), (4, tc), (7, zl 1 5 x (.fz 0 [] (some 0)) (.fz 0 [] (some 0)))] T1 := by
  have h1 : IntKind.i64.wrap (n : Int) = n := wrap_i64 (by unfold I64; omega)
  have h2 : Int.tmod (n : Int) 401 = (N : Int) := by rw [hN]; rfl
  intro m
  induction m with
  | zero =>
    intro k hk x T1 ho hq
    have hk' : k = N := by omega
    subst hk'
    refine AW_loop hR ?_
    unfold sautoirlaw17_LetterFits_l0b
    simp -implicitDefEqProofs -dsimp only [go_sem, seval, h1, h2, Int.lt_irrefl]
    exact hq x T1 ho
  | succ m ih =>
    intro k hk x T1 ho hq
    have hlt : (k : Int) < (N : Int) := by omega
    have hs : IntKind.i64.wrap ((k : Int) + 1) = ((k + 1 : Nat) : Int) := wrap_succ (by omega)
    obtain ⟨p1, p2, p3, p4, p5, p6⟩ := ho.form
    refine AW_loopD (l := sautoirlaw17_LetterFits_l0) rfl hR ?_
    unfold sautoirlaw17_LetterFits_l0b
    simp -implicitDefEqProofs -dsimp only [go_sem, seval, h1, h2, hlt, vtC, zl_len, zl_13, zs_13, p1, p2, p3, p4, p5, p6]
    refine ho.app (m := 1) (news := vtC v) rfl rfl (by omega) (by omega) fun v2 T2 ho => aft_nil ?_
    obtain ⟨q1, q2, q3, q4, q5, q6⟩ := ho.form
    simp -implicitDefEqProofs -dsimp only [go_sem, seval, zl_len, zl_13, zs_13, q1, q2, q3, q4, q5, q6, hs]
    refine ih (k + 1) (by omega) _ _ ?_ hq
    rw [List.replicate_succ', List.flatMap_append]
    simpa only [List.flatMap_cons, List.flatMap_nil, List.append_nil] using ho
theorem lp_F1 {R : RPost} (hR : ExtR R) {T : Tab} {l : Lt Rf} (hl : l.t.Wide) : ∀ (m k : Nat), k + m = 8 → ∀ (x : AV) (T1 : Tab), Own T 10 x k ((List.replicate k (pushE l.t.our)).flatMap enC) T1 →
    (∀ x T1, Own T 10 x 8 ((List.replicate 8 (pushE l.t.our)).flatMap enC) T1 → R (.exit 2) [(4, .lp 4 0), (11, .lp 11 0), (12, .i .i64 8), (65, .b false)] [(4, l.cells rfL), (11, zl 2 12 (.fz 0 [] (some 0)) (.fz 0 [] (some 0)) x)] T1) →
    AW prog sautoirlaw17_LetterFits_l1 R [(4, .lp 4 0), (11, .lp 11 0), (12, .i .i64 k)] [(4, l.cells rfL), (11, zl 2 12 (.fz 0 [] (some 0)) (.fz 0 [] (some 0)) x)] T1 := by
  have htx := pc_OurTxn l.t none none hl
  intro m
  induction m with
  | zero =>
    intro k hk x T1 ho hq
    have hk' : k = 8 := by omega
    subst hk'
    have e8 : ((8 : Nat) : Int) = 8 := rfl
    refine AW_loop hR ?_
    unfold sautoirlaw17_LetterFits_l1b
    simp -implicitDefEqProofs -dsimp only [go_sem, seval, e8, Int.lt_irrefl]
    exact hq x T1 ho
  | succ m ih =>
    intro k hk x T1 ho hq
    have hlt : (k : Int) < 8 := by omega
    have hs : IntKind.i64.wrap ((k : Int) + 1) = ((k + 1 : Nat) : Int) := wrap_succ (by omega)
    obtain ⟨p1, p2, p3, p4, p5, p6⟩ := ho.form
    refine AW_loopD (l := sautoirlaw17_LetterFits_l1) rfl hR ?_
    unfold sautoirlaw17_LetterFits_l1b
    simp -implicitDefEqProofs -dsimp only [go_sem, seval, hlt, cc_len, cc_x, zl_len, zl_15, zs_15, p1, p2, p3, p4, p5, p6, ↓g_call _ _ c_sautoirlaw12_OurTxn]
    refine CallK.pure htx (aft_nil ?_)
    simp -implicitDefEqProofs -dsimp only [go_sem, seval, Tx.cells, zl_len, zl_15, zs_15, p1, p2, p3, p4, p5, p6]
    refine ho.app (m := 1) (news := enC (pushE l.t.our)) rfl rfl (by omega) (by omega) fun v2 T2 ho => aft_nil ?_
    obtain ⟨q1, q2, q3, q4, q5, q6⟩ := ho.form
    simp -implicitDefEqProofs -dsimp only [go_sem, seval, zl_len, zl_15, zs_15, q1, q2, q3, q4, q5, q6, hs]
    refine ih (k + 1) (by omega) _ _ ?_ hq
    rw [List.replicate_succ', List.flatMap_append]
    simpa only [List.flatMap_cons, List.flatMap_nil, List.append_nil] using ho
end Go.Aw
