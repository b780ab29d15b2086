import Derived.Test.YtmicojcojlgefaaC29V
import Derived.Test.YtmicojcojlgefaaK29R28Y
namespace Go.Aw
open Go
open Go.Proofs.Try (prog)
set_option linter.all false
set_option maxHeartbeats 8000000
set_option maxRecDepth 8000

/-! The document's client; what answers. -/
structure Rc where
  me : Int
  ma : Int
  rt : Nat
  sq : Nat
  wt : Bool
  o : Cp
  k1 : Option Nat
  k2 : Option Nat
  tr : Int
  la : Cr
  had : Bool
def Rc.row (c : Rc) : Slot := .row 18 [.i .i64 c.me, .i .i64 c.ma, .ptr c.rt 0, .i .u64 c.sq, .b c.wt, .i .i64 c.o.k, .s c.o.key, .s c.o.v, .fz c.o.rs.length (c.o.rs.flatMap rdC) c.k1, .fz c.o.ws.length (c.o.ws.flatMap wtC) c.k2, .i .i64 c.tr, .i .i64 c.la.cl, .i .u64 c.la.sq, .i .i64 c.la.n, .i .i64 c.la.co, .s c.la.v, .i .u64 c.la.q, .b c.had]
theorem ac_rID {T : Tab} {id : Nat} {c : Rc} (h : T id = c.row) : ACalls prog f_sautoirref29_Client_ID [.ptr id 0] T (fun v T' => v = .agg [.i .i64 c.me, .i .u64 c.sq] ∧ T' = T) := by
  refine acalls_of mixed t_sautoirref29_Client_ID (by simp) ?_
  simp only [Rc.row] at h
  unfold s_sautoirref29_Client_ID
  simp -implicitDefEqProofs -dsimp only [go_sem, seval, h]
  exact finL_of _ (fun _ => .inr (.inl rfl)) ⟨rfl, rfl⟩
def codeOf (n : Int) : Int := if n < 0 then 0 else if 99 < n then 0 else n
theorem codeOf_ok (n : Int) : 0 ≤ codeOf n ∧ codeOf n ≤ 99 := by unfold codeOf; split <;> (try split) <;> omega
def ansL (me : Int) (sq : Nat) (l : Lt Rf) : Lt Rf := ⟨2, 1, 3, me, 21, 0, 0, 3, 0, 0, false, 0, 0, [], [], [], zT, me, sq, l.v.take 64, l.q, codeOf l.co⟩
theorem ac_answer {T : Tab} {id : Nat} {c : Rc} (h : T id = c.row) (l : Lt Rf) (hl : Len l.v.length) : ACalls prog f_sautoirlaw29_answer [.ptr id 0, .agg (l.cells rfL)] T (fun v T' => v = .agg ((ansL c.me c.sq l).cells rfL) ∧ T' = T) := by
  refine acalls_of mixed t_sautoirlaw29_answer (by simp) ?_
  have hI := ac_rID h
  have hT := h
  simp only [Rc.row] at hT
  have hv : (decide ((64 : Int) < (l.v.length : Int)) = true ∧ (64 ≤ l.v.length) = True ∧ l.v.take 64 = l.v.take 64) ∨ (decide ((64 : Int) < (l.v.length : Int)) = false ∧ (64 ≤ l.v.length) = (64 ≤ l.v.length) ∧ l.v.take 64 = l.v) := by
    by_cases h : 64 < l.v.length
    · exact .inl ⟨decide_eq_true (by omega), eq_true (by omega), rfl⟩
    · exact .inr ⟨decide_eq_false (by omega), rfl, List.take_of_length_le (by omega)⟩
  have hc : (decide (l.co < 0) = true ∧ decide (99 < l.co) = decide (99 < l.co) ∧ codeOf l.co = 0) ∨ (decide (l.co < 0) = false ∧ decide (99 < l.co) = true ∧ codeOf l.co = 0) ∨ (decide (l.co < 0) = false ∧ decide (99 < l.co) = false ∧ codeOf l.co = l.co) := by
    unfold codeOf
    by_cases h1 : l.co < 0
    · exact .inl ⟨decide_eq_true h1, rfl, if_pos h1⟩
    by_cases h2 : 99 < l.co
    · exact .inr (.inl ⟨decide_eq_false h1, decide_eq_true h2, by rw [if_neg h1, if_pos h2]⟩)
    · exact .inr (.inr ⟨decide_eq_false h1, decide_eq_false h2, by rw [if_neg h1, if_neg h2]⟩)
  unfold s_sautoirlaw29_answer
  rcases hv with ⟨hv, hv2, hv3⟩ | ⟨hv, hv2, hv3⟩ <;> rcases hc with ⟨hc, hc3, hc2⟩ | ⟨hc, hc3, hc2⟩ | ⟨hc, hc3, hc2⟩
  all_goals
    simp -implicitDefEqProofs -dsimp only [go_sem, seval, Lt.cells, hv, hv2, hc, hc3, hT, ↓g_gdc, rcOk, true_and, ↓g_call _ _ c_sautoirref29_Client_ID]
    refine CallK.as hI (aft_rc (fun _ => ?_) ?_)
    · simp -implicitDefEqProofs -dsimp only [go_sem, seval, hT, rcOk, gvev, gdd]
    simp -implicitDefEqProofs -dsimp only [go_sem, seval, hT]
    refine fin_wk (r' := .agg ((ansL c.me c.sq l).cells rfL)) ?_ ⟨rfl, rfl⟩
    unfold ansL
    rw [hc2, hv3]
    exact Wk.agg (m := _) ⟨.refl _, .refl _, .refl _, .refl _, .refl _, .refl _, .refl _, .refl _, .refl _, .refl _, .refl _, .refl _, .refl _, .fz, .fz, .fz, .refl _, .refl _, .refl _, .fz, .fz, .refl _, .refl _, .refl _, .refl _, .refl _, trivial⟩
end Go.Aw

namespace Go.Aw
open Go
open Go.Proofs.Try (prog)
set_option linter.all false
set_option maxHeartbeats 8000000
set_option maxRecDepth 8000

/-! One thing at a time. -/
theorem ans_ours (me : Int) (sq : Nat) (l : Lt Rf) : (ansL me sq l).ours = { zL with fk := 2, fn := 1, tk := 3, tn := me, k := 21, n := 3, cl := me, sq := sq, v := l.v.take 64, q := l.q, co := codeOf l.co } := rfl
theorem ans_right {me : Int} {sq : Nat} {l : Lt Rf} (h1 : 0 ≤ me ∧ me < 6) (h2 : 1 ≤ sq) : lrF (ansL me sq l).ours = true := by
  have hc := codeOf_ok l.co
  rw [ans_ours]
  refine lr_of (ss := [110, 105, 116, 113, 114]) rfl rfl rfl ?_ rfl ?_
  · exact ad_of h1.1 (show me < 6 from h1.2)
  · show (shOk 3 && (idOk me sq && (decide (((l.v.take 64).length : Int) ≤ 64) && (true && ((decide (0 ≤ codeOf l.co) && decide (codeOf l.co ≤ 99)) && true))))) = true
    rw [show idOk me sq = true by simp only [idOk, Bool.and_eq_true, decide_eq_true_eq]; omega, decide_eq_true (by rw [List.length_take]; omega), decide_eq_true hc.1, decide_eq_true hc.2]
    rfl
theorem hear_ans {c : Cl} (l : Lt Rf) (h1 : 0 ≤ c.me ∧ c.me < 6) (h2 : c.w.isSome = true → 1 ≤ c.sq) :
    hearF c (ansL c.me c.sq l).ours = if c.w.isSome = true then ({ c with w := none, la := some (rsOf (ansL c.me c.sq l).ours) }, true) else (c, false) := by
  have ha : ansd c (ansL c.me c.sq l).ours = c.w.isSome := by
    rw [ans_ours]; simp [ansd]
  have hz : (decide ((ansL c.me c.sq l).ours.k = 2) && decide ((ansL c.me c.sq l).ours.fk = 1)) = false := rfl
  unfold hearF
  rw [ha]
  rcases hw : c.w.isSome with _ | _
  · simp only [Bool.false_eq_true, if_false]
    split
    · rfl
    · rw [hz]; rfl
  · have hm : mine c (ansL c.me c.sq l).ours = true := by
      unfold mine
      rw [ans_right h1 (h2 hw), ans_ours]
      simp
    rw [if_neg (by rw [hm]; decide), hz]; rfl
theorem call_cases (c : Cl) (o : Cp) : ((callF c o).2 ≠ 0 ∧ (callF c o).1.1 = c) ∨ ((callF c o).2 = 0 ∧ c.w = none ∧ (callF c o).1.1.sq = c.sq + 1 ∧ (callF c o).1.1.w = some (o, 0) ∧ (callF c o).1.1.me = c.me) := by
  unfold callF
  split
  · exact .inl ⟨(show (10 : Int) ≠ 0 by decide), rfl⟩
  split
  · exact .inl ⟨(show (1 : Int) ≠ 0 by decide), rfl⟩
  split
  · exact .inl ⟨(show (9 : Int) ≠ 0 by decide), rfl⟩
  rename_i h _ _
  refine .inr ⟨rfl, ?_, rfl, rfl, rfl⟩
  cases hw : c.w with
  | none => rfl
  | some q => rw [hw] at h; exact absurd rfl h
theorem tick_same (c : Cl) : (tickF c).1.sq = c.sq ∧ (tickF c).1.w.isSome = c.w.isSome := by
  unfold tickF
  split
  · exact ⟨rfl, rfl⟩
  · rename_i h; rw [h]; exact ⟨rfl, rfl⟩
theorem Ct.mono18 {T T1 : Tab} {id r l w x : Nat} {c : Cl} (h : Ct T id r l w x c) (hm : ∀ j, T j ≠ .unused → (∀ xs, T j ≠ .row 18 xs) → T1 j = T j) : Ct T1 id r l w x c := by
  refine ⟨?_, ⟨?_, ?_⟩, ?_, ?_⟩
  · rw [hm id (by rw [h.cr]; simp [clRow]) (by rw [h.cr]; simp [clRow])]; exact h.cr
  · rw [hm r (by rw [h.rt.1]; simp) (by rw [h.rt.1]; simp)]; exact h.rt.1
  · rw [hm l (by rw [h.rt.2]; simp) (by rw [h.rt.2]; simp)]; exact h.rt.2
  · intro o ho
    rw [hm w (by rw [h.cw o ho]; simp [wRow]) (by rw [h.cw o ho]; simp [wRow])]; exact h.cw o ho
  · intro y hy
    obtain ⟨h1, h2⟩ := h.cy y hy
    exact ⟨by rw [hm x (by rw [h1]; simp [rRow]) (by rw [h1]; simp [rRow])]; exact h1, h2⟩
theorem Ct.put18 {T : Tab} {id r l w x j : Nat} {c : Cl} {ys zs : List AV} (h : Ct T id r l w x c) (hj : T j = .row 18 ys) : Ct (T.put j (.row 18 zs)) id r l w x c :=
  h.mono18 fun i _ h2 => Tab.put_ne _ _ fun e => by subst e; exact h2 _ hj
end Go.Aw

