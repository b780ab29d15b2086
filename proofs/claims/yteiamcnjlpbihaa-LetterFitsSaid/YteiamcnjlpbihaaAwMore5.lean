import Derived.Test.YteiamcnjlpbihaaM17S
import Derived.Test.YteiamcnjlpbihaaM17Arg
import Derived.Test.YteiamcnjlpbihaaM17A
namespace Go.Aw
open Go
open Go.Proofs.Try (prog)
set_option linter.all false
set_option maxHeartbeats 8000000
set_option maxRecDepth 8000

def knowL : Lt Cf := ⟨3, 0, 1, 1, 3, 0, 0, 0, 0, 0, false, 0, 0, [], [], [], zT, 0, 0, [], 0, 0⟩
theorem knowL_small : knowL.Small := ⟨(show (0 : Nat) < 9223372036854775808 by decide), (show (0 : Nat) < 9223372036854775808 by decide), (show (0 : Nat) < 9223372036854775808 by decide), (show (0 : Nat) < 9223372036854775808 by decide), (show (0 : Nat) < 9223372036854775808 by decide), fun _ h => (by cases h), fun _ h => (by cases h)⟩
theorem zT_fine : zT.Fine := ⟨by decide, by decide, fun _ h => (by cases h), fun _ h => (by cases h), fun _ h => (by cases h)⟩
theorem knowL_rng : knowL.Rng := ⟨by decide, by decide, by decide, by decide, by decide, fun _ h => (by cases h), fun _ h => (by cases h), fun _ h => (by cases h), fun _ h => (by cases h)⟩
theorem knowL_right : lrF knowL = true := by decide +kernel
theorem know_enc : encLt knowL = [3, 0, 1, 1, 3] := by
  have e : sgnR knowL.k = [] := rfl
  simp only [encLt, e, List.flatMap_nil, List.append_nil]
  simp only [knowL, show (3 : Int).toNat = 3 from rfl, show (1 : Int).toNat = 1 from rfl, show (0 : Int).toNat = 0 from rfl, enc_small (show 3 < 128 by decide), enc_small (show 0 < 128 by decide), enc_small (show 1 < 128 by decide)]
  rfl
theorem frm_len (p : Bs) : (frm p).length = p.length + 7 := by simp [frm, sealL, four]
theorem pc_awake17 : PCalls prog f_sautoirlaw17_awake [] (.b true) := by
  refine pcalls_of mixed t_sautoirlaw17_awake (by simp) fun T => ?_
  have pc := pc_lPutF knowL knowL_small zT_fine knowL_rng
  rw [lputR, if_pos knowL_right] at pc
  have pc2 := PCalls.wk (Wks.one (Wk.agg (Wk.lt0 knowL))) pc
  have hl : (frm (encLt knowL)).length = 12 := by rw [frm_len, know_enc]; rfl
  clear pc
  simp only [knowL] at pc2 hl
  generalize frm (encLt _) = F at pc2 hl
  unfold s_sautoirlaw17_awake
  simp -implicitDefEqProofs -dsimp only [go_sem, seval, ↓g_call _ _ c_letter_Put]
  refine CallK.pure pc2 (aft_nil ?_)
  simp -implicitDefEqProofs -dsimp only [go_sem, seval, pl_bts, lpq_bts, one_bts, sto_bts, cel_bts, off_bts, len_bts, hl, decide_true]
  exact finL_pure rfl

/-! What the law asks of a letter. -/
theorem Rf.ours_len (c : Rf) : c.ours.ch.length ≤ 10 ∧ c.ours.fu.length = c.ours.ch.length := by
  simp [Rf.ours, ourCh, ourFu]; omega
theorem lenLe {n m : Nat} (h : n ≤ m) (hm : m < 9223372036854775808 := by decide) : Len n := by unfold Len; omega
theorem Lt.Arg.fine {l : Lt Rf} (h : l.Arg) : l.ours.Fine := by
  obtain ⟨w1, w2, w3, w4, w5, w6, w7, w8⟩ := h.wide
  refine ⟨by simp [Lt.ours]; omega, by simp [Lt.ours]; omega, by simp [Lt.ours]; omega, fun v hv => w4 v (List.mem_of_mem_take hv), fun c hc => ?_, fun e he => ?_, w7.our, w8⟩
  · obtain ⟨r, hr, rfl⟩ := List.mem_map.1 hc
    have := r.ours_len
    exact ⟨by omega, this.2⟩
  · obtain ⟨r, hr, rfl⟩ := List.mem_map.1 he
    exact (w6 r (List.mem_of_mem_take hr)).our
theorem Lt.Fine.small {l : Lt Cf} (h : l.Fine) : l.Small := by
  obtain ⟨w1, w2, w3, w4, w5, w6, w7, w8⟩ := h
  exact ⟨lenLe w1, lenLe w2, lenLe w3, lenLe (Nat.le_of_lt w7.r), lenLe (Nat.le_of_lt w7.w), fun c hc => ⟨lenLe (w5 c hc).1, by rw [(w5 c hc).2]; exact lenLe (w5 c hc).1⟩, fun e he => w6 e he⟩
theorem Lt.Arg.rng {l : Lt Rf} (h : l.Arg) : l.ours.Rng := by
  refine ⟨h.ep, h.br, h.q, h.sq.2, h.t.sq.2, fun r hr => h.t.r r (List.mem_of_mem_take hr), fun v hv => (h.vs v (List.mem_of_mem_take hv)).rd, fun c hc => ?_, fun e he => ?_⟩
  · obtain ⟨r, hr, rfl⟩ := List.mem_map.1 hc
    exact ⟨(h.cs r (List.mem_of_mem_take hr)).ep, lenLe r.ours_len.1⟩
  · obtain ⟨r, hr, rfl⟩ := List.mem_map.1 he
    have a := h.es r (List.mem_of_mem_take hr)
    exact ⟨a.t.w.our, a.ep, a.t.sq.2, fun r hr => a.t.r r (List.mem_of_mem_take hr), a.sq.2⟩
theorem Lt.Arg.ref {l : Lt Rf} (h : l.Arg) : l.ours.plain.Ref := by
  have hf := h.fine
  refine ⟨lenLe hf.vs, ?_, lenLe hf.es, fun c hc => ?_, fun e he => ?_, hf.t, h.t.sq.1, h.sq.1⟩
  · show Len (l.ours.cs.map Cf.plain).length
    rw [List.length_map]; exact lenLe hf.cs
  · obtain ⟨r, hr, rfl⟩ := List.mem_map.1 hc
    have e : r.plain.l.length = r.ch.length := r.plain_len
    show Len r.plain.l.length
    rw [e]; exact lenLe (hf.cl r hr).1
  · refine ⟨hf.et e he, ?_, ?_⟩ <;>
    · obtain ⟨r, hr, rfl⟩ := List.mem_map.1 he
      have a := h.es r (List.mem_of_mem_take hr)
      first
        | exact a.t.sq.1
        | exact a.sq.1
theorem pc_LetterRight (l : Lt Rf) (h : l.Arg) : PCalls prog f_sautoirlaw17_LetterRight [.agg l.rc] (.b true) := by
  refine pcalls_of mixed t_sautoirlaw17_LetterRight (by simp) fun T => ?_
  have c1 := pc_LOurs l h.wide
  have c2 := pc_LPlain l.ours h.fine
  have c3 := pc_lRight l.ours h.fine.small h.fine.t
  have c4 := pc_rRight l.ours.plain h.ref
  rw [right_eq _ fun c hc => (h.fine.cl c hc).2] at c4
  have c5 := pc_letterSame l.ours l.ours h.fine.small h.fine.small
  rw [ltE_refl] at c5
  have e1 : l.ours.plain.fk = l.ours.fk := rfl
  have e2 : l.ours.plain.fn = l.ours.fn := rfl
  have e3 : l.ours.plain.tk = l.ours.tk := rfl
  have e4 : l.ours.plain.tn = l.ours.tn := rfl
  generalize l.ours.plain = w at *
  generalize l.ours = o at *
  have hbb : ∀ b : Bool, decide (b = b) = true := fun b => decide_eq_true rfl
  have z26 : ∀ z : List AV, z.length = 26 → z.drop 26 = [] := fun z hz => List.drop_eq_nil_iff.2 (by omega)
  unfold s_sautoirlaw17_LetterRight
  simp -implicitDefEqProofs -dsimp only [go_sem, seval, cc_len, cc_take, ↓g_call _ _ c_sautoirlaw17_Ours]
  refine CallK.pure c1 (aft_nil ?_)
  simp -implicitDefEqProofs -dsimp only [go_sem, seval, cc_len, cc_take, ↓g_call _ _ c_sautoirlaw17_Plain]
  refine CallK.pure c2 (aft_nil ?_)
  simp -implicitDefEqProofs -dsimp only [go_sem, seval, cc_len, cc_take, ↓g_call _ _ c_letter_Right]
  refine CallK.pure c3 (aft_nil ?_)
  simp -implicitDefEqProofs -dsimp only [go_sem, seval, ↓g_call _ _ c_sautoirref17_Right]
  refine CallK.pure c4 (aft_nil ?_)
  simp -implicitDefEqProofs -dsimp only [go_sem, seval, cc_len, cc_fa, cc_ta, hbb, e1, e2, ↓g_call _ _ c_letter_RightAddr]
  refine CallK.pure (pc_RightAddr _ _) (aft_nil ?_)
  simp -implicitDefEqProofs -dsimp only [go_sem, seval, ↓g_call _ _ c_sautoirref17_RightAddr]
  refine CallK.pure (pc_rRightAddr _ _) (aft_nil ?_)
  simp -implicitDefEqProofs -dsimp only [go_sem, seval, cc_len, cc_fa, cc_ta, hbb, e3, e4, ↓g_call _ _ c_letter_RightAddr]
  refine CallK.pure (pc_RightAddr _ _) (aft_nil ?_)
  simp -implicitDefEqProofs -dsimp only [go_sem, seval, ↓g_call _ _ c_sautoirref17_RightAddr]
  refine CallK.pure (pc_rRightAddr _ _) (aft_nil ?_)
  simp -implicitDefEqProofs -dsimp only [go_sem, seval, cc_len, cc_take, hbb, ↓g_call _ _ c_letter_Same]
  refine CallK.pure c5 (aft_nil ?_)
  simp -implicitDefEqProofs -dsimp only [go_sem, seval, ↓g_call _ _ c_sautoirlaw17_awake]
  refine CallK.pure pc_awake17 (aft_nil ?_)
  simp -implicitDefEqProofs -dsimp only [go_sem, seval]
  exact finL_pure rfl
end Go.Aw

/-
  A slice of which the length alone is told; a function that answers with such may be lent what one owns.
-/
namespace Go.Aw
open Go
variable [Glob]
set_option linter.all false

theorem Wk.fzl {n : Nat} {cells : List AV} {cap : Option Nat} : Wk (.fz n cells cap) (.fz n [] none) := fun X w v h => by
  simp only [vr] at h ⊢
  obtain ⟨us, _, h2⟩ := h
  refine ⟨[], by simp [vrs], ?_⟩
  rcases h2 with ⟨a, b, c, _⟩ | ⟨a, c, h3, h4, h5, _, h6⟩
  · exact .inl ⟨a, b, rfl, fun k hk => by cases hk⟩
  · exact .inr ⟨a, c, h3, .inl rfl, h5, (fun k hk => by cases hk), .inl rfl⟩
theorem Indep.fzl {n : Nat} {cap : Option Nat} : Indep (.fz n [] cap) := fun X X' w w' v h => by
  simp only [vr] at h ⊢
  obtain ⟨us, h1, h2⟩ := h
  simp only [vrs] at h1
  subst h1
  refine ⟨[], by simp [vrs], ?_⟩
  rcases h2 with h2 | ⟨a, c, h3, h4, h5, h6, h7⟩
  · exact .inl h2
  · exact .inr ⟨a, c, h3, .inl rfl, h5, h6, .inl rfl⟩
end Go.Aw
