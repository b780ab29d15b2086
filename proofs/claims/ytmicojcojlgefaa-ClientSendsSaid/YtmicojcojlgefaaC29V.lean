import Derived.Test.YtmicojcojlgefaaC29S
import Derived.Test.YtmicojcojlgefaaAwD
import Derived.Test.YtmicojcojlgefaaC29T
namespace Go.Aw
open Go
open Go.Proofs.Try (prog)
set_option linter.all false
set_option maxHeartbeats 8000000

/-! Arguments: ops, events. -/
abbrev tyOp : Ty := .st [.int .i64, .str, .str, .sl (.st [.str, .int .u64]), .sl (.st [.str, .str, .bool])]
abbrev tyEvent : Ty := .st [.int .i64, tyOp, tyLetter]
structure Cp.Arg (o : Cp) : Prop where
  w : o.Wide
  r : ∀ r ∈ o.rs, U64 r.n
theorem op_of1 {p : List AV} (h : Fits tyOp p) : ∃ o : Cp, Wks p o.cells ∧ o.Arg := by
  simp only [Fits] at h
  unfold FitsL at h; obtain ⟨p1, r1, rfl, h1, h⟩ := h
  unfold FitsL at h; obtain ⟨p2, r2, rfl, h2, h⟩ := h
  unfold FitsL at h; obtain ⟨p3, r3, rfl, h3, h⟩ := h
  unfold FitsL at h; obtain ⟨p4, r4, rfl, h4, h⟩ := h
  unfold FitsL at h; obtain ⟨p5, r5, rfl, h5, h⟩ := h
  unfold FitsL at h; subst h
  obtain ⟨rs, k1, rfl, hr, hro⟩ := slice_of (fun p hp => rd_of1 hp) h4
  obtain ⟨ws, k2, rfl, hw, hwo⟩ := slice_of (fun p hp => wt_of1 hp) h5
  simp only [Fits, FitsL] at h1 h2 h3
  obtain ⟨k, rfl, hk⟩ := h1
  obtain ⟨key, rfl, hkey⟩ := h2
  obtain ⟨v, rfl, hv⟩ := h3
  exact ⟨⟨k, key, v, rs, ws⟩, ⟨.refl _, .refl _, .refl _, .fz, .fz, trivial⟩, ⟨len_of_max hkey, len_of_max hv, ⟨hr, hw, fun r h => (hro r h).1, fun r h => (hwo r h).1, fun r h => (hwo r h).2⟩⟩, fun r h => (hro r h).2⟩
theorem ev_of1 {p : List AV} (h : Fits tyEvent p) : ∃ e : Ev, Wks p (evC e) ∧ e.o.Arg ∧ e.l.Arg := by
  simp only [Fits] at h
  unfold FitsL at h; obtain ⟨p1, r1, rfl, h1, h⟩ := h
  unfold FitsL at h; obtain ⟨p2, r2, rfl, h2, h⟩ := h
  unfold FitsL at h; obtain ⟨p3, r3, rfl, h3, h⟩ := h
  unfold FitsL at h; subst h
  obtain ⟨o, ho, ho2⟩ := op_of1 h2
  obtain ⟨l, hl, hl2⟩ := letter_of1 h3
  simp only [Fits, FitsL] at h1
  obtain ⟨k, rfl, hk⟩ := h1
  refine ⟨⟨k, o, l⟩, ?_, ho2, hl2⟩
  rw [List.append_nil]
  exact ⟨.refl _, ho.append hl⟩
end Go.Aw

namespace Go.Aw
open Go
open Go.Proofs.Try (prog)
set_option linter.all false
set_option maxHeartbeats 8000000
set_option maxRecDepth 8000

theorem cl0_at {me ma : Int} {S L : Nat} {v : Int} (h : cOk me ma S L v = true) : (cl0 me ma S L).At me ma 0 := by
  simp only [cOk, Bool.and_eq_true, decide_eq_true_eq] at h
  obtain ⟨⟨⟨⟨h1, h2⟩, h3⟩, h4⟩, h5⟩ := h
  exact ⟨rfl, rfl, ⟨⟨h1, h2⟩, ⟨h3, h4⟩, (show (0 : Nat) < 18446744073709551616 by decide), cfs0_ok h5, fun _ h => by cases h⟩, Nat.le_refl _, fun _ h => by cases h⟩
theorem pc_ClientSends (s l0 v : Int) (evs : List Ev) (n : Nat) (hl : Len evs.length) (hx : ∀ e ∈ evs, e.Arg) (hn : n < 256) : PCalls prog f_sautoirlaw29_ClientSends [.agg (stC s l0 v), .fz evs.length (evs.flatMap evC) none, .i .u8 n] (.b true) := by
  refine pcalls_of mixed t_sautoirlaw29_ClientSends (by simp) fun T => ?_
  have cS := pc_Setup s l0 v
  have cA := pc_awake29
  have cR := pc_refSetup s l0 v
  have wn : IntKind.i64.wrap (n : Int) = n := wrap_i64 (by unfold I64; omega)
  obtain ⟨k, hk⟩ : ∃ k : Nat, k = n % 6 := ⟨_, rfl⟩
  have wt : ((n : Int)).tmod 6 = (k : Int) := by rw [Int.tmod_eq_emod_of_nonneg (by omega)]; omega
  have wk : IntKind.i64.wrap (k : Int) = k := wrap_i64 (by unfold I64; omega)
  have z6 : ((6 : Int) = 0) = False := eq_false (by decide)
  have hke : cOk k 2 s l0 v = sok s l0 v := by
    simp only [cOk]
    rw [decide_eq_true (by omega), decide_eq_true (by omega), decide_eq_true (by omega), decide_eq_true (by omega)]
    rfl
  simp only [stC] at cS cR
  unfold s_sautoirlaw29_ClientSends
  rcases hs : sok s l0 v with _ | _
  · rw [hs] at hke cR
    have cN := pc_cNew0 hke
    simp only [stC] at cN
    simp -implicitDefEqProofs -dsimp only [go_sem, seval, stC, wn, wt, wk, z6, ↓g_call _ _ c_sautoirlaw21_Setup]
    refine CallK.pure cS (aft_nil ?_)
    simp -implicitDefEqProofs -dsimp only [go_sem, seval, ↓g_call _ _ c_client_New]
    refine CallK.pure cN (aft_nil ?_)
    simp -implicitDefEqProofs -dsimp only [go_sem, seval, eqAv, ↓g_call _ _ c_sautoirref21_RightSetup]
    refine CallK.pure cR (aft_nil ?_)
    simp -implicitDefEqProofs -dsimp only [go_sem, seval, ↓g_gdc, rcOk, true_and, ↓g_call _ _ c_sautoirlaw29_awake]
    refine CallK.pure cA (aft_nil ?_)
    simp -implicitDefEqProofs -dsimp only [go_sem, seval]
    exact finL_pure rfl
  · rw [hs] at hke
    have hss := of_decide_eq_true hs
    obtain ⟨S, rfl⟩ := Int.eq_ofNat_of_zero_le (show 0 ≤ s by omega)
    obtain ⟨L, rfl⟩ := Int.eq_ofNat_of_zero_le (show 0 ≤ l0 by omega)
    have cN := ac_cNew (T := T) hke
    have hat := cl0_at hke
    simp only [stC] at cN
    simp -implicitDefEqProofs -dsimp only [go_sem, seval, stC, wn, wt, wk, z6, ↓g_call _ _ c_sautoirlaw21_Setup]
    refine CallK.pure cS (aft_nil ?_)
    simp -implicitDefEqProofs -dsimp only [go_sem, seval, ↓g_call _ _ c_client_New]
    refine CallK.of cN fun a T1 hv => aft_nil ?_
    obtain ⟨id, r, l, rfl, h0, hF⟩ := hv
    simp -implicitDefEqProofs -dsimp only [go_sem, seval, eqAv]
    refine lp_Sends0 (T0 := T) (by repeat' (first | exact finX_ext _ _ | assumption | apply blkR_ext | apply thenR_ext | apply AW_ext)) hl hx evs 0 rfl (Nat.zero_le _) (Nat.zero_le _) id id (cl0 k 2 S L) T1 [id, r, l] hat h0 (Bs0.start hF) (by simp) (by simp) (by simp) (fun T2 hle => ?_) (fun T2 q cs hle => ?_)
    · simp -implicitDefEqProofs -dsimp only [go_sem, seval, ↓g_call _ _ c_sautoirlaw29_awake]
      refine CallK.pure cA (aft_nil ?_)
      simp -implicitDefEqProofs -dsimp only [go_sem, seval]
      exact finL_of T hle ⟨rfl, rfl⟩
    · simp -implicitDefEqProofs -dsimp only [go_sem, seval, ↓g_call _ _ c_sautoirlaw29_awake]
      refine CallK.pure cA (aft_nil ?_)
      simp -implicitDefEqProofs -dsimp only [go_sem, seval]
      exact finL_of T hle ⟨rfl, rfl⟩
end Go.Aw

namespace Go.Aw
open Go
open Go.Proofs.Try (prog)
set_option linter.all false
set_option maxHeartbeats 4000000

/-! Arguments: rows of events, a setup. -/
abbrev tySt : Ty := .st [.int .i64, .int .i64, .int .i64]
theorem setup_of {a : AV} (h : FitsV tySt a) : ∃ s l v : Int, a = .agg (stC s l v) := by
  obtain ⟨cells, rfl, h⟩ := h
  simp only [FitsL, Fits] at h
  obtain ⟨_, _, rfl, ⟨s, rfl, _⟩, _, _, rfl, ⟨l, rfl, _⟩, _, _, rfl, ⟨v, rfl, _⟩, rfl⟩ := h
  exact ⟨s, l, v, rfl⟩
theorem evs_of {a : AV} (h : FitsV (.sl tyEvent) a) : ∃ es : List Ev, Wk a (.fz es.length (es.flatMap evC) none) ∧ Len es.length ∧ ∀ e ∈ es, e.Arg := by
  obtain ⟨xs, cap, rfl, hl, _⟩ := slice_ofV (α := { p : List AV // Fits tyEvent p }) (cells := Subtype.val) (ok := fun _ => True) (fun p hp => ⟨⟨p, hp⟩, rfl, trivial⟩) h
  refine ⟨xs.map fun x => Classical.choose (ev_of1 x.2), ?_, by rw [List.length_map]; exact hl, fun e he => ?_⟩
  · rw [List.length_map, List.flatMap_map]
    exact Wk.fzs (Wks.flatMap fun x _ => (Classical.choose_spec (ev_of1 x.2)).1)
  · obtain ⟨x, _, rfl⟩ := List.mem_map.1 he
    have h := (Classical.choose_spec (ev_of1 x.2)).2
    exact ⟨h.1.w, h.2⟩
end Go.Aw

