/-
  What an operation yields that changes nothing, the model's own operation yields.
-/
import Derived.Test.YtchkfbfbhaldfaaAwSound2
namespace Go.Aw
set_option linter.all false
open Go

section
variable {P : Program} {X0 : Cx} {T0 : Tab} {w0 : World} {X : Cx} {lam : Nat → Nat} {env : Env} {L : Loc} {T : Tab} {a : Act} {w w' : World}

theorem bind_some {α β : Type} {x : Option α} {f : α → Option β} {r : β} (h : x.bind f = some r) : ∃ y, x = some y ∧ f y = some r := by
  cases x with
  | none => simp at h
  | some y => exact ⟨y, rfl, h⟩

theorem map_some {α β : Type} {x : Option α} {f : α → β} {r : β} (h : x.map f = some r) : ∃ y, x = some y ∧ f y = r := by
  cases x with
  | none => simp at h
  | some y => simp at h; exact ⟨y, rfl, h⟩

theorem wrapAv_spec {k : IntKind} {x r : AV} (h : wrapAv k x = some r) : ∃ k' n, x = .i k' n ∧ r = .i k (k.wrap n) := by
  cases x <;> simp only [wrapAv] at h <;> first | (cases h; done) | skip
  injection h with h
  exact ⟨_, _, rfl, h.symm⟩

theorem extract_shape {l : List Operand} {args : Array Operand} (h : args.toList = l) : args = l.toArray := by
  apply Array.ext'; simpa using h

theorem placesT_run : ∀ {fs : List Field} {pl : List (Nat × Nat)}, placesT P fs = some pl → (fs.mapM (fun f => (do pure (f.offset, ← sizeOf f.type) : Sem (Nat × Nat)))).run P w = .ok pl w
  | [], pl, h => by simp only [placesT] at h; injection h with h; subst h; simp
  | f :: r, pl, h => by
    simp only [placesT] at h
    cases hs : szT P f.type with
    | none => simp [hs] at h
    | some n =>
    cases hr : placesT P r with
    | none => simp [hs, hr] at h
    | some l =>
    simp only [hs, hr] at h
    injection h with h; subst h
    obtain ⟨i, hi, hn⟩ := szT_spec hs
    have ih := placesT_run (fs := r) hr
    have h1 : (sizeOf f.type).run P w = .ok n w := by simp [sizeOf, typeInfo, hi, hn]
    simp only [List.mapM_cons, Sem.run_bind, h1, ih, Result.andThen_ok, Sem.run_pure]

set_option maxHeartbeats 1000000 in
theorem pev_sound (h : SR X0 T0 w0 X lam env L T a w) {H : Hint} {o : Oper} {s : SO} (hs : trOp P H o = some s) {x : AV} (hx : pev s env L T = some x) :
    ∃ v, (execOp a.eval o).run P w = .ok (.value v) w ∧ evr X lam w x v := by
  obtain ⟨dst, op, ty, pos, after, gd⟩ := o
  cases op <;> simp only [trOp] at hs <;> first
    | (cases hs; done)
    | skip
  · rename_i y
    injection hs with hs; subst hs
    exact ⟨_, rfl, evr_of_vr (opdV_sound h hx)⟩
  · rename_i y
    injection hs with hs; subst hs
    exact ⟨_, rfl, evr_of_vr (opdV_sound h hx)⟩
  · rename_i c y z
    injection hs with hs; subst hs
    simp only [pev] at hx
    obtain ⟨cv, hc, hx⟩ := bind_some hx
    cases cv <;> simp only [pickAv] at hx <;> first | (cases hx; done) | skip
    rename_i b
    have hc := opdV_sound h hc
    simp only [vr] at hc
    cases b with
    | true =>
      simp only [if_true] at hx
      refine ⟨a.eval y, ?_, evr_of_vr (opdV_sound h hx)⟩
      simp [execOp, hc, asBool]
    | false =>
      simp only [Bool.false_eq_true, if_false] at hx
      refine ⟨a.eval z, ?_, evr_of_vr (opdV_sound h hx)⟩
      simp [execOp, hc, asBool]
  · -- alloc
    obtain ⟨z, _, hs⟩ := bind_some hs
    obtain ⟨n, _, hs⟩ := bind_some hs
    split at hs <;> (injection hs with hs; subst hs; simp [pev] at hx)
  · -- box
    obtain ⟨n, _, hs⟩ := map_some hs
    split at hs
    · subst hs; simp [pev] at hx
    · split at hs <;> (subst hs; simp [pev] at hx)
  · -- build
    rename_i t ps
    obtain ⟨z, hz, hs⟩ := bind_some hs
    obtain ⟨zv, z1, z2, z3⟩ := zeroT_run (X := X) (w := w) hz
    have fin : ∀ (place : Nat → Option (Nat × Nat)) (qs : List (Nat × Nat × Operand)), partsT place ps.toList = some qs → s = .bld z qs →
        (∀ vs, Instr.fill place zv.cells (ps.toList.map fun (i, x) => (i, a.eval x)) = some vs → (Instr.build t (ps.map fun (i, x) => (i, a.eval x))).run P w = .ok (.agg vs) w) →
        ∃ v, (execOp a.eval { dst, op := .build t ps, type := ty, pos, after, guard := gd }).run P w = .ok (.value v) w ∧ evr X lam w x v := by
      intro place qs hq hs' hrun
      subst hs'
      simp only [pev] at hx
      obtain ⟨cells, hb, rfl⟩ := map_some hx
      obtain ⟨vs, f1, f2, f3⟩ := partsT_sound h hq z2 z3 hb
      refine ⟨.agg vs, run_v (hrun vs f1), ?_⟩
      simp only [evr, vr]
      exact ⟨vs.toList, f2, f3, by simp⟩
    cases hu : P.underlying t with
    | none => simp [hu] at hs
    | some d =>
    cases d <;> simp only [hu] at hs <;> first | (cases hs; done) | skip
    · rename_i n e
      obtain ⟨sz, hsz, hs⟩ := bind_some hs
      obtain ⟨qs, hq, rfl⟩ := map_some hs
      obtain ⟨i, hi, hn⟩ := szT_spec hsz
      refine fin _ qs hq rfl fun vs hf => ?_
      simp only [Instr.build, Sem.run_bind, z1, Result.andThen_ok, run_underlying hu, sizeOf, typeInfo, run_program, hi, hn, Sem.run_pure, Array.toList_map, hf]
    · rename_i fs
      obtain ⟨pl, hpl, hs⟩ := bind_some hs
      obtain ⟨qs, hq, rfl⟩ := map_some hs
      refine fin _ qs hq rfl fun vs hf => ?_
      have hm := placesT_run (P := P) (w := w) hpl
      have hf' : Instr.fill (fun i => pl.toArray[i]?) zv.cells (ps.toList.map fun (i, x) => (i, a.eval x)) = some vs := by simpa using hf
      simp only [Instr.build, Sem.run_bind, z1, Result.andThen_ok, run_underlying hu, Array.mapM_eq_mapM_toList, Sem.run_map, hm, Array.toList_map, hf', Sem.run_pure]
  · -- buildSlice
    rename_i t n ps
    cases hu : P.underlying t with
    | none => simp [hu] at hs
    | some d =>
    cases d <;> simp only [hu] at hs <;> first | (cases hs; done) | skip
    obtain ⟨z, _, hs⟩ := bind_some hs
    obtain ⟨s', _, hs⟩ := bind_some hs
    split at hs
    · obtain ⟨qs, _, rfl⟩ := map_some hs
      split at hx <;> simp [pev] at hx
    · cases hs
  · -- load
    rename_i t y
    obtain ⟨sz, hsz, hs⟩ := map_some hs
    split at hs
    · rename_i l _
      subst hs
      simp only [pev] at hx
      obtain ⟨u, hu, hx⟩ := bind_some hx
      obtain ⟨q, h1, h2⟩ := lld_sound h.rel (opdL_sound h hu) (ldT_spec hsz) hx
      exact ⟨q, run_v h1, evr_of_vr h2⟩
    · subst hs
      simp only [pev] at hx
      obtain ⟨u, hu, hx⟩ := bind_some hx
      obtain ⟨q, h1, h2⟩ := ld_sound h.rel (evr_of_vr (opdV_sound h hu)) (ldT_spec hsz) hx
      exact ⟨q, run_v h1, evr_of_vr h2⟩
  · -- store
    obtain ⟨sz, _, hs⟩ := map_some hs
    split at hs <;> (subst hs; simp [pev] at hx)
  · -- nilCheck
    rename_i y
    injection hs with hs; subst hs
    simp only [pev] at hx
    obtain ⟨u, hu, hx⟩ := bind_some hx
    have hv := opdL_sound h hu
    cases u <;> simp only [nilckAv] at hx <;> first | (cases hx; done) | skip
    all_goals
      injection hx with hx; subst hx
      refine ⟨a.eval y, ?_, hv⟩
    · simp only [evr, vr] at hv
      simp [execOp, hv.2]
    · simp only [evr, vr] at hv
      obtain ⟨us, ad, _, e, _⟩ := hv
      simp [execOp, e]
    · simp only [evr] at hv
      simp [execOp, hv]
  · -- binOp
    rename_i op t y z yt
    have hbin : s = .bin op y z → ∃ v, (execOp a.eval { dst, op := .binOp op t y z yt, type := ty, pos, after, guard := gd }).run P w = .ok (.value v) w ∧ evr X lam w x v := by
      intro e; subst e
      simp only [pev] at hx
      obtain ⟨u, hu, hx⟩ := bind_some hx
      obtain ⟨v, hv, hx⟩ := bind_some hx
      obtain ⟨h1, h2⟩ := bin_sound op t (opdV_sound h hu) (opdV_sound h hv) hx y z
      exact ⟨_, run_v h1, evr_of_vr h2⟩
    have heq : ∀ neg k, s = .eq neg k y z → ((op = .eql ∧ neg = false) ∨ (op = .neq ∧ neg = true)) → (match k with
        | .bool => P.underlying t = some .bool
        | .ptr => ∃ e, P.underlying t = some (.pointer e)
        | .ifc => (∃ ms, P.underlying t = some (.interface ms)) ∧ (isConst y || isConst z) = true
        | .agg ks => (∃ fs, P.underlying t = some (.struct fs)) ∧ P.eqGuardType P.depth t = false ∧ flatK P 20 t = some ks) →
        ∃ v, (execOp a.eval { dst, op := .binOp op t y z yt, type := ty, pos, after, guard := gd }).run P w = .ok (.value v) w ∧ evr X lam w x v := by
      intro neg k e ho ht
      subst e
      simp only [pev] at hx
      obtain ⟨u, hu, hx⟩ := bind_some hx
      obtain ⟨v, hv, hx⟩ := bind_some hx
      obtain ⟨r, hr, rfl⟩ := map_some hx
      have := eqAv_sound (P := P) (w := w) (e1 := y) (e2 := z) (opdV_sound h hu) (opdV_sound h hv) hr ho (t := t) (by cases k <;> exact ht)
      exact ⟨_, run_v this, rfl⟩
    cases hu : P.underlying t with
    | none => simp [hu] at hs
    | some d =>
    cases d <;> simp only [hu] at hs <;> first | (cases hs; done) | skip
    · cases op <;> simp only at hs <;> first | (cases hs; done) | skip
      · injection hs with hs; exact heq false .bool hs.symm (.inl ⟨rfl, rfl⟩) hu
      · injection hs with hs; exact heq true .bool hs.symm (.inr ⟨rfl, rfl⟩) hu
    · injection hs with hs; exact hbin hs.symm
    · injection hs with hs; exact hbin hs.symm
    · cases op <;> simp only at hs <;> first | (cases hs; done) | skip
      · injection hs with hs; exact heq false .ptr hs.symm (.inl ⟨rfl, rfl⟩) ⟨_, hu⟩
      · injection hs with hs; exact heq true .ptr hs.symm (.inr ⟨rfl, rfl⟩) ⟨_, hu⟩
    · split at hs <;> first | (cases hs; done) | (injection hs with hs; subst hs; simp [pev] at hx)
    · split at hs
      · cases hs
      · rename_i hg
        obtain ⟨ks, hk, hs⟩ := bind_some hs
        cases op <;> simp only at hs <;> first | (cases hs; done) | skip
        · injection hs with hs; exact heq false (.agg ks) hs.symm (.inl ⟨rfl, rfl⟩) ⟨⟨_, hu⟩, by simpa using hg, hk⟩
        · injection hs with hs; exact heq true (.agg ks) hs.symm (.inr ⟨rfl, rfl⟩) ⟨⟨_, hu⟩, by simpa using hg, hk⟩
    · split at hs
      · rename_i hc
        cases op <;> simp only at hs <;> first | (cases hs; done) | skip
        · injection hs with hs; exact heq false .ifc hs.symm (.inl ⟨rfl, rfl⟩) ⟨⟨_, hu⟩, hc⟩
        · injection hs with hs; exact heq true .ifc hs.symm (.inr ⟨rfl, rfl⟩) ⟨⟨_, hu⟩, hc⟩
      · cases hs
  · -- unOp
    rename_i op t y
    injection hs with hs; subst hs
    simp only [pev] at hx
    obtain ⟨u, hu, hx⟩ := bind_some hx
    obtain ⟨h1, h2⟩ := un_sound (P := P) op (opdV_sound h hu) hx
    exact ⟨_, run_v h1, evr_of_vr h2⟩
  · -- convert
    rename_i sT dT y
    cases hd : P.underlying dT with
    | none => simp [hd] at hs
    | some dd =>
    cases dd <;> simp only [hd] at hs <;> first
      | (cases hs; done)
      | skip
    · rename_i k
      split at hs
      · rename_i hu
        injection hs with hs; subst hs
        simp only [pev] at hx
        obtain ⟨u, hv, hx⟩ := bind_some hx
        obtain ⟨k', n, rfl, rfl⟩ := wrapAv_spec hx
        have hv := opdV_sound h hv
        simp only [vr] at hv
        obtain ⟨ud, hu⟩ := Option.isSome_iff_exists.1 hu
        refine ⟨.int k (k.wrap n), run_v ?_, rfl⟩
        rw [hv]
        simp [convert, run_underlying hu, run_underlying hd, Conv.intToInt]
      · cases hs
    · cases hu : P.underlying sT with
      | none => simp [hu] at hs
      | some ud =>
      cases ud <;> simp only [hu] at hs <;> first | (cases hs; done) | skip
      · injection hs with hs; subst hs
        simp only [pev] at hx
        obtain ⟨u, hv, hx⟩ := bind_some hx
        have hv := opdV_sound h hv
        cases u <;> simp only at hx <;> first | (cases hx; done) | skip
        injection hx with hx; subst hx
        simp only [vr] at hv
        refine ⟨_, run_v ?_, rfl⟩
        rw [hv]
        simp [convert, run_underlying hu, run_underlying hd]
      · rename_i e
        split at hs
        · rename_i he
          injection hs with hs; subst hs
          simp only [pev] at hx
          obtain ⟨u, hv, hx⟩ := bind_some hx
          obtain ⟨cells, hc, hx⟩ := bind_some hx
          have hv := opdV_sound h hv
          have he' : P.underlying e = some (.int .u8) := by
            unfold u8T at he
            split at he
            · assumption
            · cases he
          have hns : ∀ l, u ≠ .s l := by rintro l rfl; simp at hx
          have hb : ∃ l, bytesAv cells = some l ∧ x = .s l := by
            cases u <;> simp only at hx <;> first
              | (cases hx; done)
              | (obtain ⟨l, h1, h2⟩ := map_some hx; exact ⟨l, h1, h2.symm⟩)
          obtain ⟨l, hl, rfl⟩ := hb
          have h1 := b2s_sound (P := P) h.rel hv hc hns hl
          refine ⟨_, run_v ?_, rfl⟩
          have hu2 : ∃ p q r, a.eval y = .slice p q r := by
            cases u <;> simp only [slCells] at hc <;> first | (cases hc; done) | skip
            · exact absurd rfl (hns _)
            · simp only [vr] at hv
              obtain ⟨us, _, (⟨e, _⟩ | ⟨ad, c, e, _⟩)⟩ := hv <;> exact ⟨_, _, _, e⟩
            · simp only [vr] at hv
              obtain ⟨_, c, e, _⟩ := hv
              exact ⟨_, _, _, e⟩
          obtain ⟨p, q, r, e1⟩ := hu2
          rw [e1] at h1 ⊢
          rw [run_convert_bytes_string w sT dT e p q r hu he' hd]
          exact h1
        · cases hs
    · rename_i e
      cases hu : P.underlying sT with
      | none => simp [hu] at hs
      | some ud =>
      cases ud <;> simp only [hu] at hs <;> first | (cases hs; done) | skip
      all_goals
        split at hs
        · injection hs with hs; subst hs; simp [pev] at hx
        · cases hs
  · -- makeInterface
    rename_i t y
    have hc : P.concrete t = true ∧ s = .ifc t y := by
      unfold Program.concrete
      cases hu : P.underlying t with
      | none => simp [hu] at hs
      | some d => cases d <;> simp only [hu] at hs <;> first | (cases hs; done) | (injection hs with hs; exact ⟨rfl, hs.symm⟩)
    obtain ⟨hc, rfl⟩ := hc
    simp only [pev] at hx
    obtain ⟨u, hu, rfl⟩ := map_some hx
    refine ⟨_, run_v (run_makeInterface w t _ hc), ?_⟩
    simp only [evr, vr]
    exact ⟨_, opdV_sound h hu, rfl⟩
  · -- makeFunc
    rename_i f first cap
    injection hs with hs; subst hs
    simp only [pev] at hx
    obtain ⟨u, hu, hx⟩ := bind_some hx
    obtain ⟨v, hv, rfl⟩ := map_some hx
    have h1 := opdVs_sound h hu
    have h2 := opdVs_sound h hv
    refine ⟨_, rfl, ?_⟩
    simp only [evr, vr]
    refine ⟨_, _, h1, h2, ?_⟩
    congr 1 <;> (apply Array.ext'; simp)
  · -- makeMap
    split at hs
    · injection hs with hs; subst hs; simp [pev] at hx
    · cases hs
  · -- makeSlice
    split at hs
    · obtain ⟨i, _, hs⟩ := bind_some hs
      obtain ⟨z, _, hs⟩ := bind_some hs
      split at hs
      · injection hs with hs; subst hs; simp [pev] at hx
      · cases hs
    · cases hs
  · -- slice
    rename_i t y lo hi mx
    cases hu : P.underlying t with
    | none => simp [hu] at hs
    | some d =>
    cases d <;> simp only [hu] at hs <;> first | (cases hs; done) | skip
    · split at hs
      · rename_i hm
        injection hs with hs; subst hs
        have hm : mx = none := by simpa using hm
        subst hm
        simp only [pev] at hx
        obtain ⟨u, hv, hx1⟩ := bind_some hx
        obtain ⟨lv, hl, hx2⟩ := bind_some hx1
        obtain ⟨hv', hh, hx3⟩ := bind_some hx2
        clear hx hx1 hx2
        have hx := hx3
        clear hx3
        have hb : ∃ b l h, u = .s b ∧ bnd 0 lv = some l ∧ bnd b.length hv' = some h := by
          cases u <;> simp only [slcStr] at hx <;> first | (cases hx; done) | skip
          rename_i b
          cases e1 : bnd 0 lv with
          | none => simp [e1] at hx
          | some l =>
          cases e2 : bnd b.length hv' with
          | none => simp [e1, e2] at hx
          | some hh => exact ⟨b, l, hh, rfl, rfl, e2⟩
        obtain ⟨b, l, hq, rfl, e1, e2⟩ := hb
        obtain ⟨q, h1, h2⟩ := slcStr_sound (P := P) (opdV_sound h hv) (bndR_of h hl e1) (bndR_of h hh e2) hu hx
        exact ⟨q, run_v h1, evr_of_vr h2⟩
      · cases hs
    · rename_i e
      obtain ⟨n, hn, rfl⟩ := map_some hs
      obtain ⟨i, hi, hsz⟩ := szT_spec hn
      simp only [pev] at hx
      obtain ⟨u, hv, hx1⟩ := bind_some hx
      obtain ⟨lv, hl, hx2⟩ := bind_some hx1
      obtain ⟨hv', hh, hx3⟩ := bind_some hx2
      obtain ⟨mv, hm, hx4⟩ := bind_some hx3
      clear hx hx1 hx2 hx3
      have hx := hx4
      clear hx4
      have hb : ∃ m l h, bnd 0 lv = some l ∧ bnd m hv' = some h ∧ (mv = none ∨ ∃ k j, mv = some (.i k j)) := by
        cases u <;> simp only [slcAv] at hx <;> first | (cases hx; done) | skip
        · rename_i m cells cap
          cases e1 : bnd 0 lv with
          | none => simp [e1] at hx
          | some l =>
          cases e2 : bnd m hv' with
          | none => simp [e1, e2] at hx
          | some hq =>
          refine ⟨m, l, hq, rfl, e2, ?_⟩
          cases mv with
          | none => exact .inl rfl
          | some z => cases z <;> simp only [e1, e2] at hx <;> first | (cases hx; done) | exact .inr ⟨_, _, rfl⟩
        · rename_i id o m cap
          split at hx
          · split at hx
            · cases e1 : bnd 0 lv with
              | none => simp [e1] at hx
              | some l =>
              cases e2 : bnd m hv' with
              | none => simp [e1, e2] at hx
              | some hq =>
              refine ⟨m, l, hq, rfl, e2, ?_⟩
              cases mv with
              | none => exact .inl rfl
              | some z => cases z <;> simp only [e1, e2] at hx <;> first | (cases hx; done) | exact .inr ⟨_, _, rfl⟩
            · cases hx
          · cases hx
      obtain ⟨m, l, hq, e1, e2, e3⟩ := hb
      have hmr : bndR mv (mx.map a.eval) := by
        rcases optOpd_sound h hm with ⟨rfl, rfl⟩ | ⟨z, q, rfl, rfl, hz⟩
        · trivial
        · rcases e3 with e3 | ⟨k, j, e3⟩
          · cases e3
          · injection e3 with e3; subst e3
            simp only [vr] at hz
            exact hz
      obtain ⟨q, h1, h2⟩ := slc_sound (P := P) h.rel (opdV_sound h hv) (bndR_of h hl e1) (bndR_of h hh e2) hmr hu hi hsz hx
      exact ⟨q, run_v h1, evr_of_vr h2⟩
  · -- fieldAddr
    rename_i t y f
    cases hu : P.underlying t with
    | none => simp [hu] at hs
    | some d =>
    cases d <;> simp only [hu] at hs <;> first | (cases hs; done) | skip
    rename_i fs
    obtain ⟨fd, hf, hs⟩ := bind_some hs
    cases hsz : szT P fd.type with
    | none => simp [hsz] at hs
    | some n =>
    cases n with
    | zero => simp [hsz] at hs
    | succ n =>
    simp only [hsz] at hs
    injection hs with hs; subst hs
    obtain ⟨i, hi, hn⟩ := szT_spec hsz
    simp only [pev] at hx
    obtain ⟨u, hv, hx⟩ := bind_some hx
    obtain ⟨ad, q, h1, rfl, h2⟩ := fadr_sound (opdL_sound h hv) hx
    refine ⟨_, run_v ?_, h2⟩
    simp [Instr.fieldAt, run_underlying hu, hf, h1, Instr.sureAddr, fieldPlace, sizeOf, typeInfo, hi, hn]
  · -- field
    rename_i t y f
    cases hu : P.underlying t with
    | none => simp [hu] at hs
    | some d =>
    cases d <;> simp only [hu] at hs <;> first | (cases hs; done) | skip
    rename_i fs
    obtain ⟨fd, hf, hs⟩ := bind_some hs
    obtain ⟨sz, hsz, rfl⟩ := map_some hs
    simp only [pev] at hx
    obtain ⟨u, hv, hx⟩ := bind_some hx
    obtain ⟨q, h1, h2⟩ := fld_sound (P := P) (opdV_sound h hv) hu hf rfl (ldT_spec hsz) hx
    exact ⟨q, run_v h1, evr_of_vr h2⟩
  · -- indexAddr
    rename_i t y i
    have hix : ∃ n al, s = .iadr (lpOf H y) n al y i ∧ IxT P t n al := by
      cases hu : P.underlying t with
      | none => simp [hu] at hs
      | some d =>
      cases d <;> simp only [hu] at hs <;> first | (cases hs; done) | skip
      · obtain ⟨n, hn, rfl⟩ := map_some hs
        obtain ⟨i', hi, hsz⟩ := szT_spec hn
        exact ⟨n, none, rfl, _, i', hi, hsz, hu⟩
      · obtain ⟨n, hn, rfl⟩ := map_some hs
        obtain ⟨i', hi, hsz⟩ := szT_spec hn
        exact ⟨n, some _, rfl, _, i', hi, hsz, hu⟩
    obtain ⟨n, al, rfl, ht⟩ := hix
    simp only [pev] at hx
    obtain ⟨u, hv, hx⟩ := bind_some hx
    obtain ⟨iv, hi, hx⟩ := bind_some hx
    obtain ⟨q, h1, h2⟩ := iadr_sound (P := P) (opdL_sound h hv) (opdV_sound h hi) ht hx
    exact ⟨q, run_v h1, h2⟩
  · -- index
    rename_i t y i
    cases hu : P.underlying t with
    | none => simp [hu] at hs
    | some d =>
    cases d <;> simp only [hu] at hs <;> first | (cases hs; done) | skip
    · injection hs with hs; subst hs
      simp only [pev] at hx
      obtain ⟨u, hv, hx⟩ := bind_some hx
      obtain ⟨iv, hi, hx⟩ := bind_some hx
      obtain ⟨q, h1, h2⟩ := idxStr_sound (P := P) (opdV_sound h hv) (opdV_sound h hi) hu hx
      exact ⟨q, run_v h1, evr_of_vr h2⟩
    · obtain ⟨z, hz, hs⟩ := bind_some hs
      obtain ⟨l, hl, rfl⟩ := map_some hs
      obtain ⟨inf, hinf, hsz⟩ := szT_spec hz
      simp only [pev] at hx
      obtain ⟨u, hv, hx⟩ := bind_some hx
      obtain ⟨iv, hi, hx⟩ := bind_some hx
      obtain ⟨q, h1, h2⟩ := idx_sound (P := P) (opdV_sound h hv) (opdV_sound h hi) hu hinf hsz (ldT_spec hl) hx
      exact ⟨q, run_v h1, evr_of_vr h2⟩
  · -- lookup
    split at hs
    · obtain ⟨d, _, hs⟩ := bind_some hs
      obtain ⟨m, _, hs⟩ := bind_some hs
      obtain ⟨z, _, rfl⟩ := map_some hs
      simp [pev] at hx
    · cases hs
  · -- mapUpdate
    split at hs
    · obtain ⟨d, _, hs⟩ := bind_some hs
      obtain ⟨m, _, rfl⟩ := map_some hs
      simp [pev] at hx
    · cases hs
  · -- extract
    rename_i y i
    injection hs with hs; subst hs
    simp only [pev] at hx
    obtain ⟨u, hv, hx⟩ := bind_some hx
    obtain ⟨q, h1, h2⟩ := ext_sound (P := P) (opdV_sound h hv) hx
    exact ⟨q, run_v h1, evr_of_vr h2⟩
  · -- call
    rename_i c
    obtain ⟨callee, args, ats⟩ := c
    cases callee with
    | value f =>
      cases f <;> simp only at hs <;> first
        | (cases hs; done)
        | (injection hs with hs; subst hs; simp [pev] at hx; done)
        | (split at hs <;> first | (cases hs; done) | (injection hs with hs; subst hs; simp [pev] at hx; done))
    | invoke r m => simp only at hs; cases hs
    | builtin b =>
      cases b <;> simp only at hs <;> first
        | (cases hs; done)
        | skip
      · -- append
        split at hs
        · split at hs
          · split at hs
            · obtain ⟨i, _, hs⟩ := bind_some hs
              obtain ⟨z, _, hs⟩ := bind_some hs
              split at hs
              · injection hs with hs; subst hs; simp [pev] at hx
              · cases hs
            · obtain ⟨i, _, hs⟩ := bind_some hs
              obtain ⟨z, _, hs⟩ := bind_some hs
              split at hs
              · injection hs with hs; subst hs; simp [pev] at hx
              · cases hs
          · cases hs
        · cases hs
      · -- cap
        split at hs
        · rename_i y t ha hb
          obtain rfl := extract_shape ha
          have hb' : ats = #[t] := by apply Array.ext'; simpa using hb
          subst hb'
          have hl : s = .cap y ∧ ∃ e, P.underlying t = some (.slice e) := by
            cases hu : P.underlying t with
            | none => simp [hu] at hs
            | some d =>
            cases d <;> simp only [hu] at hs <;> first
              | (cases hs; done)
              | (injection hs with hs; exact ⟨hs.symm, ⟨_, rfl⟩⟩)
          obtain ⟨rfl, e, ht⟩ := hl
          simp only [pev] at hx
          obtain ⟨u, hv, hx⟩ := bind_some hx
          obtain ⟨q, h1, h2⟩ := cap_sound (P := P) (ty := ty) (opdV_sound h hv) ht hx
          refine ⟨q, ?_, evr_of_vr h2⟩
          simp [execOp, resolve, invoke, builtin, h1]
        · cases hs
      · -- clear
        split at hs
        · split at hs
          · obtain ⟨z, _, hs⟩ := bind_some hs
            obtain ⟨n, _, hs⟩ := bind_some hs
            split at hs
            · injection hs with hs; subst hs; simp [pev] at hx
            · cases hs
          · cases hs
        · cases hs
      · -- len
        split at hs
        · rename_i y t ha hb
          obtain rfl := extract_shape ha
          have hb' : ats = #[t] := by apply Array.ext'; simpa using hb
          subst hb'
          have hl : ∃ str, s = .len str y ∧ (if str then P.underlying t = some .string else ∃ e, P.underlying t = some (.slice e)) := by
            cases hu : P.underlying t with
            | none => simp [hu] at hs
            | some d =>
            cases d <;> simp only [hu] at hs <;> first
              | (cases hs; done)
              | (injection hs with hs; exact ⟨true, hs.symm, rfl⟩)
              | (injection hs with hs; exact ⟨false, hs.symm, ⟨_, rfl⟩⟩)
          obtain ⟨str, rfl, ht⟩ := hl
          simp only [pev] at hx
          obtain ⟨u, hv, hx⟩ := bind_some hx
          obtain ⟨q, h1, h2⟩ := len_sound (P := P) (ty := ty) (opdV_sound h hv) ht hx
          refine ⟨q, ?_, evr_of_vr h2⟩
          simp [execOp, resolve, invoke, builtin, h1]
        · cases hs
      all_goals
        split at hs
        · rename_i y z ha
          obtain rfl := extract_shape ha
          injection hs with hs; subst hs
          simp only [pev] at hx
          obtain ⟨u, hu, hx⟩ := bind_some hx
          obtain ⟨v, hv, hx⟩ := bind_some hx
          have hu := opdV_sound h hu
          have hv := opdV_sound h hv
          cases u <;> cases v <;> simp only [mnxAv] at hx <;> first | (cases hx; done) | skip
          injection hx with hx; subst hx
          simp only [vr] at hu hv
          refine ⟨_, ?_, rfl⟩
          simp [execOp, resolve, invoke, builtin, hu, hv, run_max_int2, run_min_int2]
        · cases hs
  · -- panic
    injection hs with hs; subst hs; simp [pev] at hx

end
end Go.Aw
