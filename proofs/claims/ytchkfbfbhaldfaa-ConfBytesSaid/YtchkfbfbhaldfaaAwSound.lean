/-
  The program's operations do what is said of them: those that change nothing.
-/
import Derived.Test.YtchkfbfbhaldfaaAwTr
import Derived.Laws.StructEq
namespace Go.Aw
set_option linter.all false
open Go

section
variable {P : Program} {X0 : Cx} {T0 : Tab} {w0 : World} {X : Cx} {lam : Nat → Nat} {env : Env} {L : Loc} {T : Tab} {a : Act} {w w' : World}

theorem opdV_sound (h : SR X0 T0 w0 X lam env L T a w) {o : Operand} {x : AV} (ho : opdV env o = some x) : vr X w x (a.eval o) := by
  unfold opdV at ho
  cases hx : opd env o with
  | none => simp [hx] at ho
  | some y =>
    simp only [hx] at ho
    split at ho
    · rename_i hl
      injection ho with ho; subst ho
      exact vr_of_evr (opd_sound h hx) (by cases y <;> first | rfl | (simp [AV.plain] at hl))
    · cases ho

theorem opdL_sound (h : SR X0 T0 w0 X lam env L T a w) {l : Option Nat} {o : Operand} {x : AV} (ho : opdL env l o = some x) : evr X lam w x (a.eval o) := by
  cases l with
  | none => exact evr_of_vr (opdV_sound h ho)
  | some l =>
    simp only [opdL] at ho
    cases hx : opd env o with
    | none => simp [hx] at ho
    | some y =>
      cases y <;> simp only [hx] at ho <;> first | (cases ho; done) | skip
      split at ho
      · injection ho with ho; subst ho; exact opd_sound h hx
      · cases ho

theorem opdVs_sound (h : SR X0 T0 w0 X lam env L T a w) : ∀ {l : List Operand} {xs : List AV}, opdVs env l = some xs → vrs X w xs (l.map a.eval)
  | [], xs, ho => by simp only [opdVs] at ho; injection ho with ho; subst ho; rfl
  | o :: l, xs, ho => by
    simp only [opdVs] at ho
    cases hx : opdV env o with
    | none => simp [hx] at ho
    | some y =>
    cases hr : opdVs env l with
    | none => simp [hx, hr] at ho
    | some r =>
    simp only [hx, hr] at ho
    injection ho with ho; subst ho
    exact ⟨_, _, rfl, opdV_sound h hx, opdVs_sound h hr⟩

theorem optOpd_sound (h : SR X0 T0 w0 X lam env L T a w) {o : Option Operand} {x : Option AV} (ho : optOpd env o = some x) :
    (x = none ∧ o = none) ∨ ∃ y q, x = some y ∧ o = some q ∧ vr X w y (a.eval q) := by
  cases o with
  | none => simp only [optOpd] at ho; injection ho with ho; exact .inl ⟨ho.symm, rfl⟩
  | some q =>
    simp only [optOpd] at ho
    cases hx : opdV env q with
    | none => simp [hx] at ho
    | some y => simp [hx] at ho; exact .inr ⟨y, q, ho.symm, rfl, opdV_sound h hx⟩

/-- A bound of a part, as the model has it. -/
theorem bndR_of (h : SR X0 T0 w0 X lam env L T a w) {o : Option Operand} {x : Option AV} {d n : Nat} (ho : optOpd env o = some x) (hb : bnd d x = some n) : bndR x (o.map a.eval) := by
  rcases optOpd_sound h ho with ⟨rfl, rfl⟩ | ⟨y, q, rfl, rfl, hv⟩
  · trivial
  · cases y <;> simp only [bnd] at hb <;> first | (cases hb; done) | skip
    simp only [vr] at hv
    exact hv

theorem szT_spec {t : TypeId} {n : Nat} (h : szT P t = some n) : ∃ i, P.info? t = some i ∧ i.size = n := by
  unfold szT at h
  cases hi : P.info? t with
  | none => simp [hi] at h
  | some i => simp [hi] at h; exact ⟨i, rfl, h⟩

theorem ldT_spec {t : TypeId} {sz : Option Nat} (h : ldT P t = some sz) : LdT P t sz := by
  intro w
  unfold ldT at h
  cases hu : P.underlying t with
  | none => simp [hu] at h
  | some d =>
    have key : (∀ fs, d ≠ .struct fs) → (∀ n e, d ≠ .array n e) → sz = none → (isAgg t).run P w = .ok false w := fun h1 h2 _ => by
      cases d <;> first
        | (exact absurd rfl (h1 _))
        | (exact absurd rfl (h2 _ _))
        | simp [isAgg, run_underlying hu]
    cases d with
    | struct fs =>
      simp only [hu] at h
      cases hs : szT P t with
      | none => simp [hs] at h
      | some n =>
        simp [hs] at h; subst h
        obtain ⟨i, hi, hn⟩ := szT_spec hs
        exact ⟨by simp [isAgg, run_underlying hu], by simp [sizeOf, typeInfo, hi, hn]⟩
    | array n e =>
      simp only [hu] at h
      cases hs : szT P t with
      | none => simp [hs] at h
      | some n =>
        simp [hs] at h; subst h
        obtain ⟨i, hi, hn⟩ := szT_spec hs
        exact ⟨by simp [isAgg, run_underlying hu], by simp [sizeOf, typeInfo, hi, hn]⟩
    | _ =>
      simp only [hu] at h
      injection h with h; subst h
      exact key (fun _ h => by cases h) (fun _ _ h => by cases h) rfl

theorem cavs_sound (X : Cx) (w : World) : ∀ {vs : List Value} {xs : List AV}, cavs vs = some xs → vrs X w xs vs ∧ ∀ u ∈ vs, u.oneCell' = true
  | [], xs, h => by simp only [cavs] at h; injection h with h; subst h; exact ⟨rfl, by simp⟩
  | v :: l, xs, h => by
    simp only [cavs] at h
    cases hx : cav v with
    | none => simp [hx] at h
    | some y =>
    cases hr : cavs l with
    | none => simp [hx, hr] at h
    | some r =>
    simp only [hx, hr] at h
    injection h with h; subst h
    obtain ⟨h1, h2⟩ := cav_sound (X := X) (w := w) hx
    obtain ⟨h3, h4⟩ := cavs_sound X w hr
    refine ⟨⟨_, _, rfl, h1, h3⟩, fun u hu => ?_⟩
    rcases List.mem_cons.1 hu with rfl | hu
    · exact h1.one h2
    · exact h4 u hu

theorem zeroT_spec {t : TypeId} {z : List AV} (h : zeroT P t = some z) : ∃ i v, P.info? t = some i ∧ i.zero = some v ∧ cavs v.cells.toList = some z := by
  unfold zeroT at h
  cases hi : P.info? t with
  | none => simp [hi] at h
  | some i =>
    cases hz : i.zero with
    | none => simp [hi, hz] at h
    | some v => simp [hi, hz] at h; exact ⟨i, v, rfl, hz, h⟩

theorem zeroT_run {t : TypeId} {z : List AV} (h : zeroT P t = some z) : ∃ v, (zeroValue t).run P w = .ok v w ∧ vrs X w z v.cells.toList ∧ (∀ u ∈ v.cells.toList, u.oneCell' = true) := by
  obtain ⟨i, v, hi, hz, hc⟩ := zeroT_spec h
  obtain ⟨h1, h2⟩ := cavs_sound X w hc
  exact ⟨v, by simp [zeroValue, typeInfo, hi, hz], h1, h2⟩

theorem sto_cells {x : AV} {v : Value} (h : vr X w x v) (hs : x.sto = true) : vrs X w x.cells v.cells.toList ∧ (∀ u ∈ v.cells.toList, u.oneCell' = true) ∧ v.cells.size = x.cells.length := by
  have : x.isOne = true ∨ ∃ l, x = .agg l := by
    cases x <;> first | exact .inl hs | exact .inr ⟨_, rfl⟩
  obtain ⟨h1, h2⟩ := h.cells this
  exact ⟨h1, h2, by rw [← h1.length]; simp⟩

def SkT (P : Program) (k : SK) (t : TypeId) : Prop :=
  match k with
  | .b => P.underlying t = some .bool
  | .i => ∃ k, P.underlying t = some (.int k)
  | .s => P.underlying t = some .string

theorem scalarEq_sound {k : SK} {x y : AV} {u v : Value} {r : Bool} {t : TypeId} (hx : vr X w x u) (hy : vr X w y v) (h : scalarEq k x y = some r)
    (ht : SkT P k t) (d : Nat) : (Op.equalIn (d + 1) t u v).run P w = .ok r w := by
  cases k <;> cases x <;> cases y <;> simp only [scalarEq, SkT] at h ht <;> first
    | (cases h; done)
    | skip
  · rename_i p q
    injection h with h; subst h
    simp only [vr] at hx hy
    subst hx; subst hy
    rw [run_equalIn_bool' w d t p q ht]
    cases p <;> cases q <;> rfl
  · rename_i k n k' m
    split at h
    · rename_i hk
      subst hk
      injection h with h; subst h
      simp only [vr] at hx hy
      subst hx; subst hy
      obtain ⟨k2, ht⟩ := ht
      rw [run_equalIn_int w d t k k2 n m ht]
      congr 1
    · cases h
  · rename_i l m
    injection h with h; subst h
    simp only [vr] at hx hy
    subst hx; subst hy
    rw [run_equalIn_string w d t _ _ ht, bytes_toList, bytes_toList, lbeq]

theorem aggEq_length : ∀ {ks : List SK} {xs ys : List AV} {r : Bool}, aggEq ks xs ys = some r → xs.length = ks.length ∧ ys.length = ks.length
  | [], [], [], _, _ => ⟨rfl, rfl⟩
  | [], _ :: _, _, _, h => by simp [aggEq] at h
  | [], [], _ :: _, _, h => by simp [aggEq] at h
  | _ :: _, [], _, _, h => by simp [aggEq] at h
  | _ :: _, _ :: _, [], _, h => by simp [aggEq] at h
  | k :: ks, x :: xs, y :: ys, r, h => by
    simp only [aggEq] at h
    cases h1 : scalarEq k x y with
    | none => simp [h1] at h
    | some p =>
    cases h2 : aggEq ks xs ys with
    | none => simp [h1, h2] at h
    | some q =>
    have := aggEq_length h2
    simp [this.1, this.2]

theorem aggEq_append : ∀ {ks ks' : List SK} {xs ys : List AV} {r : Bool}, aggEq (ks ++ ks') xs ys = some r →
    ∃ p q, aggEq ks (xs.take ks.length) (ys.take ks.length) = some p ∧ aggEq ks' (xs.drop ks.length) (ys.drop ks.length) = some q ∧ r = (p && q)
  | [], ks', xs, ys, r, h => ⟨true, r, by simp [aggEq], by simpa using h, by simp⟩
  | k :: ks, ks', [], _, _, h => by simp [aggEq] at h
  | k :: ks, ks', _ :: _, [], _, h => by simp [aggEq] at h
  | k :: ks, ks', x :: xs, y :: ys, r, h => by
    simp only [List.cons_append, aggEq] at h
    cases h1 : scalarEq k x y with
    | none => simp [h1] at h
    | some p =>
    cases h2 : aggEq (ks ++ ks') xs ys with
    | none => simp [h1, h2] at h
    | some q =>
    simp only [h1, h2] at h
    injection h with h; subst h
    obtain ⟨p', q', e1, e2, rfl⟩ := aggEq_append h2
    exact ⟨p && p', q', by simp [aggEq, h1, e1], by simpa using e2, by simp [Bool.and_assoc]⟩

/-- The value of some cells, of a type. -/
def valOf (P : Program) (t : TypeId) (us : List Value) : Value :=
  match P.underlying t with
  | some (.struct _) => .agg us.toArray
  | _ => us.headD undef

theorem flatK_eq : ∀ (d : Nat) {t : TypeId} {ks : List SK}, flatK P d t = some ks → ∀ {xs ys : List AV} {us vs : List Value} {r : Bool}, vrs X w xs us → vrs X w ys vs → aggEq ks xs ys = some r →
    ∀ e, (Op.equalIn (d + e) t (valOf P t us) (valOf P t vs)).run P w = .ok r w
  | 0, t, ks, h, _, _, _, _, _, _, _, _, _ => by simp [flatK] at h
  | d + 1, t, ks, h, xs, ys, us, vs, r, hx, hy, hr, e => by
    simp only [flatK] at h
    cases hu : P.underlying t with
    | none => simp [hu] at h
    | some dd =>
    have scalar : ∀ k, ks = [k] → SkT P k t → (∀ us : List Value, valOf P t us = us.headD undef) →
        (Op.equalIn (d + 1 + e) t (valOf P t us) (valOf P t vs)).run P w = .ok r w := by
      intro k hk ht hv
      subst hk
      match xs, ys, hx, hy, hr with
      | [], _, _, _, hr => simp [aggEq] at hr
      | _ :: _, [], _, _, hr => simp [aggEq] at hr
      | _ :: _ :: _, _ :: _, _, _, hr => simp [aggEq] at hr
      | [_], _ :: _ :: _, _, _, hr => simp [aggEq] at hr
      | [x], [y], hx, hy, hr =>
        simp only [aggEq] at hr
        cases h1 : scalarEq k x y with
        | none => simp [h1] at hr
        | some p =>
        simp only [h1, Bool.and_true] at hr
        injection hr with hr; subst hr
        simp only [vrs] at hx hy
        obtain ⟨u, us', rfl, hx', rfl⟩ := hx
        obtain ⟨v, vs', rfl, hy', rfl⟩ := hy
        rw [hv, hv, show d + 1 + e = (d + e) + 1 by omega]
        exact scalarEq_sound hx' hy' h1 ht (d + e)
    cases dd <;> simp only [hu] at h <;> first
      | (cases h; done)
      | skip
    · injection h with h; exact scalar .b h.symm hu (fun us => by simp [valOf, hu])
    · injection h with h; exact scalar .i h.symm ⟨_, hu⟩ (fun us => by simp [valOf, hu])
    · injection h with h; exact scalar .s h.symm hu (fun us => by simp [valOf, hu])
    · rename_i fs
      split at h
      · cases h
      · rename_i hst
        have hst : P.stoodInHeld t = false := by simpa using hst
        have hf : P.fieldsOf t = fs := by simp [Program.fieldsOf, hu]
        simp only [valOf, hu]
        rw [show d + 1 + e = (d + e) + 1 by omega, run_equalIn_struct w (d + e) t _ _ (by rw [hf]; exact hu) hst, hf]
        -- field by field
        have key : ∀ (l : List Field) (off : Nat) (kk : List SK), flatFs P (flatK P d) l off = some kk → ∀ (r : Bool), aggEq kk (xs.drop off) (ys.drop off) = some r →
            (Op.eqFields (d + e) us.toArray vs.toArray l).run P w = .ok r w := by
          intro l
          induction l with
          | nil =>
            intro off kk hk r hr
            simp only [flatFs] at hk
            injection hk with hk; subst hk
            cases hxs : xs.drop off <;> cases hys : ys.drop off <;> simp [aggEq, hxs, hys] at hr
            subst hr
            simp [Op.eqFields]
          | cons f l ihl =>
            intro off kk hk r hr
            simp only [flatFs] at hk
            split at hk
            · rename_i hc
              simp only [Bool.and_eq_true, bne_iff_ne, ne_eq, beq_iff_eq] at hc
              cases hg : flatK P d f.type with
              | none => simp [hg] at hk
              | some k1 =>
              simp only [hg] at hk
              split at hk
              · rename_i hsz
                cases hrest : flatFs P (flatK P d) l (off + k1.length) with
                | none => simp [hrest] at hk
                | some k2 =>
                simp only [hrest, Option.map_some] at hk
                injection hk with hk; subst hk
                obtain ⟨p, q, e1, e2, rfl⟩ := aggEq_append hr
                rw [List.drop_drop] at e2
                have h2 := ihl (off + k1.length) k2 hrest q (by simpa [List.drop_drop] using e2)
                have hne : f.name ≠ "_" := hc.1
                have l1 := aggEq_length e1
                have part_ok : ∀ {zs : List AV} {ws : List Value}, vrs X w zs ws → ((zs.drop off).take k1.length).length = k1.length → (part f.type ws.toArray f.offset).run P w = .ok (valOf P f.type ((ws.drop off).take k1.length)) w := by
                  intro zs ws hz hlen
                  have hwl : ((ws.drop off).take k1.length).length = k1.length := ((hz.drop off).take k1.length).length.trans hlen
                  obtain ⟨i, hi, hsi⟩ := szT_spec hsz
                  rw [hc.2]
                  cases d with
                  | zero => simp [flatK] at hg
                  | succ d' =>
                  simp only [flatK] at hg
                  cases hfu : P.underlying f.type with
                  | none => simp [hfu] at hg
                  | some df =>
                  have one : k1.length = 1 → (∀ us : List Value, valOf P f.type us = us.headD undef) → (isAgg f.type).run P w = .ok false w → (part f.type ws.toArray off).run P w = .ok (valOf P f.type ((ws.drop off).take k1.length)) w := by
                    intro h1 hv hag
                    rw [hv, h1]
                    rw [h1] at hwl
                    have hlt : off < ws.length := by simp at hwl; omega
                    have : ws[off]? = some ws[off] := List.getElem?_eq_getElem hlt
                    have hd : (ws.drop off).take 1 = [ws[off]] := by
                      rw [List.drop_eq_getElem_cons hlt]; rfl
                    rw [hd]
                    simp [part, hag, this]
                  cases df <;> simp only [hfu] at hg <;> first
                    | (cases hg; done)
                    | (injection hg with hg; exact one (by rw [← hg]; rfl) (fun us => by simp [valOf, hfu]) (by simp [isAgg, run_underlying hfu]))
                    | skip
                  simp only [valOf, hfu, part, Sem.run_bind, isAgg, run_underlying hfu, Result.andThen_ok, Sem.run_pure, if_true, sizeOf, typeInfo, run_program, hi, hsi]
                  congr 2
                  apply Array.ext'
                  simp [List.take_drop]
                have l1' : ((xs.drop off).take k1.length).length = k1.length ∧ ((ys.drop off).take k1.length).length = k1.length := l1
                have a1 := part_ok hx l1'.1
                have a2 := part_ok hy l1'.2
                have a3 := flatK_eq d hg ((hx.drop off).take k1.length) ((hy.drop off).take k1.length) e1 e
                rw [Op.eqFields]
                simp only [if_pos hne, Sem.run_bind, a1, a2, a3, Result.andThen_ok]
                cases p
                · simp
                · simpa using h2
              · cases hk
            · cases hk
        exact key fs.toList 0 ks h r (by simpa using hr)

end
end Go.Aw
