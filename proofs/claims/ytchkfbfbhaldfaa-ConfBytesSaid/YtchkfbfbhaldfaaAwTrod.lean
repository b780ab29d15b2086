/-
  From what arguments read as to abstract values: integers, truths, texts, slices and structs of such.
-/
import Derived.Test.YtchkfbfbhaldfaaAwOwn
import Derived.ProofKit
import Derived.OpenShut
namespace Go.Aw
open Go Go.ChangeShapes Go.WideShapes Go.ChangeAt Go.RowKit
set_option linter.all false

inductive Ty where
  | int (k : IntKind)
  | bool
  | str
  | sl (e : Ty)
  | st (fs : List Ty)
  | ar (n : Nat) (e : Ty)

mutual
/-- Cells of a type. -/
def Fits : Ty → List AV → Prop
  | .int k, cs => ∃ n, cs = [.i k n] ∧ (Lit.int k n).wf = true
  | .bool, cs => ∃ b, cs = [.b b]
  | .str, cs => ∃ l : List UInt8, cs = [.s l] ∧ l.length ≤ maxLen
  | .sl e, cs => ∃ ps : List (List AV), ps.length ≤ maxLen ∧ (∀ p ∈ ps, Fits e p) ∧ ∃ k, cs = [.fz ps.length ps.flatten k]
  | .st fs, cs => FitsL fs cs
  | .ar n e, cs => ∃ ps : List (List AV), ps.length = n ∧ (∀ p ∈ ps, Fits e p) ∧ cs = ps.flatten
def FitsL : List Ty → List AV → Prop
  | [], cs => cs = []
  | f :: fs, cs => ∃ a b, cs = a ++ b ∧ Fits f a ∧ FitsL fs b
end

mutual
def tyOk (P : Program) : Ty → TypeId → Bool
  | .int k, t => match P.underlying t with
    | some (.int k') => decide (k' = k)
    | _ => false
  | .bool, t => match P.underlying t with
    | some .bool => true
    | _ => false
  | .str, t => match P.underlying t with
    | some .string => true
    | _ => false
  | .sl e, t => match P.underlying t with
    | some (.slice e') => tyOk P e e'
    | _ => false
  | .st fs, t => match P.underlying t with
    | some (.struct gs) => tysOk P fs gs.toList 0 (P.cellsOf t)
    | _ => false
  | .ar n e, t => match P.underlying t with
    | some (.array m e') => decide (m = n) && tyOk P e e' && decide (P.cellsOf t = n * P.cellsOf e')
    | _ => false
def tysOk (P : Program) : List Ty → List Field → Nat → Nat → Bool
  | [], [], o, n => decide (o = n)
  | f :: fs, g :: gs, o, n => decide (g.offset = o) && tyOk P f g.type && tysOk P fs gs (o + P.cellsOf g.type) n
  | _, _, _, _ => false
end

section
variable {P : Program} {X : Cx} {W : World} {H : Type} {enc : TypeId × Value → H} {base : Nat} {sp : Nat → Bool} {held : Bool}

theorem cell_add {a : Addr} {j : Nat} {u : Value} (h : W.cell? (a.add j) = some u) : W.cell? ⟨a.block, a.off + j, none⟩ = some u := by
  by_cases hj : j = 0
  · subst hj
    have e : a.add 0 = a := by simp [Addr.add]
    rw [e] at h
    have hs : a.spot = none := by
      unfold World.cell? at h
      split at h
      · split at h
        · cases h
        · rename_i hs; simpa using hs
      · cases h
    rw [addr_eta hs] at h
    simpa using h
  · simpa [Addr.add, hj] using h

theorem add_add' (a : Addr) (i j : Nat) : (a.add i).add j = a.add (i + j) := by
  unfold Addr.add
  by_cases hi : i = 0 <;> by_cases hj : j = 0 <;> simp [hi, hj, Nat.add_assoc]

theorem cell_lt {a : Addr} {u : Value} (h : W.cell? a = some u) : a.block < W.heap.size := by
  unfold World.cell? at h
  split at h
  · rename_i hb; exact (Array.getElem?_eq_some_iff.1 hb).1
  · cases h

theorem cell_spot {a : Addr} {u : Value} (h : W.cell? a = some u) : a.spot = none := by
  unfold World.cell? at h
  split at h
  · split at h
    · cases h
    · rename_i hs; simpa using hs
  · cases h

theorem vrs_app {l m : List AV} {us vs : List Value} (h : vrs X W l us) (k : vrs X W m vs) : vrs X W (l ++ m) (us ++ vs) := by
  induction l generalizing us with
  | nil => simp only [vrs] at h; subst h; exact k
  | cons x l ih =>
    simp only [vrs] at h
    obtain ⟨u, us', rfl, h1, h2⟩ := h
    exact ⟨u, us' ++ vs, rfl, h1, ih h2⟩

/-- The elements of a slice, one behind the other. -/
theorem elems_of {z : Nat} {e : Ty} {a : Addr} {len : Nat} (h : ∀ i, i < len → ∃ cs ps, cs.length = z ∧ (∀ r, r < z → W.cell? ((a.add (i * z)).add r) = cs[r]?) ∧ vrs X W ps cs ∧ Fits e ps ∧ ∀ u ∈ cs, u.oneCell' = true) :
    ∃ (us : List Value) (ps : List (List AV)), ps.length = len ∧ us.length = len * z ∧ vrs X W ps.flatten us ∧ (∀ p ∈ ps, Fits e p) ∧ (∀ u ∈ us, u.oneCell' = true) ∧ ∀ (j : Nat) u, us[j]? = some u → W.cell? (a.add j) = some u := by
  induction len with
  | zero => exact ⟨[], [], rfl, by simp, by simp [vrs], by simp, by simp, by simp⟩
  | succ n ih =>
    obtain ⟨us, ps, h1, h2, h3, h4, h5, h6⟩ := ih fun i hi => h i (Nat.lt_succ_of_lt hi)
    obtain ⟨cs, p, k1, k2, k3, k4, k5⟩ := h n (Nat.lt_succ_self n)
    refine ⟨us ++ cs, ps ++ [p], by simp [h1], by simp [h2, k1, Nat.succ_mul], ?_, ?_, ?_, ?_⟩
    · rw [List.flatten_append]
      simpa using vrs_app h3 k3
    · intro q hq
      rcases List.mem_append.1 hq with hq | hq
      · exact h4 q hq
      · rw [List.mem_singleton] at hq; subst hq; exact k4
    · intro u hu
      rcases List.mem_append.1 hu with hu | hu
      · exact h5 u hu
      · exact k5 u hu
    · intro j u hj
      by_cases hlt : j < us.length
      · rw [List.getElem?_append_left hlt] at hj; exact h6 j u hj
      · rw [List.getElem?_append_right (by omega)] at hj
        have hr : j - us.length < z := by rw [← k1]; exact (List.getElem?_eq_some_iff.1 hj).1
        have := k2 (j - us.length) hr
        rw [hj, add_add', show n * z + (j - us.length) = j by omega] at this
        exact this

mutual
theorem fits_of (hX : ∀ b, b < W.heap.size → X.fz b) : ∀ (ty : Ty) {t : TypeId} {fuel : Nat} {cs : List Value} {x : DataW H × List MemPlace}, tyOk P ty t = true → DataW.trod enc P W base sp held fuel t cs = some x →
    ∃ avs, vrs X W avs cs ∧ Fits ty avs ∧ ∀ u ∈ cs, u.oneCell' = true
  | .int k, t, fuel, cs, x, ht, h => by
    simp only [tyOk] at ht
    split at ht
    · rename_i k' hu
      have hk : k' = k := of_decide_eq_true ht
      subst hk
      obtain ⟨n, e1, _, hw⟩ := DataW.trod_int hu h
      subst e1
      exact ⟨[.i k' n], by simp [vrs, vr], by simp only [Fits]; exact ⟨n, rfl, hw⟩, by simp [Value.oneCell']⟩
    · cases ht
  | .bool, t, fuel, cs, x, ht, h => by
    simp only [tyOk] at ht
    split at ht
    · rename_i hu
      cases fuel with
      | zero => simp [DataW.trod] at h
      | succ n =>
        unfold DataW.trod at h
        rw [hu] at h
        split at h <;> simp_all
        rename_i b
        exact ⟨[.b b], by simp [vrs, vr], by simp only [Fits]; exact ⟨b, rfl⟩, by simp [Value.oneCell']⟩
    · cases ht
  | .str, t, fuel, cs, x, ht, h => by
    simp only [tyOk] at ht
    split at ht
    · rename_i hu
      cases fuel with
      | zero => simp [DataW.trod] at h
      | succ n =>
        unfold DataW.trod at h
        rw [hu] at h
        split at h <;> simp_all
        rename_i s
        exact ⟨[.s s.data.toList], by simp [vrs, vr], by simp only [Fits]; exact ⟨_, rfl, by have h1 := h.1; rw [Array.length_toList]; exact h1⟩, by simp [Value.oneCell']⟩
    · cases ht
  | .sl e, t, fuel, cs, x, ht, h => by
    simp only [tyOk] at ht
    split at ht
    · rename_i e' hu
      rcases DataW.trod_slice hu h with ⟨rfl, _⟩ | ⟨a, len, cap, elems, rest, n, _, rfl, _, _, hl, hm, hlen, hel, _⟩
      · exact ⟨[.fz 0 [] (some 0)], by simp [vrs, vr, fzSlice, capOk], by simp only [Fits]; exact ⟨[], Nat.zero_le _, by simp, some 0, rfl⟩, by simp [Value.oneCell']⟩
      · obtain ⟨us, ps, h1, h2, h3, h4, h5, h6⟩ := elems_of (X := X) (W := W) (z := P.cellsOf e') (e := e) (a := a) (len := len) (fun i hi => by
          have k := hel i hi
          rw [List.getElem?_eq_getElem (by omega)] at k
          obtain ⟨cs', k1, k2⟩ := Option.bind_eq_some_iff.1 k
          obtain ⟨_, k3, k4⟩ := World.cells?_some k1
          obtain ⟨ps, k5, k6, k7⟩ := fits_of hX e ht k2
          exact ⟨cs', ps, k3, k4, k5, k6, k7⟩)
        refine ⟨[.fz len ps.flatten none], ?_, ?_, by simp [Value.oneCell']⟩
        · simp only [vrs, vr]
          refine ⟨_, [], rfl, ⟨us, h3, .inr ⟨a, cap, rfl, ?_, hl, (fun k hk => by cases hk), ?_⟩⟩, rfl⟩
          · cases us with
            | nil => exact .inl rfl
            | cons u us =>
              have := h6 0 u rfl
              have e0 : a.add 0 = a := by simp [Addr.add]
              rw [e0] at this
              exact .inr (cell_spot this)
          · cases us with
            | nil => exact .inl rfl
            | cons u us =>
              have := h6 0 u rfl
              have e0 : a.add 0 = a := by simp [Addr.add]
              rw [e0] at this
              exact .inr ⟨hX _ (cell_lt this), h5, fun j v hv => cell_add (h6 j v hv)⟩
        · simp only [Fits]
          exact ⟨ps, by omega, h4, none, by rw [h1]⟩
    · cases ht
  | .st fs, t, fuel, cs, x, ht, h => by
    simp only [tyOk] at ht
    split at ht
    · rename_i gs hu
      obtain ⟨xs, n, _, _, hl, hlen, hf⟩ := DataW.trod_struct hu h
      obtain ⟨avs, h1, h2, h3⟩ := fitsL_of hX fs (cs := cs) (o := 0) (n := P.cellsOf t) (m := n) (gs := gs.toList) ht (by omega) (fun g hg => by
        obtain ⟨i, hi, rfl⟩ := List.mem_iff_getElem.1 hg
        have hi' : i < gs.size := by simpa using hi
        have := hf i gs[i] (Array.getElem?_eq_getElem hi')
        rw [List.getElem?_eq_getElem (by omega)] at this
        exact ⟨_, by simpa using this⟩)
      refine ⟨avs, ?_, ?_, ?_⟩
      · simpa using h1
      · simp only [Fits]; exact h2
      · simpa using h3
    · cases ht
  | .ar n e, t, fuel, cs, x, ht, h => by
    simp only [tyOk] at ht
    split at ht
    · rename_i m e' hu
      simp only [Bool.and_eq_true, decide_eq_true_eq] at ht
      obtain ⟨⟨rfl, ht⟩, hc⟩ := ht
      obtain ⟨xs, q, _, _, hl, hlen, hf⟩ := DataW.trod_array hu h
      rw [hc] at hl
      have key : ∀ k, k ≤ m → ∃ ps : List (List AV), ps.length = k ∧ (∀ p ∈ ps, Fits e p) ∧ vrs X W ps.flatten (cs.take (k * P.cellsOf e')) ∧ ∀ u ∈ cs.take (k * P.cellsOf e'), u.oneCell' = true := by
        intro k
        induction k with
        | zero => intro _; exact ⟨[], rfl, by simp, by simp [vrs], by simp⟩
        | succ k ih =>
          intro hk
          obtain ⟨ps, h1, h2, h3, h4⟩ := ih (by omega)
          have hx := hf k (by omega)
          rw [List.getElem?_eq_getElem (by omega)] at hx
          obtain ⟨avs, a1, a2, a3⟩ := fits_of hX e ht hx
          have e1 : cs.take ((k + 1) * P.cellsOf e') = cs.take (k * P.cellsOf e') ++ (cs.drop (k * P.cellsOf e')).take (P.cellsOf e') := by
            rw [Nat.add_mul, Nat.one_mul, List.take_add]
          rw [e1]
          refine ⟨ps ++ [avs], by simp [h1], ?_, ?_, ?_⟩
          · intro p hp
            rcases List.mem_append.1 hp with hp | hp
            · exact h2 p hp
            · rw [List.mem_singleton] at hp; subst hp; exact a2
          · rw [List.flatten_append]; simpa using vrs_app h3 a1
          · intro u hu
            rcases List.mem_append.1 hu with hu | hu
            · exact h4 u hu
            · exact a3 u hu
      obtain ⟨ps, h1, h2, h3, h4⟩ := key m (Nat.le_refl _)
      rw [List.take_of_length_le (by omega)] at h3 h4
      exact ⟨ps.flatten, h3, by simp only [Fits]; exact ⟨ps, h1, h2, rfl⟩, h4⟩
    · cases ht
theorem fitsL_of (hX : ∀ b, b < W.heap.size → X.fz b) : ∀ (fs : List Ty) {gs : List Field} {o n m : Nat} {cs : List Value}, tysOk P fs gs o n = true → cs.length = n →
    (∀ g ∈ gs, ∃ x, DataW.trod enc P W base sp held m g.type ((cs.drop g.offset).take (P.cellsOf g.type)) = some x) →
    ∃ avs, vrs X W avs (cs.drop o) ∧ FitsL fs avs ∧ ∀ u ∈ cs.drop o, u.oneCell' = true
  | [], gs, o, n, m, cs, ht, hn, h => by
    cases gs with
    | cons g gs => simp [tysOk] at ht
    | nil =>
      simp only [tysOk] at ht
      have : o = n := of_decide_eq_true ht
      have e : cs.drop o = [] := List.drop_eq_nil_of_le (by omega)
      rw [e]
      exact ⟨[], by simp [vrs], by simp only [FitsL], by simp⟩
  | f :: fs, gs, o, n, m, cs, ht, hn, h => by
    cases gs with
    | nil => simp [tysOk] at ht
    | cons g gs =>
      simp only [tysOk, Bool.and_eq_true] at ht
      obtain ⟨⟨h1, h2⟩, h3⟩ := ht
      have ho : g.offset = o := of_decide_eq_true h1
      obtain ⟨x, hx⟩ := h g (List.mem_cons_self ..)
      rw [ho] at hx
      obtain ⟨a, a1, a2, a3⟩ := fits_of hX f h2 hx
      obtain ⟨b, b1, b2, b3⟩ := fitsL_of hX fs h3 hn fun g' hg' => h g' (List.mem_cons_of_mem _ hg')
      have e : cs.drop o = (cs.drop o).take (P.cellsOf g.type) ++ cs.drop (o + P.cellsOf g.type) := by
        rw [← List.drop_drop]; exact (List.take_append_drop _ _).symm
      rw [e]
      refine ⟨a ++ b, vrs_app a1 b1, ?_, ?_⟩
      · simp only [FitsL]; exact ⟨a, b, rfl, a2, b2⟩
      · intro u hu
        rcases List.mem_append.1 hu with hu | hu
        · exact a3 u hu
        · exact b3 u hu
end

def FitsV : Ty → AV → Prop
  | .st fs, a => ∃ cells, a = .agg cells ∧ FitsL fs cells
  | .ar n e, a => ∃ cells, a = .agg cells ∧ Fits (.ar n e) cells
  | ty, a => Fits ty [a]
def FitsVs : List Ty → List AV → Prop
  | [], as => as = []
  | t :: ts, as => ∃ a as', as = a :: as' ∧ FitsV t a ∧ FitsVs ts as'
def argsOk (P : Program) : List Ty → List TypeId → Bool
  | [], [] => true
  | ty :: tys, t :: ts => tyOk P ty t && argsOk P tys ts
  | _, _ => false

theorem one_of {v : Value} {avs : List AV} {ty : Ty} (h : ∀ cs, v ≠ .agg cs) (h1 : vrs X W avs v.cells.toList) (h2 : Fits ty avs) : ∃ a, vr X W a v ∧ Fits ty [a] := by
  have e : v.cells = #[v] := by
    cases v <;> first | rfl | exact absurd rfl (h _)
  rw [e] at h1
  match avs, h1 with
  | [a], h1 =>
    simp only [vrs] at h1
    obtain ⟨u, us', hu, h1, rfl⟩ := h1
    injection hu with hu; subst hu
    exact ⟨a, h1, h2⟩
  | [], h1 => simp [vrs] at h1
  | a :: b :: l, h1 =>
    simp only [vrs] at h1
    obtain ⟨u, us', hu, _, u2, us2, rfl, _⟩ := h1
    simp at hu

theorem arg_of (hX : ∀ b, b < W.heap.size → X.fz b) {ty : Ty} {t : TypeId} {v : Value} {d : DataW H} {ps : List MemPlace} {r : Reach} {b0 : Nat} (ht : tyOk P ty t = true) (hval : Value.okWide P W r b0 t v) (hd : DataW.Trod enc P W base sp held t v d ps) :
    ∃ a, vr X W a v ∧ FitsV ty a := by
  obtain ⟨fuel, h⟩ := hd
  obtain ⟨avs, h1, h2, h3⟩ := fits_of hX ty ht h
  cases ty with
  | st fs =>
    simp only [tyOk] at ht
    split at ht
    · rename_i gs hu
      unfold Value.okWide at hval
      rw [hu] at hval
      obtain ⟨cs, rfl, _⟩ := hval
      exact ⟨.agg avs, by simp only [vr]; exact ⟨cs.toList, h1, h3, by simp⟩, avs, rfl, h2⟩
    · cases ht
  | ar n e =>
    simp only [tyOk] at ht
    split at ht
    · rename_i m e' hu
      unfold Value.okWide at hval
      rw [hu] at hval
      obtain ⟨cs, rfl, _⟩ := hval
      exact ⟨.agg avs, by simp only [vr]; exact ⟨cs.toList, h1, h3, by simp⟩, avs, rfl, h2⟩
    · cases ht
  | int k =>
    refine one_of (fun cs e => ?_) h1 h2
    subst e
    simp only [tyOk] at ht
    split at ht
    · rename_i k' hu
      unfold Value.okWide Cell.okWide Cell.ok at hval
      rw [hu] at hval
      exact hval
    · cases ht
  | bool =>
    refine one_of (fun cs e => ?_) h1 h2
    subst e
    simp only [tyOk] at ht
    split at ht
    · rename_i hu
      unfold Value.okWide Cell.okWide Cell.ok at hval
      rw [hu] at hval
      exact hval
    · cases ht
  | str =>
    refine one_of (fun cs e => ?_) h1 h2
    subst e
    simp only [tyOk] at ht
    split at ht
    · rename_i hu
      unfold Value.okWide Cell.okWide Cell.ok at hval
      rw [hu] at hval
      exact hval
    · cases ht
  | sl e =>
    refine one_of (fun cs e => ?_) h1 h2
    subst e
    simp only [tyOk] at ht
    split at ht
    · rename_i e' hu
      unfold Value.okWide Cell.okWide Cell.ok at hval
      rw [hu] at hval
      exact hval
    · cases ht

theorem args_of (hX : ∀ b, b < W.heap.size → X.fz b) {r : Reach} {b0 : Nat} : ∀ {tys : List Ty} {ts : List TypeId} {vs : List Value} {ds : List (DataW H)} {ps : List MemPlace}, argsOk P tys ts = true →
    (∀ (j : Nat) t v, ts[j]? = some t → vs[j]? = some v → Value.okWide P W r b0 t v) → DataW.TrodAll enc P W base sp held ts vs ds ps → ∃ as, vrs X W as vs ∧ FitsVs tys as
  | [], [], vs, ds, ps, _, _, h => by
    obtain ⟨rfl, _, _⟩ := trodAll_nil h
    exact ⟨[], by simp [vrs], by simp only [FitsVs]⟩
  | ty :: tys, t :: ts, vs, ds, ps, ht, hv, h => by
    simp only [argsOk, Bool.and_eq_true] at ht
    obtain ⟨v, vs', d, ds', p, q, rfl, rfl, rfl, hd, hrest⟩ := trodAll_cons h
    obtain ⟨a, h1, h2⟩ := arg_of hX ht.1 (hv 0 t v rfl rfl) hd
    obtain ⟨as, h3, h4⟩ := args_of hX ht.2 (fun j t v h5 h6 => hv (j + 1) t v (by simpa using h5) (by simpa using h6)) hrest
    exact ⟨a :: as, by simp only [vrs]; exact ⟨v, vs', rfl, h1, h3⟩, by simp only [FitsVs]; exact ⟨a, as, rfl, h2, h4⟩⟩
  | [], _ :: _, _, _, _, ht, _, _ => by simp [argsOk] at ht
  | _ :: _, [], _, _, _, ht, _, _ => by simp [argsOk] at ht

theorem trodAll_below (hl : laidOutB P = true) {W' : World} (hb : Below W.heap.size W W') : ∀ {ts : List TypeId} {vs : List Value} {ds : List (DataW H)} {ps : List MemPlace}, (∀ t ∈ ts, P.readableRec t = true ∧ t < P.types.size) →
    DataW.TrodAll enc P W 0 (fun _ => true) true ts vs ds ps → (∀ x ∈ ps, x.block < W.heap.size) → DataW.TrodAll enc P W' 0 (fun b => decide (b < W.heap.size)) true ts vs ds ps
  | [], vs, ds, ps, _, h, _ => by
    obtain ⟨rfl, rfl, rfl⟩ := trodAll_nil h
    simp [DataW.TrodAll]
  | t :: ts, vs, ds, ps, hp, h, hx => by
    obtain ⟨v, vs', d, ds', p, q, rfl, rfl, rfl, hd, hrest⟩ := trodAll_cons h
    have h1 := hp t (List.mem_cons_self ..)
    exact ⟨p, q, Below.trod hl h1.1 h1.2 hd hb (fun x hm => hx x (List.mem_append_left _ hm)), trodAll_below hl hb (fun t ht => hp t (List.mem_cons_of_mem _ ht)) hrest (fun x hm => hx x (List.mem_append_right _ hm)), rfl⟩

/-- At the start all that is there is never written. -/
def cx0 (W : World) : Cx := ⟨fun b => b < W.heap.size, fun _ => default, 0⟩
theorem rel0 (W : World) : Rel (cx0 W) Tab.nil [] (fun _ => 0) W := by
  have hn : ∀ id, Tab.nil id = .unused := fun _ => rfl
  refine ⟨fun _ _ => rfl, fun b h => h, fun id z c h => ?_, fun id es h => ?_, fun id h => absurd (hn id) h, fun id id' h => absurd (hn id) h, fun l c h => ?_, fun l c h => ?_, fun l l' c c' h => ?_, fun l c h => ?_⟩
  · rw [hn] at h; cases h
  · rw [hn] at h; cases h
  · simp [aget] at h
  · simp [aget] at h
  · simp [aget] at h
  · simp [aget] at h

theorem below0 {X' : Cx} {T' : Tab} {W' : World} (h : Step (cx0 W) Tab.nil W X' T' W') : Below W.heap.size W W' :=
  ⟨h.os, h.tape, h.output, h.size, fun k hk => h.kept k hk fun ⟨id, hid, _⟩ => hid rfl⟩

/-- A law that answers true, whatever it is given. -/
theorem true_of {f : FuncId} {fn : Func} {s : ChangeSpec} {tb : TypeId} {apart fresh : Bool} (tys : List Ty) (hty : argsOk P tys fn.params.toList = true) (hr : fn.resultTypes = #[tb]) (htb : P.underlying tb = some .bool) (hvars : s.vars = [])
    (hs : ∀ (ds : List (DataW H)), ds.length = fn.params.size → s.fn H ds = { results := [.lit (.bool true)], args := ds }) (hl : laidOutB P = true) (hp : ∀ t ∈ fn.params.toList, P.readableRec t = true ∧ t < P.types.size)
    (hcall : ∀ as, FitsVs tys as → PCalls P f as (.b true)) (W : World) (base : Nat) (args : Array Value) (ds gs : List (DataW H)) (before : List MemPlace)
    (hval : ∀ (j : Nat) t v, fn.params[j]? = some t → args[j]? = some v → Value.okWide P W .any base t v) (hW : DataW.Whole enc P fn.params.toList s.vars apart W args.toList ds gs before) :
    Calls P f args W fun e W' => ∃ v, e = .returned v ∧ s.post enc P fn apart fresh false false W args v W' := by
  have hlt : ∀ p ∈ before, p.block < W.heap.size := fun p hp => hW.lt p hp
  have hW' := hW
  obtain ⟨p, q, hA, hV, rfl, hfz, hnd⟩ := hW
  rw [hvars] at hV
  obtain ⟨rfl, rfl⟩ := trodVars_none hV
  obtain ⟨as, h1, h2⟩ := args_of (X := cx0 W) (fun b hb => hb) hty (fun j t v h3 h4 => hval j t v (by simpa using h3) (by simpa using h4)) hA
  have hc := hcall as h2 Tab.nil (cx0 W) _ W args.toList (rel0 W) h1
  refine hc.mono fun e W' ⟨v, x, T', X', lam', he, ⟨hx, _⟩, hv, _, hst⟩ => ?_
  subst he; subst hx
  simp only [vr] at hv
  subst hv
  have hb := below0 hst
  have hlen : ds.length = fn.params.size := by
    have key : ∀ {ts : List TypeId} {vs : List Value} {ds : List (DataW H)} {ps : List MemPlace}, DataW.TrodAll enc P W 0 (fun _ => true) true ts vs ds ps → ds.length = ts.length := by
      intro ts
      induction ts with
      | nil => intro vs ds ps h; obtain ⟨_, rfl, _⟩ := trodAll_nil h; rfl
      | cons t ts ih => intro vs ds ps h; obtain ⟨v, vs', d, ds', p, q, rfl, rfl, rfl, hd, hrest⟩ := trodAll_cons h; simp [ih hrest]
    simpa using key hA
  simp only [List.append_nil] at hlt
  have hs' := hs ds hlen
  refine ⟨_, rfl, ds, [], p ++ [], [], p, [], hW', ?_, ?_, ?_, hb.frame _, fun h => nomatch h⟩
  · rw [List.append_nil, hs', hr]
    exact trodAll_mk1 (RowKit.shut_bool htb true)
  · rw [List.append_nil, hs']
    exact trodAll_below hl hb hp hA hlt
  · rw [hvars, List.append_nil, hs']
    rfl
end
end Go.Aw
