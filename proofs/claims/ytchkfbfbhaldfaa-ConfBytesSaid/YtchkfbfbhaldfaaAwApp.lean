/-
  append.
-/
import Derived.Test.YtchkfbfbhaldfaaAwEff
namespace Go.Aw
set_option linter.all false
open Go

/-- The types of an append: the slice's, its elements', what is appended. -/
structure AppT (P : Program) (t tx : TypeId) (esz bytes : Nat) : Prop where
  ok : ∃ e i z d, P.underlying t = some (.slice e) ∧ P.info? e = some i ∧ i.size = esz ∧ i.bytes = bytes ∧ i.zero = some z ∧ z.cells.size = esz ∧ 0 < esz ∧
    P.underlying tx = some d ∧ (∀ k, d ≠ .int k)

section
variable {P : Program} {X0 : Cx} {T0 : Tab} {w0 : World} {X : Cx} {lam : Nat → Nat} {env : Env} {L : Loc} {T : Tab} {a : Act} {w w' : World}

theorem run_append_in {t tx ty e : TypeId} {i : TypeInfo} {d : TypeDesc} (ht : P.underlying t = some (.slice e)) (hi : P.info? e = some i) (hd : P.underlying tx = some d) (hk : ∀ k, d ≠ .int k)
    {ad : Addr} {sLen sCap n : Nat} {x : Value} {news : List Value} (hlen : (Builtin.lenOf x).run P w = .ok n w) (hf : (Builtin.firstCells i.size n x).run P w = .ok news.toArray w)
    (hst : (storeCells (ad.add (sLen * i.size)) news).run P w = .ok () w') (hc : sLen + n ≤ sCap) :
    (Builtin.append_ #[t, tx] ty #[.slice (some ad) sLen sCap, x]).run P w = .ok (.slice (some ad) (sLen + n) sCap) w' := by
  have hstA : (storeCells (ad.add (sLen * i.size)) news.toArray.toList).run P w = .ok () w' := hst
  simp only [Builtin.append_]
  simp [run_underlying ht, run_underlying hd, sizeOf, typeInfo, hi, hlen, hc, hf, hst]

theorem run_append_nil0 {t tx ty e : TypeId} {i : TypeInfo} {d : TypeDesc} (ht : P.underlying t = some (.slice e)) (hi : P.info? e = some i) (hd : P.underlying tx = some d) (hk : ∀ k, d ≠ .int k)
    {x : Value} (hlen : (Builtin.lenOf x).run P w = .ok 0 w) (hf : (Builtin.firstCells i.size 0 x).run P w = .ok #[] w) :
    (Builtin.append_ #[t, tx] ty #[.slice none 0 0, x]).run P w = .ok (.slice none 0 0) w := by
  simp only [Builtin.append_]
  simp [run_underlying ht, run_underlying hd, sizeOf, typeInfo, hi, hlen, hf]

theorem run_append_new {t tx ty e : TypeId} {i : TypeInfo} {z : Value} {d : TypeDesc} (ht : P.underlying t = some (.slice e)) (hi : P.info? e = some i) (hzr : i.zero = some z) (hd : P.underlying tx = some d) (hk : ∀ k, d ≠ .int k)
    {base : Option Addr} {sLen sCap n : Nat} {x : Value} {olds news : List Value} (hlen : (Builtin.lenOf x).run P w = .ok n w)
    (hfo : (Builtin.firstCells i.size sLen (.slice base sLen sCap)).run P w.drew = .ok olds.toArray w.drew) (hf : (Builtin.firstCells i.size n x).run P w.drew = .ok news.toArray w.drew)
    (hc : sCap < sLen + n) (h63 : ((sLen + n : Nat) : Int) ≤ 9223372036854775807) (hfit : (sLen + n) * i.bytes ≤ 140737488355328) :
    (Builtin.append_ #[t, tx] ty #[.slice base sLen sCap, x]).run P w =
      .ok (.slice (some ⟨w.heap.size, 0, none⟩) (sLen + n) (grownCap w (sLen + n) sCap e))
        (w.drew.alloc (.cells (olds ++ news ++ (Builtin.zeroCells z.cells (grownCap w (sLen + n) sCap e - (sLen + n))).toList).toArray e)) := by
  have hn : ¬ (sLen + n ≤ sCap) := by omega
  have h63' : ¬ (9223372036854775807 < ((sLen : Int) + (n : Int))) := by omega
  have h48 := growslice_fits (by omega : sCap < sLen + n) hfit
  have h48' : ¬ (281474976710656 < Builtin.nextslicecap (sLen + n) sCap * i.bytes) := by omega
  simp only [Builtin.append_]
  simp [run_underlying ht, run_underlying hd, sizeOf, typeInfo, zeroValue, hi, hzr, hlen, hn, h63', h48', Question.forced, hf, hfo, newRow, grownCap]
  congr 2
  apply Array.ext'
  simp


/-- What append makes: the slice's value, the table. -/
def appStep (esz bytes : Nat) (T : Tab) (x y : AV) (K : AV → Tab → Prop) : Prop :=
  match slCells T esz y with
  | none => False
  | some news =>
    match x with
    | .fz n cells cap =>
      if slLen y = 0 then K x T else
      match cap with
      | some c => cells.length = n * esz ∧ c < n + slLen y ∧ (n + slLen y) * bytes ≤ 140737488355328 ∧ n + slLen y ≤ 9223372036854775807 ∧
          ∀ id, T id = .unused → K (.sl id 0 (n + slLen y) none) (T.put id (.row esz (cells ++ news)))
      | none => False
    | .sl id o n cap =>
      match T id with
      | .row z cells =>
        z = esz ∧ match cap with
        | none =>
          if o + n * esz = cells.length then (n + slLen y) * bytes ≤ 140737488355328 ∧ n + slLen y ≤ 9223372036854775807 ∧
            ∀ id', T id' = .unused → K (.sl id' 0 (n + slLen y) none) ((T.put id .unused).put id' (.row esz (cells.drop o ++ news)))
          else o + (n + slLen y) * esz ≤ cells.length ∧ K (.sl id o (n + slLen y) none) (T.put id (.row esz (stCells cells (o + n * esz) news)))
        | some c =>
          if c < n + slLen y then o + n * esz ≤ cells.length ∧ (n + slLen y) * bytes ≤ 140737488355328 ∧ n + slLen y ≤ 9223372036854775807 ∧
            ∀ id', T id' = .unused → K (.sl id' 0 (n + slLen y) none) (T.put id' (.row esz ((cells.drop o).take (n * esz) ++ news)))
          else o + (n + slLen y) * esz ≤ cells.length ∧ K (.sl id o (n + slLen y) (some c)) (T.put id (.row esz (stCells cells (o + n * esz) news)))
      | _ => False
    | _ => False

theorem unused_ne {T : Tab} {id id' : Nat} (h : T id ≠ .unused) (h' : T id' = .unused) : id' ≠ id := fun e => h (e ▸ h')

/-- A row that grew into a new block. -/
theorem SR.grown (h : SR X0 T0 w0 X lam env L T a w) {olds news : List Value} {cells xs : List AV} {e : TypeId} {z : Value} {esz need cap : Nat} (ho : vrs X w cells olds) (hn : vrs X w xs news)
    (h1 : ∀ u ∈ olds, u.oneCell' = true) (h2 : ∀ u ∈ news, u.oneCell' = true) (hz : z.cells.size = esz) (hl : (cells ++ xs).length = need * esz) (hcap : need ≤ cap) :
    SR X0 T0 w0 (X.addRow ⟨w.heap.size, 0, cap * esz, esz⟩) lam env L (T.put X.N (.row esz (cells ++ xs))) a (w.drew.alloc (.cells (olds ++ news ++ (Builtin.zeroCells z.cells (cap - need)).toList).toArray e)) ∧
    vr (X.addRow ⟨w.heap.size, 0, cap * esz, esz⟩) (w.drew.alloc (.cells (olds ++ news ++ (Builtin.zeroCells z.cells (cap - need)).toList).toArray e)) (.sl X.N 0 need none) (.slice (some ⟨w.heap.size, 0, none⟩) need cap) := by
  have hg : w.grownBy (w.drew.alloc (.cells (olds ++ news ++ (Builtin.zeroCells z.cells (cap - need)).toList).toArray e)) none :=
    grownBy_trans (grownBy_drew w none) (World.grownBy_alloc w.drew _ none)
  have h' := h.grow hg
  have hb : w.drew.heap.size = w.heap.size := rfl
  have e1 := (ho.append hn).length
  have hsz : (olds ++ news ++ (Builtin.zeroCells z.cells (cap - need)).toList).toArray.size = cap * esz := by
    rw [List.size_toArray, List.length_append, e1, hl, Array.length_toList, size_zeroCells, hz, ← Nat.add_mul]
    congr 1; omega
  refine ⟨?_, ?_⟩
  · have hnew := heap_alloc_new w.drew (.cells (olds ++ news ++ (Builtin.zeroCells z.cells (cap - need)).toList).toArray e)
    refine h'.addRow ⟨w.heap.size, 0, cap * esz, esz⟩ (fun h0 => absurd h.step.size (by simp only at h0; omega)) (fun hf => ?_) (fun hl => ?_) (fun l c hc e => ?_) ⟨_, e, olds ++ news, hnew, vrs.mono (.refl X) (h.fzKept_grow hg) _ _ (ho.append hn), fun u hu => ?_, fun j u hu => ?_, ?_, ?_⟩
    · exact Nat.lt_irrefl _ (h.rel.fzlt _ hf)
    · exact Nat.lt_irrefl _ (h.rel.live_lt hl)
    · have := h.rel.loc_lt hc; simp only at e; omega
    · rcases List.mem_append.1 hu with hu | hu
      · exact h1 u hu
      · exact h2 u hu
    · rw [List.getElem?_toArray, Nat.zero_add, List.getElem?_append_left (List.getElem?_eq_some_iff.1 hu).1]
      exact hu
    · rw [Nat.zero_add, hl]; exact Nat.mul_le_mul_right _ hcap
    · rw [hsz]; exact Nat.le_refl _
  · simp only [vr, Cx.addRow, if_true]
    exact ⟨by omega, cap, by simp, hcap, (fun k hk => by cases hk), (by simp), (fun _ => by simp)⟩

theorem app_sound (h : SR X0 T0 w0 X lam env L T a w) {t tx ty : TypeId} {esz bytes : Nat} (ht : AppT P t tx esz bytes) {x y : AV} {u v : Value} (hx : vr X w x u) (hy : vr X w y v) {K : AV → Tab → Prop}
    (H : appStep esz bytes T x y K) : ∃ q w' X' T' r, (Builtin.append_ #[t, tx] ty #[u, v]).run P w = .ok q w' ∧ K r T' ∧ SR X0 T0 w0 X' lam env L T' a w' ∧ vr X' w' r q := by
  obtain ⟨e, i, z, d, t1, t2, t3, t4, t5, t6, t7, t8, t9⟩ := ht.ok
  subst t3; subst t4
  unfold appStep at H
  cases hs : slCells T i.size y with
  | none => simp [hs] at H
  | some news =>
  simp only [hs] at H
  obtain ⟨nv, n1, n2, n3, n4, n5⟩ := firstCells_sound (P := P) (w' := w) h.rel hy hs rfl
  obtain ⟨nv', n1', n2', n3', n4', _⟩ := firstCells_sound (P := P) (w' := w.drew) h.rel hy hs rfl
  have hnl : news.length = slLen y * i.size := by rw [← n1.length, n3]
  cases x <;> simp only at H <;> first
    | (exact H.elim)
    | skip
  · rename_i n cells cap
    by_cases hm : slLen y = 0
    · rw [if_pos hm] at H
      rw [hm] at n4 n5
      have hnv : nv = [] := List.eq_nil_of_length_eq_zero (by rw [n3, hm, Nat.zero_mul])
      subst hnv
      have hx0 := hx
      simp only [vr] at hx
      obtain ⟨us, h1, hf⟩ := hx
      rcases hf with ⟨rfl, rfl, rfl, h4⟩ | ⟨ad, c, rfl, h2, h3, h4, h5⟩
      · exact ⟨_, w, X, T, _, run_append_nil0 t1 t2 t8 t9 n5 n4, H, h, hx0⟩
      · have := run_append_in (ty := ty) (ad := ad) (sLen := n) (sCap := c) t1 t2 t8 t9 n5 n4 (w' := w) rfl (by omega)
        exact ⟨_, w, X, T, _, this, H, h, hx0⟩
    · rw [if_neg hm] at H
      cases cap with
      | none => exact H.elim
      | some c =>
      obtain ⟨g1, g2, g3, g4, g5⟩ := H
      have hsx : slCells T i.size (.fz n cells (some c)) = some cells := by simp [slCells, g1]
      obtain ⟨ov, o1, o2, o3, o4, _⟩ := firstCells_sound (P := P) (w' := w.drew) h.rel hx hsx rfl
      have hu : ∃ base, u = .slice base n c := by
        simp only [vr] at hx
        obtain ⟨us, h1, hf⟩ := hx
        rcases hf with ⟨rfl, rfl, rfl, h4⟩ | ⟨ad, c', rfl, h2, h3, h4, h5⟩
        · exact ⟨none, by rw [h4 c rfl]⟩
        · exact ⟨some ad, by rw [h4 c rfl]⟩
      obtain ⟨base, rfl⟩ := hu
      have hr := run_append_new (ty := ty) (sLen := n) (sCap := c) t1 t2 t5 t8 t9 n5 o4 n4' g2 (by omega) g3
      have hg := h.grown (e := e) (z := z) (esz := i.size) (need := n + slLen y) (cap := grownCap w (n + slLen y) c e) o1 n1' o2 n2' t6 (by rw [List.length_append, g1, hnl, Nat.add_mul]) (grownCap_ge w _ c e)
      exact ⟨_, _, _, _, _, hr, g5 X.N (h.rel.fresh _ (Nat.le_refl _)), hg.1, hg.2⟩
  · rename_i id o n cap
    cases hT : T id with
    | unused => simp [hT] at H
    | mapo es => simp [hT] at H
    | row zz cells =>
    simp only [hT] at H
    obtain ⟨hzz, H⟩ := H
    subst hzz
    have hid : T id ≠ .unused := by simp [hT]
    have hx0 := hx
    simp only [vr] at hx
    obtain ⟨b1, c, rfl, b2, b3, b4, b5⟩ := hx
    obtain ⟨cur, e', us, r1, r2, r3, r4, r5, r6, r7⟩ := h.rel.row id i.size cells hT
    rw [r7] at b4 b5
    have e2 := r2.length
    -- a new block
    have GROW : ∀ (olds : List Value) (oc : List AV) , slCells T i.size (.sl id o n cap) = some oc → c < n + slLen y → (n + slLen y) * i.bytes ≤ 140737488355328 → n + slLen y ≤ 9223372036854775807 →
        ∃ q w' X', (Builtin.append_ #[t, tx] ty #[.slice (some ⟨(X.β id).blk, (X.β id).base + o, none⟩) n c, v]).run P w = .ok q w' ∧
          SR X0 T0 w0 X' lam env L (T.put X.N (.row i.size (oc ++ news))) a w' ∧ vr X' w' (.sl X.N 0 (n + slLen y) none) q := by
      intro _ oc hsx g2 g3 g4
      obtain ⟨ov, o1, o2, o3, o4, _⟩ := firstCells_sound (P := P) (w' := w.drew) h.rel hx0 hsx rfl
      have hr := run_append_new (ty := ty) (sLen := n) (sCap := c) t1 t2 t5 t8 t9 n5 o4 n4' g2 (by omega) g3
      have hg := h.grown (e := e) (z := z) (esz := i.size) (need := n + slLen y) (cap := grownCap w (n + slLen y) c e) o1 n1' o2 n2' t6 (by rw [List.length_append, ← o1.length, o3, hnl, Nat.add_mul]; rfl) (grownCap_ge w _ c e)
      exact ⟨_, _, _, hr, hg.1, hg.2⟩
    -- in place, among known cells
    have IN : o + (n + slLen y) * i.size ≤ cells.length → n + slLen y ≤ c →
        ∃ q w', (Builtin.append_ #[t, tx] ty #[.slice (some ⟨(X.β id).blk, (X.β id).base + o, none⟩) n c, v]).run P w = .ok q w' ∧
          SR X0 T0 w0 X lam env L (T.put id (.row i.size (stCells cells (o + n * i.size) news))) a w' ∧ vr X w' (.sl id o (n + slLen y) cap) q := by
      intro g1 g2
      rw [Nat.add_mul] at g1
      obtain ⟨w', hst, hsr⟩ := h.storeRow (P := P) hT (o := o + n * i.size) (by omega) n1 n2
      have := run_append_in (ty := ty) (ad := ⟨(X.β id).blk, (X.β id).base + o, none⟩) (sLen := n) (sCap := c) t1 t2 t8 t9 n5 n4 (w' := w') (by rw [Addr.add_none, Nat.add_assoc]; exact hst) g2
      refine ⟨_, w', this, hsr, ?_⟩
      simp only [vr, r7]
      exact ⟨b1, c, rfl, g2, b3, b4, b5⟩
    cases cap with
    | none =>
      simp only at H
      have b5 := b5 rfl
      split at H
      · rename_i hend
        obtain ⟨g3, g4, g5⟩ := H
        have hfresh := h.rel.fresh X.N (Nat.le_refl _)
        by_cases hc : n + slLen y ≤ c
        · -- in place, behind the known cells
          have hadd : (X.β id).base + o + n * i.size = (X.β id).base + cells.length := by omega
          have hfit : (X.β id).base + cells.length + nv.length ≤ cur.size := by
            rw [n3]
            have : (n + slLen y) * i.size ≤ c * i.size := Nat.mul_le_mul_right _ hc
            rw [Nat.add_mul] at this
            omega
          have hst := run_storeCells_at P (X.β id).blk ((X.β id).base + cells.length) e' nv 0 cur w r1 (by omega) n2
          simp only [Nat.add_zero] at hst
          have hrun := run_append_in (ty := ty) (ad := ⟨(X.β id).blk, (X.β id).base + o, none⟩) (sLen := n) (sCap := c) t1 t2 t8 t9 n5 n4 (by rw [Addr.add_none, hadd]; exact hst) hc
          have hg := grownBy_setRow w (X.β id).blk (cur.toList.take ((X.β id).base + cells.length) ++ nv ++ cur.toList.drop ((X.β id).base + cells.length + nv.length)).toArray
          have hk := h.rel.fzKept_row hid hg
          have hheap := setRow_heap w (X.β id).blk cur (cur.toList.take ((X.β id).base + cells.length) ++ nv ++ cur.toList.drop ((X.β id).base + cells.length + nv.length)).toArray e' (0, 0) r1
          have hspl := getElem?_splice cur.toList nv ((X.β id).base + cells.length) (by simpa using hfit)
          have hsize : (cur.toList.take ((X.β id).base + cells.length) ++ nv ++ cur.toList.drop ((X.β id).base + cells.length + nv.length)).length = cur.size := by
            simp; omega
          have s1 : SR X0 T0 w0 X lam env L (T.put id (.row i.size cells)) a _ := h.setRow hid hg ⟨_, e', us, hheap, vrs.mono (.refl X) hk _ _ r2, r3, fun j u hu => by
            rw [List.getElem?_toArray, hspl, if_pos (by have := (List.getElem?_eq_some_iff.1 hu).1; omega)]
            simpa using r4 j u hu, r5, by rw [List.size_toArray, hsize]; exact r6, r7⟩
          have s2 := s1.delRow id
          have hTT : (T.put id (.row i.size cells)).put id .unused = T.put id .unused := by funext j; simp [Tab.put]; split <;> rfl
          rw [hTT] at s2
          have s3 := s2.addRow ⟨(X.β id).blk, (X.β id).base + o, (X.β id).lim, i.size⟩ (cells := cells.drop o ++ news) ?_ ?_ ?_ ?_
            ⟨_, e', us.drop o ++ nv, hheap, vrs.mono (.refl X) hk _ _ ((r2.drop o).append n1), fun u hu => ?_, fun j u hu => ?_, ?_, by rw [List.size_toArray, hsize]; exact r6⟩
          · refine ⟨_, _, _, _, _, hrun, g5 X.N hfresh, s3, ?_⟩
            simp only [vr, Cx.addRow, if_true, Nat.add_zero]
            exact ⟨by omega, c, rfl, hc, (fun k hk => by cases hk), (by omega), (fun _ => by omega)⟩
          · exact fun h0 => h.step.livenew _ h0 ⟨id, hid, rfl⟩
          · exact h.rel.live_fz id hid
          · rintro ⟨j, hj, hjb⟩
            by_cases ej : j = id
            · subst ej; rw [Tab.put_same] at hj; exact hj rfl
            · rw [Tab.put_ne _ _ ej] at hj
              exact ej (h.rel.live_inj j id hj hid hjb)
          · intro l cc hcc hl
            exact h.rel.loc_live l cc hcc ⟨id, hid, hl.symm⟩
          · rcases List.mem_append.1 hu with hu | hu
            · exact r3 u (List.mem_of_mem_drop hu)
            · exact n2 u hu
          · have hdl : (us.drop o).length = us.length - o := List.length_drop
            have hoc : o ≤ cells.length := by omega
            simp only
            rw [List.getElem?_toArray, hspl]
            by_cases hj : j < us.length - o
            · rw [List.getElem?_append_left (by omega), List.getElem?_drop] at hu
              rw [if_pos (by omega), Nat.add_assoc]
              simpa using r4 _ u hu
            · rw [List.getElem?_append_right (by omega), hdl] at hu
              have := (List.getElem?_eq_some_iff.1 hu).1
              rw [if_neg (by omega), if_pos (by omega), ← hu]
              congr 1
              omega
          · simp only [List.length_append, List.length_drop]
            rw [hnl]
            have : (n + slLen y) * i.size ≤ c * i.size := Nat.mul_le_mul_right _ hc
            rw [Nat.add_mul] at this
            omega
        · have hsx : slCells T i.size (.sl id o n none) = some (cells.drop o) := by
            simp only [slCells, hT, hend, Nat.le_refl, and_self, if_true]
            rw [List.take_of_length_le (by rw [List.length_drop]; omega)]
          obtain ⟨q, w', X', hr, hsr, hv⟩ := GROW [] _ hsx (by omega) g3 g4
          have s2 := hsr.delRow id
          have hne : X.N ≠ id := unused_ne hid hfresh
          have hTT : (T.put X.N (.row i.size (cells.drop o ++ news))).put id .unused = (T.put id .unused).put X.N (.row i.size (cells.drop o ++ news)) := by
            funext j; simp only [Tab.put]; split
            · rename_i e; subst e; rw [if_neg (Ne.symm hne)]
            · rfl
          rw [hTT] at s2
          exact ⟨q, w', X', _, _, hr, g5 X.N hfresh, s2, hv⟩
      · obtain ⟨g1, g2⟩ := H
        have hc : n + slLen y ≤ c := by
          have : (n + slLen y) * i.size ≤ c * i.size := by omega
          exact Nat.le_of_mul_le_mul_right this t7
        obtain ⟨q, w', hr, hsr, hv⟩ := IN g1 hc
        exact ⟨q, w', X, _, _, hr, g2, hsr, hv⟩
    | some cc =>
      have hcc := b3 cc rfl
      subst hcc
      simp only at H
      split at H
      · rename_i hlt
        obtain ⟨g1, g3, g4, g5⟩ := H
        have hsx : slCells T i.size (.sl id o n (some c)) = some ((cells.drop o).take (n * i.size)) := by
          simp only [slCells, hT, g1, and_self, if_true]
        obtain ⟨q, w', X', hr, hsr, hv⟩ := GROW [] _ hsx hlt g3 g4
        exact ⟨q, w', X', _, _, hr, g5 X.N (h.rel.fresh _ (Nat.le_refl _)), hsr, hv⟩
      · rename_i hlt
        obtain ⟨g1, g2⟩ := H
        obtain ⟨q, w', hr, hsr, hv⟩ := IN g1 (by omega)
        exact ⟨q, w', X, _, _, hr, g2, hsr, hv⟩

end
end Go.Aw
