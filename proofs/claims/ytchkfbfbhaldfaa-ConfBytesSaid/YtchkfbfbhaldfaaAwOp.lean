/-
  The program's operations do what is said of them.
-/
import Derived.Test.YtchkfbfbhaldfaaAwSound3
import Derived.Laws.MakeOwn
namespace Go.Aw
set_option linter.all false
open Go

/-- Behind a step: the state is again described, and what is asked holds of the description. -/
def Nx (X0 : Cx) (T0 : Tab) (w0 : World) (n : Nat) (K : Env → Loc → Tab → Prop) (a : Act) (w : World) : Prop :=
  ∃ X lam env L T, K env L T ∧ SR X0 T0 w0 X lam env L T a w ∧ a.tmps.size = n

section
variable {P : Program} {X0 : Cx} {T0 : Tab} {w0 : World} {X : Cx} {lam : Nat → Nat} {env : Env} {L : Loc} {T : Tab} {a : Act} {w w' : World}

theorem Nx.put {X : Cx} {lam : Nat → Nat} {K : Env → Loc → Tab → Prop} (h : SR X0 T0 w0 X lam env L T a w) {d : Option Nat} (hd : ∀ k, d = some k → k < a.tmps.size) {x : AV} {v : Value} (hv : evr X lam w x v)
    (hk : K (eset env d x) L T) : Nx X0 T0 w0 a.tmps.size K (a.put d v) w := by
  cases d with
  | none => exact ⟨X, lam, env, L, T, hk, h, rfl⟩
  | some k => exact ⟨X, lam, aset env k x, L, T, hk, h.put (hd k rfl) hv, by simp [Act.put]⟩

theorem wp_value {o : Oper} {v : Value} {K : Act → World → Prop} {Q : Exit → Act → World → Prop} (h : (execOp a.eval o).run P w = .ok (.value v) w') (hk : K (a.put o.dst v) w') : o.wp P a w K Q := by
  unfold Oper.wp; rw [h]; exact hk

theorem wp_skip' {o : Oper} {K : Act → World → Prop} {Q : Exit → Act → World → Prop} (h : (execOp a.eval o).run P w = .ok .skip w') (hk : K (a.put o.dst undef) w') : o.wp P a w K Q := by
  unfold Oper.wp; rw [h]; exact hk

theorem vr_undef : vr X w (.tup []) undef := ⟨[], rfl, rfl⟩

/-- A run that makes cells in a row. -/
theorem run_newVar (t : TypeId) (v : Value) : (newVar t v).run P w = .ok ⟨w.heap.size, 0, none⟩ (w.alloc (.cells v.cells t)) := by
  simp [newVar, newRow]

theorem run_alloc_new {t : TypeId} {v : Value} (hz : (zeroValue t).run P w = .ok v w) : (Instr.alloc t true (.tuple #[])).run P w = .ok (.pointer (some ⟨w.heap.size, 0, none⟩)) (w.alloc (.cells v.cells t)) := by
  simp [Instr.alloc, hz, run_newVar]

theorem SR.newLocPut (h : SR X0 T0 w0 X lam env L T a w) {l : Nat} (hl : l < a.tmps.size) {cells : List AV} {us : Array Value} (e : TypeId) (hv : vrs X w cells us.toList) (h1 : ∀ u ∈ us.toList, u.oneCell' = true)
    {K : Env → Loc → Tab → Prop} (hk : K (aset (dropLp env l) l (.lp l 0)) (aset L l cells) T) :
    Nx X0 T0 w0 a.tmps.size K (a.put (some l) (.pointer (some ⟨w.heap.size, 0, none⟩))) (w.alloc (.cells us e)) := by
  have := h.allocLoc l e hv h1
  simp only [Array.toArray_toList] at this
  exact ⟨_, _, _, _, _, hk, this.put hl (by simp [evr]), by simp [Act.put]⟩

theorem SR.newRowPut (h : SR X0 T0 w0 X lam env L T a w) {d : Option Nat} (hd : ∀ k, d = some k → k < a.tmps.size) (esz : Nat) {cells : List AV} {us : Array Value} (e : TypeId) (hv : vrs X w cells us.toList) (h1 : ∀ u ∈ us.toList, u.oneCell' = true)
    {K : Env → Loc → Tab → Prop} (hk : ∀ id, T id = .unused → K (eset env d (.ptr id 0)) L (T.put id (.row esz cells))) :
    Nx X0 T0 w0 a.tmps.size K (a.put d (.pointer (some ⟨w.heap.size, 0, none⟩))) (w.alloc (.cells us e)) := by
  have := h.allocRow esz e hv h1
  simp only [Array.toArray_toList] at this
  refine Nx.put this hd (x := .ptr X.N 0) ?_ (hk X.N (h.rel.fresh _ (Nat.le_refl _)))
  simp [evr, vr, Cx.addRow]

theorem SR.newFzPut (h : SR X0 T0 w0 X lam env L T a w) {d : Option Nat} (hd : ∀ k, d = some k → k < a.tmps.size) {cells : List AV} {us : Array Value} (e : TypeId) (hv : vrs X w cells us.toList) (h1 : ∀ u ∈ us.toList, u.oneCell' = true)
    {x : AV} {v : Value} {K : Env → Loc → Tab → Prop} (hk : K (eset env d x) L T)
    (hx : ∀ X' w', vrs X' w' cells us.toList → FzRow X' w' ⟨w.heap.size, 0, none⟩ us.toList → vr X' w' x v) : Nx X0 T0 w0 a.tmps.size K (a.put d v) (w.alloc (.cells us e)) := by
  have hg := World.grownBy_alloc w (.cells us e) none
  have := h.allocFz hg (b := w.heap.size) (Nat.le_refl _) (by simp)
  have hv' := vrs.mono (X.le_addFz w.heap.size) (h.fzKept_grow hg) _ _ hv
  refine Nx.put this hd (evr_of_vr (hx _ _ hv' (.inr ⟨.inr rfl, h1, fun j u hu => ?_⟩))) hk
  rw [cell_of_row _ w.heap.size (0 + j) us e (0, 0) (heap_alloc_new w _)]
  simpa using hu

theorem rep_zero (z : Array Value) : ∀ n, (Builtin.zeroCells z n).toList = rep z.toList n := by
  intro n
  have key : ∀ n, (List.range (n * z.size)).map (fun i => z[i % z.size]!) = rep z.toList n := by
    intro n
    induction n with
    | zero => simp [rep]
    | succ n ih =>
      rw [show (n + 1) * z.size = z.size + n * z.size by rw [Nat.add_mul, Nat.one_mul, Nat.add_comm], List.range_add, List.map_append, List.map_map, rep, ← ih]
      congr 1
      · apply List.ext_getElem?
        intro j
        by_cases hj : j < z.size
        · simp [hj, Nat.mod_eq_of_lt hj]
        · simp [hj]
      · apply List.map_congr_left
        intro i _
        simp
  rw [← key n]
  simp [Builtin.zeroCells]

theorem vrs.rep {z : List AV} {us : List Value} (h : vrs X w z us) : ∀ n, vrs X w (Aw.rep z n) (Aw.rep us n)
  | 0 => rfl
  | n + 1 => h.append (vrs.rep h n)

theorem mem_rep {α : Type} {x : α} {l : List α} : ∀ {n : Nat}, x ∈ rep l n → x ∈ l
  | n + 1, h => by
    rcases List.mem_append.1 h with h | h
    · exact h
    · exact mem_rep h

theorem rep_length {α : Type} (l : List α) : ∀ n, (rep l n).length = n * l.length
  | 0 => by simp [rep]
  | n + 1 => by rw [rep, List.length_append, rep_length l n, Nat.add_mul, Nat.one_mul, Nat.add_comm]

theorem callable_run {f : FuncId} (h : callable P f = true) (args : Array Value) : (callFunc f args).run P w = .ok (.enter f args) w := by
  unfold callable at h
  cases hf : P.funcs[f]? with
  | none => simp [hf] at h
  | some fn =>
    simp only [hf, Bool.and_eq_true, bne_iff_ne, ne_eq] at h
    have hb : fn.body ≠ none := by intro e; simp [e] at h
    simp [callFunc, hf, h.1, hb]

theorem vr_isLp {x : AV} {v : Value} (h : vr X w x v) : x.isLp = false := by
  cases x <;> first | rfl | (simp [vr] at h)

/-- A call of what is known to be so. -/
theorem call_step (h : SR X0 T0 w0 X lam env L T a w) {d : Option Nat} (hd : ∀ k, d = some k → k < a.tmps.size) {f : FuncId} {avs : List AV} {vs : List Value} (hv : vrs X w avs vs) {S : List Nat} (hn : S.Nodup) (hl : ∀ id ∈ S, T id ≠ .unused)
    {R : AV → Tab → Prop} (hc : ACalls P f (avs.map (frzv T S)) (kill T S) R) {K : Env → Loc → Tab → Prop} (hk : ∀ v T', R v T' ∧ v.isLp = false → K (eset env d v) L T') :
    Calls P f vs.toArray w fun
      | .returned v, w'' => Nx X0 T0 w0 a.tmps.size K (a.put d v) w''
      | _, _ => False := by
  have h' := h.freezes S hn hl
  have hw : SR X0 T0 w0 (X.addFzs S) lam [] [] (kill T S) a w := h'.weaken (fun _ _ hx => by simp [aget] at hx) (fun _ _ hx => by simp [aget] at hx)
  refine (hc (X.addFzs S) lam w vs hw.rel (hv.map fun x v hx => frzv_sound h.rel hx)).mono ?_
  rintro e w'' ⟨v, x, T', X', lam', rfl, hR, hx, hr, hs⟩
  exact Nx.put (h'.call hs hr) hd (evr_of_vr hx) (hk x T' ⟨hR, vr_isLp hx⟩)


theorem SR.opdV (h : SR X0 T0 w0 X lam env L T a w) {o : Operand} {x : AV} (ho : Aw.opdV env o = some x) : vr X w x (a.eval o) := opdV_sound h ho

/-- An operation that makes no value that is asked for. -/
theorem Nx.undef {K : Env → Loc → Tab → Prop} (h : SR X0 T0 w0 X lam env L T a w) {d : Option Nat} (hd : ∀ k, d = some k → k < a.tmps.size) (hk : K (eset env d (.tup [])) L T) : Nx X0 T0 w0 a.tmps.size K (a.put d Go.undef) w :=
  Nx.put h hd (x := .tup []) (evr_of_vr vr_undef) hk

/-- A slice of bytes that is turned into one: the run-time marks its array. -/
theorem cvm_sound (h : SR X0 T0 w0 X lam env L T a w) {id o n : Nat} {cap : Option Nat} {cells : List AV} {v : Value} {t e : TypeId} (hT : T id = .row 1 cells) (_hle : o + n ≤ cells.length) (hv : vr X w (.sl id o n cap) v)
    (ht : P.underlying t = some (.slice e)) (he : P.underlying e = some (.int .u8)) :
    ∃ w', (convert t t v).run P w = .ok v w' ∧ SR X0 T0 w0 (X.addFz (X.β id).blk) lam env L (T.put id .unused) a w' ∧ vr (X.addFz (X.β id).blk) w' (.fz n ((cells.drop o).take n) cap) v := by
  have hid : T id ≠ .unused := by simp [hT]
  simp only [vr] at hv
  obtain ⟨h1, c, rfl, h3, h4, h5⟩ := hv
  obtain ⟨cur, ee, us, r1, r2, r3, r4, r5, r6, r7⟩ := h.rel.row id 1 cells hT
  have hsh : w.shape? (X.β id).blk = some (ee, cur.size) := by simp [World.shape?, r1]
  refine ⟨w.freeze ⟨(X.β id).blk, cur.size, none⟩ 1, ?_, ?_⟩
  · simp [convert, run_underlying ht, run_underlying he, markStringish, hsh]
  · have hg : w.grownBy (w.freeze ⟨(X.β id).blk, cur.size, none⟩ 1) (some (X.β id).blk) := by
      refine ⟨rfl, rfl, rfl, by simp [World.freeze], fun k hk hne => ?_⟩
      have hne : ¬ (X.β id).blk = k := fun e => hne (by rw [e])
      simp [World.freeze, Array.getElem?_modify, hne]
    have hsr := h.dirtyFz hid hg
    refine ⟨hsr, ?_⟩
    have hb : ∃ fr, (w.freeze ⟨(X.β id).blk, cur.size, none⟩ 1).heap[(X.β id).blk]? = some (.cells cur ee fr) := by
      simp only [World.freeze]
      rw [if_neg (by decide)]
      simp [Array.getElem?_modify, r1]
    obtain ⟨fr, hb⟩ := hb
    simp only [vr]
    refine ⟨(us.drop o).take n, vrs.mono (X.le_addFz _) (h.rel.fzKept_row hid hg) _ _ ((r2.drop o).take _), .inr ⟨_, c, rfl, .inr rfl, h3, h4, ?_⟩⟩
    have hfz : FzRow (X.addFz (X.β id).blk) (w.freeze ⟨(X.β id).blk, cur.size, none⟩ 1) ⟨(X.β id).blk, (X.β id).base + o, none⟩ (us.drop o) := by
      refine Or.inr ⟨Or.inr rfl, fun u hu => r3 u (List.mem_of_mem_drop hu), fun j u hu => ?_⟩
      rw [List.getElem?_drop] at hu
      have := r4 _ u hu
      simp only [World.cell?, hb]
      simpa [Nat.add_assoc] using this
    exact hfz.take _

theorem bldAv_length {e : Env} : ∀ {ps : List (Nat × Nat × Operand)} {c r : List AV}, bldAv e c ps = some r → r.length = c.length
  | [], c, r, h => by simp only [bldAv] at h; injection h with h; subst h; rfl
  | (o, z, x) :: ps, c, r, h => by
    simp only [bldAv] at h
    cases hx : opdV e x with
    | none => simp [hx] at h
    | some y =>
      simp only [hx] at h
      split at h
      · rw [bldAv_length h, setAll_length]
      · cases h

/-- Zeros behind nothing. -/
theorem apz_sound (h : SR X0 T0 w0 X lam env L T a w) {t tx ty e : TypeId} {k k1 : IntKind} {i : TypeInfo} {z v0 : Value} {zc : List AV} {q : Int} (ht : P.underlying t = some (.slice e)) (hx : P.underlying tx = some (.int k)) (hi : P.info? e = some i)
    (hz : i.zero = some z) (hzs : z.cells.size = i.size) (z1 : vrs X w zc z.cells.toList) (z2 : ∀ u ∈ z.cells.toList, u.oneCell' = true) (hpos : 0 < i.size) (m1 : 0 < q) (m2 : q.toNat * i.bytes ≤ 140737488355328) (m3 : q ≤ 9223372036854775807)
    (hv : v0 = .slice none 0 0 ∨ ∃ ad, v0 = .slice (some ad) 0 0) :
    ∃ w', (Builtin.append_ #[t, tx] ty #[v0, .int k1 q]).run P w = .ok (.slice (some ⟨w.heap.size, 0, none⟩) q.toNat (grownCap w q.toNat 0 e)) w' ∧
      SR X0 T0 w0 (X.addRow ⟨w.heap.size, 0, grownCap w q.toNat 0 e * i.size, i.size⟩) lam env L (T.put X.N (.row i.size (rep zc q.toNat))) a w' ∧
      vr (X.addRow ⟨w.heap.size, 0, grownCap w q.toNat 0 e * i.size, i.size⟩) w' (.sl X.N 0 q.toNat none) (.slice (some ⟨w.heap.size, 0, none⟩) q.toNat (grownCap w q.toNat 0 e)) := by
  have hr := rep_zero z.cells q.toNat
  have hg := h.grown (e := e) (z := z) (esz := i.size) (need := q.toNat) (cap := grownCap w q.toNat 0 e) (olds := []) (cells := []) (news := (Builtin.zeroCells z.cells q.toNat).toList) (xs := rep zc q.toNat) rfl
    (by rw [hr]; exact z1.rep _) (by simp) (by rw [hr]; exact fun u hu => z2 u (mem_rep hu)) hzs (by rw [List.nil_append, rep_length, z1.length.symm.trans (by simpa using hzs)]) (grownCap_ge w _ 0 e)
  simp only [List.nil_append] at hg
  refine ⟨_, ?_, hg.1, hg.2⟩
  have hw : IntKind.i64.wrap q = q := by rw [IntKind.wrap_i64]; omega
  have hq : (q.toNat : Int) = q := Int.toNat_of_nonneg (by omega)
  have h48 := growslice_fits (old := 0) (need := q.toNat) (by omega) m2
  have n1 : ¬ q < 0 := by omega
  have hqb : q * (i.bytes : Int) ≤ 140737488355328 := by rw [← hq, ← Int.natCast_mul]; omega
  have n2 : ¬ (281474976710656 < q * (i.bytes : Int)) := by omega
  have n3 : ¬ (q.toNat * i.size = 0) := by
    intro e
    rcases Nat.mul_eq_zero.1 e with e | e <;> omega
  have n4 : ¬ (q.toNat ≤ 0) := by omega
  have n5 : ¬ (281474976710656 < Builtin.nextslicecap q.toNat 0 * i.bytes) := by omega
  have n6 : ¬ (9223372036854775807 < (q.toNat : Int)) := by omega
  have n7 : ¬ q ≤ 0 := by omega
  have n8 : ¬ (9223372036854775807 < max q 0) := by omega
  have hld : ∀ ad, (loadCells ad 0).run P w.drew = .ok #[] w.drew := fun ad => run_loadCells_list w.drew ad [] fun j v hv => by simp at hv
  rcases hv with rfl | ⟨ad, rfl⟩ <;>
  · simp only [Builtin.append_]
    simp [run_underlying ht, run_underlying hx, sizeOf, typeInfo, zeroValue, hi, hz, asInt, asIntOf, hw, n1, n2, n3, n4, n5, n6, n7, n8, Question.forced, newRow, grownCap, Builtin.firstCells, hld]
    congr 2
    apply Array.ext'
    simp

theorem wp_enter {o : Oper} {f : FuncId} {vs : Array Value} {n : Nat} {K : Env → Loc → Tab → Prop} {Q : Exit → Act → World → Prop} (h : (execOp a.eval o).run P w = .ok (.enter f vs) w)
    (hc : Calls P f vs w fun | .returned v, w'' => Nx X0 T0 w0 n K (a.put o.dst v) w'' | _, _ => False) : o.wp P a w (Nx X0 T0 w0 n K) Q := by
  unfold Oper.wp; rw [h]
  exact hc.mono fun e w'' he => by cases e <;> first | exact he | exact he.elim

set_option maxHeartbeats 1000000 in
theorem ostep_sound (h : SR X0 T0 w0 X lam env L T a w) {H : Hint} {o : Oper} {s : SO} (hs : trOp P H o = some s) (hd : ∀ k, o.dst = some k → k < a.tmps.size) {rc : RC} {K : Env → Loc → Tab → Prop}
    (hk : ostep P s o.dst rc K env L T) {Q : Exit → Act → World → Prop} : o.wp P a w (Nx X0 T0 w0 a.tmps.size K) Q := by
  by_cases hp : isPure s = true
  · rw [ostep_pure hp] at hk
    cases hx : pev s env L T with
    | none => simp [hx] at hk
    | some x =>
      simp only [hx] at hk
      obtain ⟨v, h1, h2⟩ := pev_sound h hs hx
      exact wp_value h1 (Nx.put h hd h2 hk)
  obtain ⟨dst, op, ty, pos, after, gd⟩ := o
  simp only at hd
  cases op <;> simp only [trOp] at hs <;> first
    | (cases hs; done)
    | (injection hs with hs; subst hs; exact absurd rfl hp)
    | skip
  · -- alloc
    rename_i t
    obtain ⟨z, hz, hs⟩ := bind_some hs
    obtain ⟨n, _, hs⟩ := bind_some hs
    obtain ⟨v, z1, z2, z3⟩ := zeroT_run (X := X) (w := w) hz
    have hrun := run_v (run_alloc_new z1)
    split at hs
    · rename_i hloc
      injection hs with hs; subst hs
      cases dst with
      | none => simp at hloc
      | some l =>
      simp only [ostep, SO.kind, lev, Option.map_some] at hk
      exact wp_value hrun (h.newLocPut (hd l rfl) t z2 z3 hk)
    · injection hs with hs; subst hs
      simp only [ostep, SO.kind, tst] at hk
      exact wp_value hrun (h.newRowPut hd n t z2 z3 fun id hid => (hk id hid rfl).2)
  · -- box
    rename_i t y
    obtain ⟨n, _, hs⟩ := map_some hs
    have hrun : (execOp a.eval { dst, op := .box t y, type := ty, pos, after, guard := gd }).run P w = .ok (.value (.pointer (some ⟨w.heap.size, 0, none⟩))) (w.alloc (.cells (a.eval y).cells t)) :=
      run_v (by simp [Instr.box, run_newVar])
    split at hs
    · rename_i hloc
      subst hs
      cases dst with
      | none => simp at hloc
      | some l =>
      simp only [ostep, SO.kind, lev, Option.bind_some] at hk
      cases hx : Aw.opdV env y with
      | none => simp [hx] at hk
      | some x =>
      simp only [hx, Option.bind_some] at hk
      by_cases hsto : x.sto = true
      · rw [if_pos hsto] at hk
        obtain ⟨s1, s2, _⟩ := sto_cells (h.opdV hx) hsto
        exact wp_value hrun (h.newLocPut (hd l rfl) t s1 s2 hk)
      · rw [if_neg hsto] at hk
        exact hk.elim
    · split at hs
      · subst hs
        simp only [ostep, SO.kind, vev] at hk
        cases hx : Aw.opdV env y with
        | none => simp [hx] at hk
        | some x =>
        simp only [hx, Option.bind_some] at hk
        by_cases hsto : x.sto = true
        · rw [if_pos hsto] at hk
          obtain ⟨s1, s2, _⟩ := sto_cells (h.opdV hx) hsto
          exact wp_value hrun (h.newFzPut hd t s1 s2 hk fun X' w' k1 k2 => ⟨_, _, k1, rfl, .inr rfl, k2⟩)
        · rw [if_neg hsto] at hk
          exact hk.elim
      · subst hs
        simp only [ostep, SO.kind, tst] at hk
        cases hx : Aw.opdV env y with
        | none => simp [hx] at hk
        | some x =>
        simp only [hx] at hk
        obtain ⟨s1, s2, _⟩ := sto_cells (h.opdV hx) hk.1
        exact wp_value hrun (h.newRowPut hd n t s1 s2 fun id hid => (hk.2 id hid rfl).2)
  · -- build
    exfalso
    obtain ⟨z, hz, hs⟩ := bind_some hs
    split at hs
    · obtain ⟨_, _, hs⟩ := bind_some hs
      obtain ⟨_, _, rfl⟩ := map_some hs
      exact hp rfl
    · obtain ⟨_, _, hs⟩ := bind_some hs
      obtain ⟨_, _, rfl⟩ := map_some hs
      exact hp rfl
    · cases hs
  · -- buildSlice
    rename_i t n ps
    cases hu : P.underlying t with
    | none => simp [hu] at hs
    | some d =>
    cases d <;> simp only [hu] at hs <;> first | (cases hs; done) | skip
    rename_i e
    obtain ⟨z, hz, hs⟩ := bind_some hs
    obtain ⟨sz, hsz, hs⟩ := bind_some hs
    split at hs
    · rename_i hc
      obtain ⟨qs, hq, hs⟩ := map_some hs
      obtain ⟨i, hi, hn⟩ := szT_spec hsz
      subst hn
      obtain ⟨v, z1, z2, z3⟩ := zeroT_run (X := X) (w := w) hz
      have hbl : ∃ cells, bldAv env (rep z n) qs = some cells := by
        cases hb : bldAv env (rep z n) qs with
        | some cells => exact ⟨cells, rfl⟩
        | none =>
          split at hs
          · subst hs; simp [ostep, SO.kind, tst, hb] at hk
          · subst hs; simp [ostep, SO.kind, vev, hb] at hk
      obtain ⟨cells, hb⟩ := hbl
      have hvs : v.cells.size = i.size := by rw [← hc.2, ← z2.length]; simp
      have hz1 := rep_zero v.cells n
      obtain ⟨vs, f1, f2, f3⟩ := partsT_sound h hq (us := Builtin.zeroCells v.cells n) (by rw [hz1]; exact z2.rep n) (by rw [hz1]; exact fun u hu => z3 u (mem_rep hu)) hb
      have hrun : (Instr.buildSlice t n (ps.map fun (i, x) => (i, a.eval x))).run P w = .ok (.slice (some ⟨w.heap.size, 0, none⟩) n n) (w.alloc (.cells vs e)) := by
        have hle : ¬ (n * i.size > 2 ^ 24) := by omega
        have hzc : ((Array.range (n * i.size)).map (fun x => (if n * i.size = 0 then #[] else v.cells)[x % (if n * i.size = 0 then #[] else v.cells).size]!)) = Builtin.zeroCells v.cells n := by
          by_cases h0 : n * i.size = 0
          · simp only [h0, if_true]
            have : (Builtin.zeroCells v.cells n).size = 0 := by rw [size_zeroCells, hvs, h0]
            apply Array.ext'
            have h2 : (Builtin.zeroCells v.cells n).toList = [] := List.eq_nil_of_length_eq_zero (by simpa using this)
            rw [h2]; simp
          · simp only [h0, if_false, Builtin.zeroCells, hvs]
        have f1' : Instr.fill (fun i' => some (i' * i.size, i.size)) (Builtin.zeroCells v.cells n) (ps.toList.map fun (i, x) => (i, a.eval x)) = some vs := f1
        unfold Instr.buildSlice
        by_cases h0 : n * i.size = 0
        · simp only [h0, if_true] at hzc
          have hzc' : (Array.map (fun x => (#[] : Array Value)[x % (#[] : Array Value).size]!) (Array.range (n * i.size))) = Builtin.zeroCells v.cells n := by rw [h0]; exact hzc
          simp only [Sem.run_bind, run_underlying hu, Result.andThen_ok, sizeOf, typeInfo, run_program, hi, Sem.run_pure, Sem.run_ite, h0, if_true]
          simp only [h0] at hzc'
          simp only [hzc', Array.toList_map, f1', Sem.run_bind, newRow, run_newObj, Result.andThen_ok, Sem.run_pure]
          rfl
        · simp only [h0, if_false] at hzc
          simp only [Sem.run_bind, run_underlying hu, Result.andThen_ok, sizeOf, typeInfo, run_program, hi, Sem.run_pure, Sem.run_ite, hle, if_false, h0, z1, hzc, Array.toList_map, f1', newRow, run_newObj]
          rfl
      split at hs
      · subst hs
        simp only [ostep, SO.kind, tst, hb] at hk
        have hal := h.allocRow (us := vs.toList) i.size e f2 f3
        simp only [Array.toArray_toList] at hal
        refine wp_value (run_v hrun) (Nx.put hal hd (x := .sl X.N 0 n (some n)) ?_ (hk X.N (h.rel.fresh _ (Nat.le_refl _)) rfl).2)
        have hlen : cells.length = n * i.size := by
          rw [bldAv_length hb, rep_length, hc.2]
        simp only [evr, vr, Cx.addRow]
        refine ⟨Nat.lt_succ_self _, n, by simp, Nat.le_refl _, (fun k hk => by injection hk), ?_⟩
        simp [hlen]
      · subst hs
        simp only [ostep, SO.kind, vev, hb, Option.map_some] at hk
        refine wp_value (run_v hrun) (h.newFzPut hd e f2 f3 hk fun X' w' k1 k2 => ?_)
        simp only [vr]
        exact ⟨_, k1, .inr ⟨_, _, rfl, .inr rfl, Nat.le_refl _, (fun k hk => by injection hk), k2⟩⟩
    · cases hs
  · -- load
    exfalso
    obtain ⟨sz, _, hs⟩ := map_some hs
    split at hs <;> (subst hs; exact hp rfl)
  · -- store
    rename_i t y z
    obtain ⟨sz, hsz, hs⟩ := map_some hs
    obtain ⟨i, hi, hn⟩ := szT_spec hsz
    have hst : ∀ (ad : Addr) (v : Value) (w' : World), a.eval y = .pointer (some ad) → a.eval z = v → v.cells.size = sz → (storeCells ad v.cells.toList).run P w = .ok () w' →
        (execOp a.eval { dst, op := .store t y z, type := ty, pos, after, guard := gd }).run P w = .ok .skip w' := by
      intro ad v w' e1 e2 e3 e4
      subst e2
      have e5 : ¬ ((a.eval z).cells.size ≠ i.size) := by rw [e3, hn]; simp
      simp only [execOp, Instr.storeAt, e1, Instr.sureAddr, Sem.run_bind, Sem.run_pure, Result.andThen_ok, storeVar, sizeOf, typeInfo, run_program, hi, Sem.run_ite, e5, if_false, e4]
    split at hs
    · rename_i l _
      subst hs
      simp only [ostep, SO.kind, lev] at hk
      cases hy : opdL env (some l) y with
      | none => simp [hy] at hk
      | some yv =>
      cases hz : Aw.opdV env z with
      | none => simp [hy, hz] at hk
      | some zv =>
      simp only [hy, hz, Option.bind_some] at hk
      have e1 := opdL_sound h hy
      have hl : ∃ o, yv = .lp l o := by
        simp only [opdL] at hy
        cases hq : opd env y with
        | none => simp [hq] at hy
        | some q =>
          cases q <;> simp only [hq] at hy <;> first | (cases hy; done) | skip
          split at hy
          · rename_i e; subst e; injection hy with hy; exact ⟨_, hy.symm⟩
          · cases hy
      obtain ⟨o, rfl⟩ := hl
      simp only at hk
      cases hL : aget L l with
      | none => simp [hL] at hk
      | some cells =>
      simp only [hL, Option.bind_some] at hk
      by_cases hc : zv.sto = true ∧ zv.cells.length = sz ∧ o + sz ≤ cells.length
      · rw [if_pos hc] at hk
        obtain ⟨k1, k2, k3⟩ := hc
        obtain ⟨s1, s2, s3⟩ := sto_cells (h.opdV hz) k1
        obtain ⟨w', hr, hsr⟩ := h.storeLoc (P := P) hL (o := o) (xs := zv.cells) (by omega) s1 s2
        simp only [evr] at e1
        exact wp_skip' (hst _ _ w' e1 rfl (by rw [s3, k2]) hr) (Nx.undef hsr hd hk)
      · rw [if_neg hc] at hk
        exact hk.elim
    · subst hs
      simp only [ostep, SO.kind, tst] at hk
      cases hy : Aw.opdV env y with
      | none => simp [hy] at hk
      | some yv =>
      cases hz : Aw.opdV env z with
      | none => cases yv <;> simp [hy, hz] at hk
      | some zv =>
      cases yv <;> simp only [hy, hz] at hk <;> first | (exact hk.elim) | skip
      rename_i id o
      cases hT : T id with
      | unused => simp [hT] at hk
      | mapo es => simp [hT] at hk
      | row zz cells =>
      simp only [hT] at hk
      obtain ⟨k1, k2, k3, k4⟩ := hk
      obtain ⟨s1, s2, s3⟩ := sto_cells (h.opdV hz) k1
      obtain ⟨w', hr, hsr⟩ := h.storeRow (P := P) hT (o := o) (xs := zv.cells) (by omega) s1 s2
      have e1 := h.opdV hy
      simp only [vr] at e1
      exact wp_skip' (hst _ _ w' e1.2 rfl (by rw [s3, k2]) hr) (Nx.undef hsr hd (k4 rfl).2)
  · -- binOp
    rename_i op t y z yt
    have hsn : ∃ neg v l c e, s = .snil neg y ∧ z = .const (.slice none l c) ∧ v = true ∧ P.underlying t = some (.slice e) ∧ ((op = .eql ∧ neg = false) ∨ (op = .neq ∧ neg = true)) := by
      cases hu : P.underlying t with
      | none => simp [hu] at hs
      | some d =>
      cases d <;> simp only [hu] at hs <;> first
        | (cases hs; done)
        | (injection hs with hs; subst hs; exact absurd rfl hp)
        | (cases op <;> simp only at hs <;> first
            | (cases hs; done)
            | (injection hs with hs; subst hs; exact absurd rfl hp))
        | skip
      · split at hs
        · injection hs with hs; exact ⟨false, true, _, _, _, hs.symm, rfl, rfl, rfl, .inl ⟨rfl, rfl⟩⟩
        · injection hs with hs; exact ⟨true, true, _, _, _, hs.symm, rfl, rfl, rfl, .inr ⟨rfl, rfl⟩⟩
        · cases hs
      · split at hs
        · cases hs
        · obtain ⟨ks, _, hs⟩ := bind_some hs
          cases op <;> simp only at hs <;> first
            | (cases hs; done)
            | (injection hs with hs; subst hs; exact absurd rfl hp)
      · split at hs
        · cases op <;> simp only at hs <;> first
            | (cases hs; done)
            | (injection hs with hs; subst hs; exact absurd rfl hp)
        · cases hs
    obtain ⟨neg, _, l, c, e, rfl, rfl, _, hu, ho⟩ := hsn
    have hrun : ∀ (p : Option Addr) (m k : Nat), a.eval y = .slice p m k → (execOp a.eval { dst, op := .binOp op t y (.const (.slice none l c)) yt, type := ty, pos, after, guard := gd }).run P w = .ok (.value (.bool (if p.isNone then !neg else neg))) w := by
      intro p m k e1
      have he : (Op.equal t (.slice p m k) (.slice none l c)).run P w = .ok p.isNone w := by
        rw [eq_unf]
        generalize 9999 = dd
        cases p with
        | none => simp only [Op.equalIn, Sem.run_bind, run_underlying hu, Result.andThen_ok, Sem.run_pure]
        | some q => simp only [Op.equalIn, Sem.run_bind, run_underlying hu, Result.andThen_ok, Sem.run_pure]; rfl
      refine run_v ?_
      have e2 : a.eval (.const (.slice none l c)) = .slice none l c := rfl
      rcases ho with ⟨rfl, rfl⟩ | ⟨rfl, rfl⟩ <;>
      · rw [e1, e2]
        have hg : ∀ q, (eqGuard q t y (.const (.slice none l c)) (.slice p m k) (.slice none l c)).run P w = .ok () w := fun q => by unfold eqGuard; split <;> rfl
        simp only [Sem.run_bind, hg, Result.andThen_ok, binOp, he, Sem.run_pure]
        cases p <;> rfl
    simp only [ostep, SO.kind] at hk
    cases hy : Aw.opdV env y with
    | none => simp [hy, snilStep] at hk
    | some yv =>
    have hv := h.opdV hy
    cases yv <;> simp only [hy, snilStep] at hk <;> first | (exact hk.elim) | skip
    · rename_i n cells cap
      simp only [vr] at hv
      obtain ⟨us, h1, hf⟩ := hv
      rcases hf with ⟨e1, rfl, _⟩ | ⟨ad, c', e1, _⟩
      · simp only [Nat.lt_irrefl, if_false] at hk
        exact wp_value (hrun _ _ _ e1) (Nx.put h hd (x := .b _) rfl (hk _))
      · refine wp_value (hrun _ _ _ e1) (Nx.put h hd (x := .b _) rfl ?_)
        split at hk
        · exact hk
        · exact hk _
    · rename_i id o n cap
      simp only [vr] at hv
      obtain ⟨_, c', e1, _⟩ := hv
      exact wp_value (hrun _ _ _ e1) (Nx.put h hd (x := .b _) rfl hk)
  · -- convert
    rename_i sT dT y
    by_cases hcv : s = .cvm y
    · subst hcv
      have hcm : ∃ e, sT = dT ∧ P.underlying dT = some (.slice e) ∧ P.underlying e = some (.int .u8) := by
        cases hd' : P.underlying dT with
        | none => simp [hd'] at hs
        | some dd =>
        cases dd <;> simp only [hd'] at hs <;> first | (cases hs; done) | skip
        · split at hs <;> cases hs
        · split at hs <;> first | (cases hs; done) | (split at hs <;> cases hs)
        · rename_i e
          split at hs
          · split at hs <;> cases hs
          · split at hs
            · rename_i hc
              simp only [Bool.and_eq_true, beq_iff_eq] at hc
              refine ⟨e, hc.2, rfl, ?_⟩
              have he := hc.1
              unfold u8T at he
              split at he
              · assumption
              · cases he
            · cases hs
          · cases hs
      obtain ⟨e, rfl, ht, he⟩ := hcm
      simp only [ostep, SO.kind, tst] at hk
      cases hy : Aw.opdV env y with
      | none => simp [hy] at hk
      | some yv =>
      have hv := h.opdV hy
      cases yv <;> simp only [hy] at hk <;> first | (exact hk.elim) | skip
      rename_i id o n cap
      cases hT : T id with
      | unused => simp [hT] at hk
      | mapo es => simp [hT] at hk
      | row z cells =>
      simp only [hT] at hk
      obtain ⟨rfl, k2, k3⟩ := hk
      obtain ⟨w', q1, q2, q3⟩ := cvm_sound (P := P) h hT k2 hv ht he
      exact wp_value (run_v q1) (Nx.put q2 hd (evr_of_vr q3) (k3 rfl).2)
    have hsb : ∃ e u, s = .s2b y ∧ P.underlying dT = some (.slice e) ∧ P.underlying e = some (.int .u8) ∧ P.underlying sT = some u := by
      cases hd' : P.underlying dT with
      | none => simp [hd'] at hs
      | some dd =>
      cases dd <;> simp only [hd'] at hs <;> first | (cases hs; done) | skip
      · split at hs
        · injection hs with hs; subst hs; exact absurd rfl hp
        · cases hs
      · split at hs
        · split at hs
          · injection hs with hs; subst hs; exact absurd rfl hp
          · cases hs
        · injection hs with hs; subst hs; exact absurd rfl hp
        · cases hs
      · rename_i e
        split at hs
        · rename_i hu
          split at hs
          · rename_i he
            injection hs with hs
            refine ⟨e, _, hs.symm, rfl, ?_, hu⟩
            unfold u8T at he
            split at he
            · assumption
            · cases he
          · cases hs
        · split at hs
          · injection hs with hs; exact absurd hs.symm hcv
          · cases hs
        · cases hs
    obtain ⟨e, u, rfl, h1, h2, h3⟩ := hsb
    simp only [ostep, SO.kind, vev] at hk
    cases hy : Aw.opdV env y with
    | none => simp [hy] at hk
    | some yv =>
    have hv := h.opdV hy
    cases yv <;> simp only [hy, Option.bind_some] at hk <;> first | (exact hk.elim) | skip
    rename_i l
    simp only [vr] at hv
    have hrun := Lib.run_convert_string_bytes w sT dT e ⟨l.toArray⟩ h3 h1 h2
    have hg : w.grownBy (Lib.bytesWorld w e ⟨l.toArray⟩) none :=
      ⟨rfl, rfl, rfl, by rw [Lib.bytesWorld_size]; omega, fun k hk _ => Lib.bytesWorld_at_old w e _ k hk⟩
    have hsr := h.allocFz hg (b := w.heap.size) (Nat.le_refl _) (by rw [Lib.bytesWorld_size]; omega)
    rw [← hv] at hrun
    refine wp_value (run_v hrun) (Nx.put hsr hd (x := .fz l.length (byteCells l) none) ?_ hk)
    simp only [evr, vr]
    refine ⟨_, vrs_bytes l, .inr ⟨⟨w.heap.size, 0, none⟩, _, ?_, .inr rfl, grownCap_ge w _ 0 e, (fun k hk => by cases hk), .inr ⟨.inr rfl, by simp [Value.oneCell'], fun j u hu => ?_⟩⟩⟩
    · simp [ByteArray.size]
    · rw [List.getElem?_map] at hu
      cases hj : l[j]? with
      | none => simp [hj] at hu
      | some b =>
        simp [hj] at hu
        subst hu
        have hlt := (List.getElem?_eq_some_iff.1 hj).1
        have := Lib.bytesWorld_cell w e ⟨l.toArray⟩ j (by simpa [ByteArray.size] using hlt)
        rw [Nat.zero_add]
        rw [this]
        simp [hj]
  · -- makeInterface
    exfalso
    split at hs
    · cases hs
    · cases hs
    · injection hs with hs; subst hs; exact hp rfl
  · -- makeMap
    rename_i t r
    split at hs
    · rename_i hr
      injection hs with hs; subst hs
      have hr : r = none := by simpa using hr
      subst hr
      simp only [ostep, SO.kind, tst] at hk
      refine wp_value (v := .map (some w.heap.size)) (w' := w.alloc (.map #[] 0)) (run_v rfl) ?_
      refine Nx.put h.allocMap hd (x := .mp X.N) ?_ (hk X.N (h.rel.fresh _ (Nat.le_refl _)) rfl).2
      simp only [evr, vr, Cx.addRow]
      exact ⟨Nat.lt_succ_self _, by simp⟩
    · cases hs
  · -- makeSlice
    rename_i t l c
    split at hs
    · rename_i e hu
      obtain ⟨i, hi, hs⟩ := bind_some hs
      obtain ⟨z, hz, hs⟩ := bind_some hs
      split at hs
      · rename_i hc
        injection hs with hs; subst hs
        obtain ⟨i', v, hi', hzv, hcv⟩ := zeroT_spec hz
        have hii : i' = i := by rw [hi] at hi'; injection hi' with h; exact h.symm
        subst hii
        obtain ⟨z1, z2⟩ := cavs_sound X w hcv
        simp only [ostep, SO.kind, tst] at hk
        cases hl : Aw.opdV env l with
        | none => simp [hl] at hk
        | some lv =>
        cases hcc : Aw.opdV env c with
        | none => simp [hl, hcc] at hk
        | some cv =>
        cases lv <;> simp only [hl, hcc] at hk <;> first | (exact hk.elim) | skip
        cases cv <;> simp only at hk <;> first | (exact hk.elim) | skip
        rename_i k1 j k2 q
        obtain ⟨m1, m2, m3, m4, m5⟩ := hk
        have e1 := opdV_sound h hl
        have e2 := opdV_sound h hcc
        simp only [vr] at e1 e2
        have hq : ((q.toNat * i'.bytes : Nat) : Int) = q * i'.bytes := by
          rw [Int.natCast_mul, Int.toNat_of_nonneg (by omega)]
        have hrun := run_make (P := P) w t e i' v hu hi hzv k1 k2 j q m1 m2 (by rw [Int.mul_comm, ← hq]; omega) m4
        have hvs : v.cells.size = i'.size := by rw [← hc, ← z1.length]; simp
        have hmc : madeCells v.cells (q.toNat * i'.size) = Builtin.zeroCells v.cells q.toNat := by
          unfold madeCells Builtin.zeroCells; rw [hvs]
        rw [hmc] at hrun
        have hz1 := rep_zero v.cells q.toNat
        have hal := h.allocRow (us := (Builtin.zeroCells v.cells q.toNat).toList) i'.size e (cells := rep z q.toNat) (by rw [hz1]; exact z1.rep _) (by rw [hz1]; exact fun u hu => z2 u (mem_rep hu))
        simp only [Array.toArray_toList] at hal
        refine wp_value (v := .slice (some ⟨w.heap.size, 0, none⟩) j.toNat q.toNat) (w' := w.alloc (.cells (Builtin.zeroCells v.cells q.toNat) e)) ?_ ?_
        · simp only [execOp, e1, e2]
          exact run_v hrun
        · refine Nx.put hal hd (x := .sl X.N 0 j.toNat none) ?_ (m5 X.N (h.rel.fresh _ (Nat.le_refl _)) rfl |>.2)
          simp only [evr, vr, Cx.addRow]
          refine ⟨Nat.lt_succ_self _, q.toNat, by simp, by omega, (fun k hk => by cases hk), ?_⟩
          simp [rep_length, hc]
      · cases hs
    · cases hs
  · -- slice
    exfalso
    split at hs
    · obtain ⟨_, _, rfl⟩ := map_some hs; exact hp rfl
    · split at hs
      · injection hs with hs; subst hs; exact hp rfl
      · cases hs
    · cases hs
  · -- fieldAddr
    exfalso
    split at hs
    · obtain ⟨f, _, hs⟩ := bind_some hs
      split at hs
      · injection hs with hs; subst hs; exact hp rfl
      · cases hs
    · cases hs
  · -- field
    exfalso
    split at hs
    · obtain ⟨f, _, hs⟩ := bind_some hs
      obtain ⟨_, _, rfl⟩ := map_some hs; exact hp rfl
    · cases hs
  · -- indexAddr
    exfalso
    split at hs
    · obtain ⟨_, _, rfl⟩ := map_some hs; exact hp rfl
    · obtain ⟨_, _, rfl⟩ := map_some hs; exact hp rfl
    · cases hs
  · -- index
    exfalso
    split at hs
    · injection hs with hs; subst hs; exact hp rfl
    · obtain ⟨_, _, hs⟩ := bind_some hs
      obtain ⟨_, _, rfl⟩ := map_some hs
      exact hp rfl
    · cases hs
  · -- lookup
    rename_i t y key ok
    split at hs
    · rename_i kt e hu
      obtain ⟨d, hd1, hs⟩ := bind_some hs
      obtain ⟨m, hm, hs⟩ := bind_some hs
      obtain ⟨z, hz, rfl⟩ := map_some hs
      simp only [ostep, SO.kind, tst] at hk
      obtain ⟨i, zv, hi, hzv, hcz⟩ : ∃ i zv, P.info? e = some i ∧ i.zero = some zv ∧ cav zv = some z := by
        unfold zero1T at hz
        cases hi : P.info? e with
        | none => simp [hi] at hz
        | some i =>
          cases hz' : i.zero with
          | none => simp [hi, hz'] at hz
          | some v => simp [hi, hz'] at hz; exact ⟨i, v, rfl, hz', hz⟩
      have hzr := (cav_sound (X := X) (w := w) hcz).1
      have hzero : (zeroValue e).run P w = .ok zv w := by simp [zeroValue, typeInfo, hi, hzv, Result.andThen]
      cases hy : Aw.opdV env y with
      | none => simp [hy] at hk
      | some yv =>
      cases hkk : Aw.opdV env key with
      | none => cases yv <;> simp [hy, hkk] at hk
      | some kv =>
      cases yv <;> simp only [hy, hkk] at hk <;> first | (exact hk.elim) | skip
      rename_i id
      cases hT : T id with
      | unused => simp [hT] at hk
      | row zz cells => simp [hT] at hk
      | mapo es =>
      simp only [hT] at hk
      obtain ⟨hkey, hk⟩ := hk
      have e1 := opdV_sound h hy
      have e2 := opdV_sound h hkk
      simp only [vr] at e1
      have e3 := key_vr hkey e2
      obtain ⟨ms, clock, b1, b2, b3⟩ := h.rel.map id es hT
      cases hg : mget m kv es with
      | none => simp [hg] at hk
      | some r =>
      have hck := MapKept.run_checkKey (P := P) (w := w) hd1 (key_is hm hkey) ms.isEmpty 9999
      rcases mget_find (w := w) hm hkey es ms.toList 0 r b2 b3 hg with ⟨r1, r2⟩ | ⟨j, v, u, e', r1, r2, r3, r4, r5⟩
      · subst r1
        simp only [hg] at hk
        have hfk := MapKept.run_findKey (P := P) (w := w) hd1 r2
        have hrun : (Instr.lookup t (a.eval y) (a.eval key) ok).run P w = .ok (if ok then .tuple #[zv, .bool false] else zv) w := by
          rw [e1.2, e3]
          simp [Instr.lookup, run_underlying hu, MapKept.run_getObj_map b1, hck, hfk, hzero, Result.andThen]
        refine wp_value (run_v hrun) ?_
        cases ok
        · exact Nx.put h hd (evr_of_vr hzr) (hk (vr_isLp hzr)).2
        · refine Nx.put h hd (x := .tup [z, .b false]) ?_ (hk rfl).2
          simp only [evr, vr, vrs]
          exact ⟨_, ⟨_, _, rfl, hzr, _, _, rfl, rfl, rfl⟩, rfl⟩
      · subst r1
        simp only [hg] at hk
        have hfk := MapKept.run_findKey (P := P) (w := w) hd1 r3
        have hrun : (Instr.lookup t (a.eval y) (a.eval key) ok).run P w = .ok (if ok then .tuple #[u, .bool true] else u) w := by
          rw [e1.2, e3]
          simp [Instr.lookup, run_underlying hu, MapKept.run_getObj_map b1, hck, hfk, Result.andThen]
        refine wp_value (run_v hrun) ?_
        cases ok
        · exact Nx.put h hd (evr_of_vr r2) (hk (vr_isLp r2)).2
        · refine Nx.put h hd (x := .tup [v, .b true]) ?_ (hk rfl).2
          simp only [evr, vr, vrs]
          exact ⟨_, ⟨_, _, rfl, r2, _, _, rfl, rfl, rfl⟩, rfl⟩
    · cases hs
  · -- mapUpdate
    rename_i t y key vv
    split at hs
    · rename_i kt e hu
      obtain ⟨d, hd1, hs⟩ := bind_some hs
      obtain ⟨m, hm, rfl⟩ := map_some hs
      simp only [ostep, SO.kind, tst] at hk
      cases hy : Aw.opdV env y with
      | none => simp [hy] at hk
      | some yv =>
      cases hkk : Aw.opdV env key with
      | none => cases yv <;> simp [hy, hkk] at hk
      | some kv =>
      cases hvv : Aw.opdV env vv with
      | none => cases yv <;> simp [hy, hkk, hvv] at hk
      | some nv =>
      cases yv <;> simp only [hy, hkk, hvv] at hk <;> first | (exact hk.elim) | skip
      rename_i id
      cases hT : T id with
      | unused => simp [hT] at hk
      | row zz cells => simp [hT] at hk
      | mapo es =>
      simp only [hT] at hk
      obtain ⟨hkey, hsome, hk⟩ := hk
      have e1 := opdV_sound h hy
      have e2 := opdV_sound h hkk
      have e4 := opdV_sound h hvv
      simp only [vr] at e1
      have e3 := key_vr hkey e2
      obtain ⟨ms, clock, b1, b2, b3⟩ := h.rel.map id es hT
      have hid : T id ≠ .unused := by simp [hT]
      obtain ⟨r, hg⟩ := Option.isSome_iff_exists.1 hsome
      have hik := key_is hm hkey
      have hck := MapKept.run_checkKey (P := P) (w := w) hd1 hik false 9999
      have hset : ∀ (ms' : Array MapEntry) (clock' : Nat), w.grownBy { w with heap := w.heap.setIfInBounds (X.β id).blk (.map ms' clock') } (some (X.β id).blk) := fun ms' clock' =>
        ⟨rfl, rfl, rfl, by simp, fun k _ hne => by
          have : (X.β id).blk ≠ k := fun e => hne (by rw [e])
          simp [this]⟩
      have hat : ∀ (ms' : Array MapEntry) (clock' : Nat), ({ w with heap := w.heap.setIfInBounds (X.β id).blk (.map ms' clock') } : World).heap[(X.β id).blk]? = some (.map ms' clock') := fun ms' clock' => by
        have hlt := (Array.getElem?_eq_some_iff.1 b1).1
        simp [hlt]
      rcases mget_find (w := w) hm hkey es ms.toList 0 r b2 b3 hg with ⟨r1, r2⟩ | ⟨j, v, u, e', r1, r2, r3, r4, r5⟩
      · subst r1
        have hfk := MapKept.run_findKey (P := P) (w := w) hd1 r2
        have hrun : (Instr.mapUpdate t (a.eval y) (a.eval key) (a.eval vv)).run P w = .ok () { w with heap := w.heap.setIfInBounds (X.β id).blk (.map (ms.push { key := keyV kv, val := a.eval vv, born := clock }) (clock + 1)) } := by
          rw [e1.2, e3]
          simp [Instr.mapUpdate, run_underlying hu, MapKept.run_getObj_map b1, hck, hfk, MapKept.run_setObj_map _ b1, Result.andThen]
        have hn := mput_new (w := w) hkey e4 es ms.toList clock b2 b3 hg
        have hsr := h.setMap hid (hset (ms.push { key := keyV kv, val := a.eval vv, born := clock }) (clock + 1)) (es := mput kv nv es) ⟨_, _, hat _ _, vrs.mono (.refl X) (h.rel.fzKept_row hid (hset _ _)) _ _ (by simpa using hn.1), vrs.mono (.refl X) (h.rel.fzKept_row hid (hset _ _)) _ _ (by simpa using hn.2)⟩
        exact wp_skip' (by simp only [execOp, Sem.run_bind, hrun, Result.andThen_ok, Sem.run_pure]) (Nx.undef hsr hd (hk rfl).2)
      · subst r1
        have hfk := MapKept.run_findKey (P := P) (w := w) hd1 r3
        have r4' : ms[j]? = some e' := by simpa using r4
        have hrun : (Instr.mapUpdate t (a.eval y) (a.eval key) (a.eval vv)).run P w = .ok () { w with heap := w.heap.setIfInBounds (X.β id).blk (.map (ms.modify j fun e => { e with key := keyV kv, val := a.eval vv }) clock) } := by
          rw [e1.2, e3]
          simp [Instr.mapUpdate, run_underlying hu, MapKept.run_getObj_map b1, hck, hfk, r4', r5, MapKept.run_keyThatStays hik, MapKept.run_setObj_map _ b1, Result.andThen]
        have hn := mput_found (w := w) hm hkey e4 es ms.toList (some v) 0 j u b2 b3 hg r3
        have hsr := h.setMap hid (hset (ms.modify j fun e => { e with key := keyV kv, val := a.eval vv }) clock) (es := mput kv nv es) ⟨_, _, hat _ _, vrs.mono (.refl X) (h.rel.fzKept_row hid (hset _ _)) _ _ (by simpa using hn.1), vrs.mono (.refl X) (h.rel.fzKept_row hid (hset _ _)) _ _ (by simpa using hn.2)⟩
        exact wp_skip' (by simp only [execOp, Sem.run_bind, hrun, Result.andThen_ok, Sem.run_pure]) (Nx.undef hsr hd (hk rfl).2)
    · cases hs
  · -- call
    rename_i c
    obtain ⟨callee, args, ats⟩ := c
    cases callee with
    | invoke r m => simp only at hs; cases hs
    | value f =>
      cases f with
      | const v => simp only at hs; cases hs
      | global g => simp only at hs; cases hs
      | func f =>
        simp only at hs
        split at hs
        · rename_i hc
          injection hs with hs; subst hs
          simp only [ostep, SO.kind, tst] at hk
          obtain ⟨_, hk⟩ := hk
          cases hx : opdVs env args.toList with
          | none => simp [hx] at hk
          | some avs =>
          simp only [hx] at hk
          obtain ⟨S, R, n1, n2, n3, n4⟩ := hk
          have hv := opdVs_sound h hx
          refine wp_enter (f := f) (vs := (args.toList.map a.eval).toArray) ?_ (call_step h hd hv n1 n2 n3 fun v T' hR => (n4 v T' hR.1 hR.2).2)
          have e1 : (args.map a.eval) = (args.toList.map a.eval).toArray := by apply Array.ext'; simp
          have := callable_run (P := P) (w := w) hc (args.toList.map a.eval).toArray
          simp [execOp, resolve, Act.eval, Deferred.ofValue, invoke]
          rw [e1]
          exact this
        · cases hs
      | tmp t =>
        simp only at hs
        injection hs with hs; subst hs
        simp only [ostep, SO.kind, tst] at hk
        cases hf : Aw.opdV env (.tmp t) with
        | none => simp [hf] at hk
        | some fv =>
        cases hx : opdVs env args.toList with
        | none => cases fv <;> simp [hf, hx] at hk
        | some avs =>
        cases fv <;> simp only [hf, hx] at hk <;> first | (exact hk.elim) | skip
        rename_i fn first cap
        cases fn <;> simp only at hk <;> first | (exact hk.elim) | skip
        rename_i f
        obtain ⟨hc, S, R, n1, n2, n3, n4⟩ := hk
        have hv := opdVs_sound h hx
        have hfv := h.opdV hf
        simp only [vr] at hfv
        obtain ⟨us, vs, v1, v2, v3⟩ := hfv
        have hall := (v1.append hv).append v2
        refine wp_enter (f := f) (vs := (us ++ args.toList.map a.eval ++ vs).toArray) ?_ (call_step h hd hall n1 n2 n3 fun v T' hR => (n4 v T' hR.1 hR.2).2)
        have e1 : (us.toArray ++ args.map a.eval ++ vs.toArray) = (us ++ args.toList.map a.eval ++ vs).toArray := by apply Array.ext'; simp
        have := callable_run (P := P) (w := w) hc (us ++ args.toList.map a.eval ++ vs).toArray
        simp only [execOp, resolve, v3, Deferred.ofValue, Sem.run_bind, Sem.run_pure, Result.andThen_ok, invoke]
        rw [e1]
        exact this
    | builtin b =>
      cases b <;> simp only at hs <;> first
        | (cases hs; done)
        | skip
      · -- append
        split at hs
        · rename_i y z t tx ha hb
          obtain rfl := extract_shape ha
          have hb' : ats = #[t, tx] := by apply Array.ext'; simpa using hb
          subst hb'
          split at hs
          · rename_i e d hu hud
            split at hs
            · rename_i hni
              obtain ⟨i, hi, hs⟩ := bind_some hs
              obtain ⟨zv, hz, hs⟩ := bind_some hs
              split at hs
              · rename_i hcc
                injection hs with hs; subst hs
                simp only [ostep, SO.kind, tst] at hk
                cases hy : Aw.opdV env y with
                | none => simp [hy] at hk
                | some yv =>
                cases hz' : Aw.opdV env z with
                | none => simp [hy, hz'] at hk
                | some zv' =>
                simp only [hy, hz'] at hk
                have ht : AppT P t tx i.size i.bytes := ⟨e, i, zv, d, hu, hi, rfl, rfl, hz, hcc.1, hcc.2, hud, fun k hk => by subst hk; simp [notInt] at hni⟩
                obtain ⟨q, w', X', T', r, r1, r2, r3, r4⟩ := app_sound (ty := ty) h ht (h.opdV hy) (h.opdV hz') hk
                refine wp_value ?_ (Nx.put r3 hd (evr_of_vr r4) (r2 (vr_isLp r4)).2)
                simp [execOp, resolve, invoke, builtin, r1]
              · cases hs
            · rename_i hni
              obtain ⟨i, hi, hs⟩ := bind_some hs
              obtain ⟨zv, hz, hs⟩ := bind_some hs
              split at hs
              · rename_i hcc
                injection hs with hs; subst hs
                obtain ⟨i', v, hi', hzv, hcv⟩ := zeroT_spec hz
                have hii : i' = i := by rw [hi] at hi'; injection hi' with h; exact h.symm
                subst hii
                obtain ⟨z1, z2⟩ := cavs_sound X w hcv
                have hint : ∃ k, d = .int k := by
                  cases d <;> first
                    | exact ⟨_, rfl⟩
                    | (simp [notInt] at hni)
                obtain ⟨k, rfl⟩ := hint
                simp only [ostep, SO.kind, tst] at hk
                cases hy : Aw.opdV env y with
                | none => simp [hy] at hk
                | some yv =>
                cases hz' : Aw.opdV env z with
                | none => simp [hy, hz'] at hk
                | some zv' =>
                have hyv := h.opdV hy
                have hzv' := h.opdV hz'
                simp only [hy, hz'] at hk
                split at hk
                · rename_i k1 q e1 e2
                  injection e1 with e1; subst e1
                  injection e2 with e2; subst e2
                  obtain ⟨m1, m2, m3, m4⟩ := hk
                  simp only [vr] at hyv hzv'
                  have hvs : v.cells.size = i'.size := by rw [← hcc.1, ← z1.length]; simp
                  have hq : (q.toNat : Int) = q := Int.toNat_of_nonneg (by omega)
                  have hyv' : a.eval y = .slice none 0 0 ∨ ∃ ad, a.eval y = .slice (some ad) 0 0 := by
                    obtain ⟨us, _, hf⟩ := hyv
                    rcases hf with ⟨h1, _⟩ | ⟨ad, c, h1, _, _, h4, _⟩
                    · exact .inl h1
                    · exact .inr ⟨ad, by rw [h1, h4 0 rfl]⟩
                  obtain ⟨w', r1, r2, r3⟩ := apz_sound (P := P) (ty := ty) (k1 := k1) h hu hud hi hzv hvs z1 z2 hcc.2 m1 m2 m3 hyv'
                  refine wp_value ?_ (Nx.put r2 hd (evr_of_vr r3) (m4 X.N (h.rel.fresh _ (Nat.le_refl _)) rfl).2)
                  simp [execOp, resolve, invoke, builtin, hzv', r1]
                · exact hk.elim
              · cases hs
          · cases hs
        · cases hs
      · -- cap
        exfalso
        split at hs
        · split at hs
          · injection hs with hs; subst hs; exact hp rfl
          · cases hs
        · cases hs
      · -- clear
        split at hs
        · rename_i y t ha hb
          obtain rfl := extract_shape ha
          have hb' : ats = #[t] := by apply Array.ext'; simpa using hb
          subst hb'
          split at hs
          · rename_i e hu
            obtain ⟨z, hz, hs⟩ := bind_some hs
            obtain ⟨sz, hsz, hs⟩ := bind_some hs
            split at hs
            · rename_i hzl
              injection hs with hs; subst hs
              obtain ⟨zv, z1, z2, z3⟩ := zeroT_run (X := X) (w := w) hz
              simp only [ostep, SO.kind, tst] at hk
              cases hy : Aw.opdV env y with
              | none => simp [hy] at hk
              | some yv =>
              have hv := h.opdV hy
              cases yv <;> simp only [hy] at hk <;> first | (exact hk.elim) | skip
              · rename_i n cells cap
                cases n with
                | succ n => simp at hk
                | zero =>
                simp only at hk
                have e1 : ∃ p c, a.eval y = .slice p 0 c := by
                  simp only [vr] at hv
                  obtain ⟨us, _, (⟨e1, _⟩ | ⟨ad, c, e1, _⟩)⟩ := hv <;> exact ⟨_, _, e1⟩
                obtain ⟨p, c, e1⟩ := e1
                have hrun : (Builtin.clear_ #[t] ty #[.slice p 0 c]).run P w = .ok (.tuple #[]) w := by
                  cases p <;> simp [Builtin.clear_, run_underlying hu]
                refine wp_value ?_ (Nx.undef h hd (hk rfl).2)
                simp [execOp, resolve, invoke, builtin, e1, hrun]
                rfl
              · rename_i id o n cap
                cases hT : T id with
                | unused => simp [hT] at hk
                | mapo es => simp [hT] at hk
                | row zz cells =>
                simp only [hT] at hk
                obtain ⟨rfl, k1, k2, k3⟩ := hk
                simp only [vr] at hv
                obtain ⟨_, c, e1, _⟩ := hv
                have hzv : zv.cells.size = zz := by rw [← k1, ← z2.length]; simp
                have hl : (rep z n).length = n * zz := by rw [rep_length, k1]
                obtain ⟨w', hr, hsr⟩ := h.storeRow (P := P) hT (o := o) (xs := rep z n) (by omega) (z2.rep n) (fun u hu => z3 u (mem_rep hu))
                have hrun : (Builtin.clear_ #[t] ty #[.slice (some ⟨(X.β id).blk, (X.β id).base + o, none⟩) n c]).run P w = .ok (.tuple #[]) w' := by
                  cases n with
                  | zero =>
                    have hz0 : (storeCells ⟨(X.β id).blk, (X.β id).base + o, none⟩ (rep zv.cells.toList 0)).run P w = .ok () w := rfl
                    rw [hz0] at hr
                    injection hr with _ hr
                    subst hr
                    simp [Builtin.clear_, run_underlying hu]
                  | succ n =>
                    simp [Builtin.clear_, run_underlying hu, z1]
                    have := rep_zero zv.cells (n + 1)
                    rw [this, hr]
                    rfl
                refine wp_value ?_ (Nx.undef hsr hd (k3 rfl).2)
                simp [execOp, resolve, invoke, builtin, e1, hrun]
                rfl
            · cases hs
          · cases hs
        · cases hs
      · -- len
        exfalso
        split at hs
        · split at hs
          · injection hs with hs; subst hs; exact hp rfl
          · injection hs with hs; subst hs; exact hp rfl
          · cases hs
        · cases hs
      all_goals
        exfalso
        split at hs
        · injection hs with hs; subst hs; exact hp rfl
        · cases hs

end
end Go.Aw
