/-
  Operations that read memory.
-/
import Derived.Test.YtchkfbfbhaldfaaAwPure
import Derived.Laws.Slices
namespace Go.Aw
set_option linter.all false
open Go

def fadrAv (off : Nat) : AV → Option AV
  | .lp l o => some (.lp l (o + off))
  | .ptr id o => some (.ptr id (o + off))
  | .fptr cells => some (.fptr (cells.drop off))
  | _ => none

/-- The place of a slice's element; of an array's. -/
def iadrAv (esz : Nat) (alen : Option Nat) (i : AV) : AV → Option AV
  | .fz n cells _ => match alen, i with
    | none, .i _ j => if 0 ≤ j ∧ j < n then some (.fptr (cells.drop (j.toNat * esz))) else none
    | _, _ => none
  | .sl id o n _ => match alen, i with
    | none, .i _ j => if 0 ≤ j ∧ j < n then some (.ptr id (o + j.toNat * esz)) else none
    | _, _ => none
  | .lp l o => match alen, i with
    | some m, .i _ j => if 0 ≤ j ∧ j < m then some (.lp l (o + j.toNat * esz)) else none
    | _, _ => none
  | .ptr id o => match alen, i with
    | some m, .i _ j => if 0 ≤ j ∧ j < m then some (.ptr id (o + j.toNat * esz)) else none
    | _, _ => none
  | .fptr cells => match alen, i with
    | some m, .i _ j => if 0 ≤ j ∧ j < m then some (.fptr (cells.drop (j.toNat * esz))) else none
    | _, _ => none
  | _ => none

/-- A value that is known, and is no place in a local variable. -/
def AV.plain : AV → Bool
  | .lp _ _ | .any => false
  | _ => true

def plainO : Option AV → Option AV
  | some x => if x.plain then some x else none
  | none => none

theorem plainO_some {x : Option AV} {y : AV} (h : plainO x = some y) : x = some y ∧ y.plain = true := by
  cases x with
  | none => simp [plainO] at h
  | some z =>
    simp only [plainO] at h
    split at h
    · injection h with h; subst h; exact ⟨rfl, by assumption⟩
    · cases h

/-- What stands at a place among cells: one value, or several. -/
def ldCells (sz : Option Nat) (cells : List AV) (o : Nat) : Option AV :=
  match sz with
  | none => plainO cells[o]?
  | some k => if o + k ≤ cells.length ∧ 0 < k then some (.agg ((cells.drop o).take k)) else none

def ldAv (sz : Option Nat) (T : Tab) : AV → Option AV
  | .ptr id o => match T id with
    | .row _ cells => ldCells sz cells o
    | _ => none
  | .fptr cells => ldCells sz cells 0
  | _ => none

def lldAv (l : Nat) (sz : Option Nat) (L : Loc) : AV → Option AV
  | .lp l' o => if l' = l then match aget L l with
      | some cells => ldCells sz cells o
      | none => none
    else none
  | _ => none

/-- A bound of a part. -/
def bnd (d : Nat) : Option AV → Option Nat
  | none => some d
  | some (.i _ j) => if 0 ≤ j then some j.toNat else none
  | _ => none

/-- A bound beyond the length, within what stands behind. -/
def slHi (cap : Option Nat) (o z len h : Nat) : Bool :=
  match cap with
  | some c => decide (h ≤ c)
  | none => decide (0 < z) && decide (o + h * z ≤ len)

/-- A slice's part. -/
def slcAv (esz : Nat) (T : Tab) (lo hi mx : Option AV) : AV → Option AV
  | .fz n cells cap =>
    match bnd 0 lo, bnd n hi, mx with
    | some l, some h, none => if l ≤ h ∧ h ≤ n then some (.fz (h - l) ((cells.drop (l * esz)).take ((h - l) * esz)) (cap.map (· - l))) else none
    | some l, some h, some (.i _ j) => if l ≤ h ∧ h ≤ j.toNat ∧ j.toNat ≤ n ∧ 0 ≤ j ∧ hi.isSome = true then some (.fz (h - l) ((cells.drop (l * esz)).take ((h - l) * esz)) (some (j.toNat - l))) else none
    | _, _, _ => none
  | .sl id o n cap =>
    match T id with
    | .row z cells => if z = esz then
        match bnd 0 lo, bnd n hi, mx with
        | some l, some h, none => if l ≤ h ∧ (h ≤ n ∨ slHi cap o z cells.length h = true) then (if l < h ∨ l = 0 then some (.sl id (o + l * esz) (h - l) (cap.map (· - l))) else some (.fz 0 [] none)) else none
        | some l, some h, some (.i _ j) => if l ≤ h ∧ h ≤ j.toNat ∧ j.toNat ≤ n ∧ 0 ≤ j ∧ hi.isSome = true then (if l < h ∨ l = 0 then some (.sl id (o + l * esz) (h - l) (some (j.toNat - l))) else some (.fz 0 [] (some (j.toNat - l)))) else none
        | _, _, _ => none
      else none
    | _ => none
  | _ => none

/-- A text's part. -/
def slcStr (lo hi : Option AV) : AV → Option AV
  | .s b =>
    match bnd 0 lo, bnd b.length hi with
    | some l, some h => if l ≤ h ∧ h ≤ b.length then some (.s ((b.drop l).take (h - l))) else none
    | _, _ => none
  | _ => none

def idxStr (i : AV) : AV → Option AV
  | .s b => match i with
    | .i _ j => if 0 ≤ j then (b[j.toNat]?).map (fun c => .i .u8 c.toNat) else none
    | _ => none
  | _ => none

/-- A part of a value of several cells. -/
def fldAv (off : Nat) (sz : Option Nat) : AV → Option AV
  | .agg cells => ldCells sz cells off
  | _ => none

def extAv (i : Nat) : AV → Option AV
  | .tup l => plainO l[i]?
  | _ => none

/-- An element of a value that is an array. -/
def idxAv (esz : Nat) (sz : Option Nat) (n : Nat) (i : AV) : AV → Option AV
  | .agg cells => match i with
    | .i _ j => if 0 ≤ j ∧ j < n then ldCells sz cells (j.toNat * esz) else none
    | _ => none
  | _ => none

def capAv : AV → Option AV
  | .fz _ _ (some c) => some (.i .i64 c)
  | .sl _ _ _ (some c) => some (.i .i64 c)
  | _ => none

def lenAv (str : Bool) : AV → Option AV
  | .fz n _ _ => if str then none else some (.i .i64 n)
  | .sl _ _ n _ => if str then none else some (.i .i64 n)
  | .s l => if str then some (.i .i64 l.length) else none
  | _ => none

section
variable {P : Program} {X : Cx} {lam : Nat → Nat} {w : World}

theorem Addr.add_none (b o n : Nat) : (⟨b, o, none⟩ : Addr).add n = ⟨b, o + n, none⟩ := by
  unfold Addr.add; split <;> simp_all

theorem addr_eta {a : Addr} (h : a.spot = none) : a = ⟨a.block, a.off, none⟩ := by cases a; simp_all

theorem FzRow.drop {a : Addr} {us : List Value} (h : FzRow X w a us) (n : Nat) (hs : Sp a us) : FzRow X w (a.add n) (us.drop n) := by
  rcases hs with rfl | hs
  · exact .inl (by simp)
  rcases h with rfl | ⟨h1, h2, h3⟩
  · exact .inl (by simp)
  · rw [addr_eta hs, Addr.add_none]
    refine .inr ⟨h1, fun u hu => h2 u (List.mem_of_mem_drop hu), fun j u hu => ?_⟩
    rw [List.getElem?_drop] at hu
    have := h3 _ u hu
    rw [← this]; simp [Nat.add_assoc]

theorem FzRow.take {a : Addr} {us : List Value} (h : FzRow X w a us) (n : Nat) : FzRow X w a (us.take n) := by
  rcases h with rfl | ⟨h1, h2, h3⟩
  · exact .inl (by simp)
  · refine .inr ⟨h1, fun u hu => h2 u (List.mem_of_mem_take hu), fun j u hu => h3 j u ?_⟩
    rw [List.getElem?_take] at hu
    split at hu
    · exact hu
    · cases hu

theorem FzRow.of_nil (a : Addr) : FzRow X w a [] := .inl rfl

theorem Addr.add_spot {a : Addr} (h : a.spot = none) (n : Nat) : (a.add n).spot = none := by rw [addr_eta h, Addr.add_none]
theorem Sp.drop {a : Addr} {us : List Value} (h : Sp a us) (n : Nat) : Sp (a.add n) (us.drop n) := by
  rcases h with rfl | h
  · exact .inl (by simp)
  · exact .inr (Addr.add_spot h n)
theorem Sp.take {a : Addr} {us : List Value} (h : Sp a us) (n : Nat) : Sp a (us.take n) := by
  rcases h with rfl | h
  · exact .inl (by simp)
  · exact .inr h

theorem fadr_sound {off : Nat} {x r : AV} {u : Value} (hx : evr X lam w x u) (h : fadrAv off x = some r) :
    ∃ ad q, u = .pointer (some ad) ∧ q = .pointer (some (ad.add off)) ∧ evr X lam w r q := by
  cases x <;> simp only [fadrAv] at h <;> first
    | (cases h; done)
    | skip
  · rename_i id o
    injection h with h; subst h
    simp only [evr, vr] at hx ⊢
    obtain ⟨h1, rfl⟩ := hx
    exact ⟨_, _, rfl, rfl, h1, by simp [Addr.add_none, Nat.add_assoc]⟩
  · rename_i cells
    injection h with h; subst h
    simp only [evr, vr] at hx ⊢
    obtain ⟨us, a, h1, rfl, h2, h3⟩ := hx
    exact ⟨_, _, rfl, rfl, us.drop off, a.add off, h1.drop off, rfl, h2.drop off, h3.drop off h2⟩
  · rename_i l o
    injection h with h; subst h
    simp only [evr] at hx ⊢
    subst hx
    exact ⟨_, _, rfl, rfl, by simp [Addr.add_none]⟩

theorem FzRow.loadCells {a : Addr} {us : List Value} (h : FzRow X w a us) (hs : Sp a us) : (loadCells a us.length).run P w = .ok us.toArray w := by
  refine run_loadCells_list w a us fun j v hv => ?_
  rcases hs with rfl | hs
  · simp at hv
  rcases h with rfl | ⟨h1, h2, h3⟩
  · simp at hv
  · rw [addr_eta hs, Addr.add_none]; exact h3 j v hv

/-- Cells that lie at a place in a block. -/
def Lies (w : World) (b o : Nat) (us : List Value) : Prop :=
  ∃ cur e f, w.heap[b]? = some (.cells cur e f) ∧ ∀ (j : Nat) u, us[j]? = some u → cur[o + j]? = some u

theorem Lies.cell {b o : Nat} {us : List Value} (h : Lies w b o us) {j : Nat} {u : Value} (hj : us[j]? = some u) : w.cell? ⟨b, o + j, none⟩ = some u := by
  obtain ⟨cur, e, f, h1, h2⟩ := h
  simp [World.cell?, h1, h2 j u hj]

theorem Lies.part {b o : Nat} {us : List Value} (h : Lies w b o us) (k n : Nat) : Lies w b (o + k) ((us.drop k).take n) := by
  obtain ⟨cur, e, f, h1, h2⟩ := h
  refine ⟨cur, e, f, h1, fun j u hu => ?_⟩
  rw [List.getElem?_take] at hu
  split at hu
  · rw [List.getElem?_drop] at hu
    rw [Nat.add_assoc]; exact h2 _ u hu
  · cases hu

theorem Lies.load {b o : Nat} {us : List Value} (h : Lies w b o us) : (loadCells ⟨b, o, none⟩ us.length).run P w = .ok us.toArray w :=
  run_loadCells_list w _ us fun j v hv => by rw [Addr.add_none]; exact h.cell hv

/-- What the loader says of a type that is loaded. -/
def LdT (P : Program) (t : TypeId) (sz : Option Nat) : Prop :=
  ∀ w : World, match sz with
    | none => (isAgg t).run P w = .ok false w
    | some n => (isAgg t).run P w = .ok true w ∧ (sizeOf t).run P w = .ok n w

/-- Loading at a place where cells lie. -/
theorem ldCells_sound {sz : Option Nat} {cells : List AV} {us : List Value} {b o k : Nat} {r : AV} {t : TypeId} (hv : vrs X w cells us) (h1 : ∀ u ∈ us, u.oneCell' = true) (hl : Lies w b o us)
    (h : ldCells sz cells k = some r) (ht : LdT P t sz) :
    ∃ q, (loadVar t ⟨b, o + k, none⟩).run P w = .ok q w ∧ vr X w r q := by
  cases sz with
  | none =>
    simp only [ldCells] at h
    obtain ⟨u, hu, hr⟩ := hv.get (plainO_some h).1
    refine ⟨u, ?_, hr⟩
    have ht := ht w
    simp only at ht
    simp only [loadVar, Sem.run_bind, ht, Result.andThen_ok]
    simp [hl.cell hu]
  | some n =>
    simp only [ldCells] at h
    split at h
    · rename_i hle
      injection h with h; subst h
      have hlen := hv.length
      have hp := (hl.part k n).load (P := P)
      rw [show ((us.drop k).take n).length = n by rw [List.length_take, List.length_drop]; omega] at hp
      refine ⟨.agg ((us.drop k).take n).toArray, ?_, ?_⟩
      · have ht := ht w
        simp only at ht
        simp only [loadVar, Sem.run_bind, ht.1, Result.andThen_ok, if_true, ht.2, hp, Sem.run_pure]
      · simp only [vr]
        exact ⟨_, (hv.drop k).take n, fun u hu => h1 u (List.mem_of_mem_drop (List.mem_of_mem_take hu)), rfl⟩
    · cases h

theorem RowAt.lies {id esz : Nat} {cells : List AV} (h : RowAt X w id esz cells) : ∃ us, vrs X w cells us ∧ (∀ u ∈ us, u.oneCell' = true) ∧ Lies w (X.β id).blk (X.β id).base us := by
  obtain ⟨cur, e, us, h1, h2, h3, h4, _⟩ := h
  exact ⟨us, h2, h3, cur, e, _, h1, h4⟩

theorem LocAt.lies {b : Nat} {cells : List AV} (h : LocAt X w b cells) : ∃ us, vrs X w cells us ∧ (∀ u ∈ us, u.oneCell' = true) ∧ Lies w b 0 us := by
  obtain ⟨e, us, h1, h2, h3⟩ := h
  exact ⟨us, h2, h3, us.toArray, e, _, h1, fun j u hu => by simpa using hu⟩

theorem FzRow.lies {a : Addr} {us : List Value} (h : FzRow X w a us) {j : Nat} {u : Value} (hu : us[j]? = some u) : Lies w a.block a.off us ∧ (∀ u ∈ us, u.oneCell' = true) := by
  rcases h with rfl | ⟨h1, h2, h3⟩
  · simp at hu
  · refine ⟨?_, h2⟩
    have h0 := h3 j u hu
    unfold World.cell? at h0
    simp only at h0
    split at h0
    · rename_i cur e f hc
      refine ⟨cur, e, f, hc, fun i v hv => ?_⟩
      have := h3 i v hv
      simpa [World.cell?, hc] using this
    · cases h0


theorem ldCells_ne {sz : Option Nat} {cells : List AV} {k : Nat} {r : AV} (h : ldCells sz cells k = some r) : ∃ x, cells[k]? = some x := by
  cases sz with
  | none => exact ⟨r, (plainO_some h).1⟩
  | some n =>
    simp only [ldCells] at h
    split at h
    · rename_i hle
      exact ⟨_, List.getElem?_eq_getElem (by omega)⟩
    · cases h

theorem ld_sound {T : Tab} {L : Loc} (hr : Rel X T L lam w) {sz : Option Nat} {x r : AV} {u : Value} {t : TypeId} (hx : evr X lam w x u) (ht : LdT P t sz) (h : ldAv sz T x = some r) :
    ∃ q, (Instr.loadAt t u).run P w = .ok q w ∧ vr X w r q := by
  cases x <;> simp only [ldAv] at h <;> first
    | (cases h; done)
    | skip
  · rename_i id o
    split at h
    · rename_i z cells hT
      simp only [evr, vr] at hx
      obtain ⟨_, rfl⟩ := hx
      obtain ⟨us, h1, h2, h3⟩ := (hr.row id z cells hT).lies
      simp only [Instr.loadAt, Instr.sureAddr, Sem.run_bind, Sem.run_pure, Result.andThen_ok]
      exact ldCells_sound h1 h2 h3 h ht
    · cases h
  · rename_i cells
    simp only [evr, vr] at hx
    obtain ⟨us, a, h1, rfl, h2, h3⟩ := hx
    obtain ⟨y, hy⟩ := ldCells_ne h
    obtain ⟨v, hv, _⟩ := h1.get hy
    obtain ⟨hl, ho⟩ := h3.lies hv
    simp only [Instr.loadAt, Instr.sureAddr, Sem.run_bind, Sem.run_pure, Result.andThen_ok]
    have := ldCells_sound (P := P) h1 ho hl h ht
    have h2 : a.spot = none := h2.resolve_left fun e => by subst e; simp at hv
    rw [Nat.add_zero, ← addr_eta h2] at this
    exact this

theorem lld_sound {T : Tab} {L : Loc} (hr : Rel X T L lam w) {l : Nat} {sz : Option Nat} {x r : AV} {u : Value} {t : TypeId} (hx : evr X lam w x u) (ht : LdT P t sz) (h : lldAv l sz L x = some r) :
    ∃ q, (Instr.loadAt t u).run P w = .ok q w ∧ vr X w r q := by
  cases x <;> simp only [lldAv] at h <;> first
    | (cases h; done)
    | skip
  rename_i l' o
  split at h
  · rename_i e
    subst e
    split at h
    · rename_i cells hL
      simp only [evr] at hx
      subst hx
      obtain ⟨us, h1, h2, h3⟩ := (hr.loc l' cells hL).lies
      simp only [Instr.loadAt, Instr.sureAddr, Sem.run_bind, Sem.run_pure, Result.andThen_ok]
      have := ldCells_sound (P := P) h1 h2 h3 h ht
      rwa [Nat.zero_add] at this
    · cases h
  · cases h

/-- What the loader says of a type that is indexed. -/
def IxT (P : Program) (t : TypeId) (esz : Nat) (alen : Option Nat) : Prop :=
  ∃ e i, P.info? e = some i ∧ i.size = esz ∧ match alen with
    | none => P.underlying t = some (.slice e)
    | some m => P.underlying t = some (.array m e)

theorem iadr_sound {esz : Nat} {alen : Option Nat} {x y r : AV} {u v : Value} {t : TypeId} (hx : evr X lam w x u) (hy : vr X w y v) (ht : IxT P t esz alen) (h : iadrAv esz alen y x = some r) :
    ∃ q, (Instr.indexAt t u v).run P w = .ok q w ∧ evr X lam w r q := by
  obtain ⟨e, i, hi, hsz, ht⟩ := ht
  cases x <;> simp only [iadrAv] at h <;> first
    | (cases h; done)
    | skip
  · rename_i id o
    cases alen with
    | none => simp at h
    | some m =>
      cases y <;> simp only at h <;> first | (cases h; done) | skip
      rename_i k j
      split at h
      · rename_i hj
        injection h with h; subst h
        simp only [evr, vr] at hx hy ⊢
        obtain ⟨h1, rfl⟩ := hx
        subst hy
        simp only at ht
        refine ⟨.pointer (some ((⟨(X.β id).blk, (X.β id).base + o, none⟩ : Addr).add (j.toNat * esz))), ?_, h1, ?_⟩
        · simp [Instr.indexAt, asIntOf, run_underlying ht, Instr.sureAddr, hj, sizeOf, typeInfo, hi, hsz]
        · simp [Addr.add_none, Nat.add_assoc]
      · cases h
  · rename_i cells
    cases alen with
    | none => simp at h
    | some m =>
      cases y <;> simp only at h <;> first | (cases h; done) | skip
      rename_i k j
      split at h
      · rename_i hj
        injection h with h; subst h
        simp only [evr, vr] at hx hy ⊢
        obtain ⟨us, a, h1, rfl, h2, h3⟩ := hx
        subst hy
        simp only at ht
        refine ⟨.pointer (some (a.add (j.toNat * esz))), ?_, us.drop (j.toNat * esz), _, h1.drop _, rfl, h2.drop _, h3.drop _ h2⟩
        simp [Instr.indexAt, asIntOf, run_underlying ht, Instr.sureAddr, hj, sizeOf, typeInfo, hi, hsz]
      · cases h
  · rename_i n cells cap
    cases alen with
    | some m => simp at h
    | none =>
      cases y <;> simp only at h <;> first | (cases h; done) | skip
      rename_i k j
      split at h
      · rename_i hj
        injection h with h; subst h
        simp only [evr, vr] at hx hy ⊢
        obtain ⟨us, h1, hf⟩ := hx
        subst hy
        simp only at ht
        rcases hf with ⟨_, rfl, _⟩ | ⟨a, c, rfl, h2, h3, h4, h5⟩
        · omega
        · refine ⟨.pointer (some (a.add (j.toNat * esz))), ?_, us.drop (j.toNat * esz), _, h1.drop _, rfl, h2.drop _, h5.drop _ h2⟩
          simp [Instr.indexAt, asIntOf, run_underlying ht, hj, sizeOf, typeInfo, hi, hsz]
      · cases h
  · rename_i id o n cap
    cases alen with
    | some m => simp at h
    | none =>
      cases y <;> simp only at h <;> first | (cases h; done) | skip
      rename_i k j
      split at h
      · rename_i hj
        injection h with h; subst h
        simp only [evr, vr] at hx hy ⊢
        obtain ⟨h1, c, rfl, h2, h3, h4⟩ := hx
        subst hy
        simp only at ht
        refine ⟨.pointer (some ((⟨(X.β id).blk, (X.β id).base + o, none⟩ : Addr).add (j.toNat * esz))), ?_, h1, ?_⟩
        · simp [Instr.indexAt, asIntOf, run_underlying ht, hj, sizeOf, typeInfo, hi, hsz]
        · simp [Addr.add_none, Nat.add_assoc]
      · cases h
  · rename_i l o
    cases alen with
    | none => simp at h
    | some m =>
      cases y <;> simp only at h <;> first | (cases h; done) | skip
      rename_i k j
      split at h
      · rename_i hj
        injection h with h; subst h
        simp only [evr, vr] at hx hy ⊢
        subst hx
        subst hy
        simp only at ht
        refine ⟨.pointer (some ((⟨lam l, o, none⟩ : Addr).add (j.toNat * esz))), ?_, ?_⟩
        · simp [Instr.indexAt, asIntOf, run_underlying ht, Instr.sureAddr, hj, sizeOf, typeInfo, hi, hsz]
        · simp [Addr.add_none]
      · cases h

theorem len_sound {t : TypeId} {ty : TypeId} {x r : AV} {u : Value} {str : Bool} (hx : vr X w x u) (ht : if str then P.underlying t = some .string else ∃ e, P.underlying t = some (.slice e))
    (h : lenAv str x = some r) : ∃ q, (Builtin.len_ #[t] ty #[u]).run P w = .ok q w ∧ vr X w r q := by
  cases x <;> simp only [lenAv] at h <;> first
    | (cases h; done)
    | skip
  · rename_i l
    cases str with
    | false => simp at h
    | true =>
    simp only [if_true] at h ht
    injection h with h; subst h
    simp only [vr] at hx ⊢
    subst hx
    exact ⟨_, by simp [Builtin.len_, run_underlying ht]; rfl, by simp [goInt, ByteArray.size]⟩
  · rename_i n cells cap
    cases str with
    | true => simp at h
    | false =>
    simp only [Bool.false_eq_true, if_false] at h ht
    injection h with h; subst h
    obtain ⟨e, ht⟩ := ht
    simp only [vr] at hx ⊢
    obtain ⟨us, h1, hf⟩ := hx
    rcases hf with ⟨rfl, rfl, _⟩ | ⟨a, c, rfl, h2, h3, h4, h5⟩
    · exact ⟨_, by simp [Builtin.len_, run_underlying ht]; rfl, rfl⟩
    · exact ⟨_, by simp [Builtin.len_, run_underlying ht]; rfl, rfl⟩
  · rename_i id o n cap
    cases str with
    | true => simp at h
    | false =>
    simp only [Bool.false_eq_true, if_false] at h ht
    injection h with h; subst h
    obtain ⟨e, ht⟩ := ht
    simp only [vr] at hx ⊢
    obtain ⟨h1, c, rfl, h2, h3, h4⟩ := hx
    exact ⟨_, by simp [Builtin.len_, run_underlying ht]; rfl, rfl⟩

end
end Go.Aw
