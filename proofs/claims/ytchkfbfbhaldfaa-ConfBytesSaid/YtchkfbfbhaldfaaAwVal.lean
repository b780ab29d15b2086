/-
  Abstract values, and what it is for a value of the model to be one in a world.
-/
import Derived.Orders
import Derived.Below
import Derived.Laws.AppendOwn
namespace Go.Aw
set_option linter.all false
open Go

/-- Abstract values. 'fz': a slice whose places nobody writes any more; 'fptr': a pointer to such; 'sl', 'ptr', 'mp': into the table; 'lp': into a local variable. -/
inductive AV where
  | b (x : Bool)
  | i (k : IntKind) (n : Int)
  | s (l : List UInt8)
  | nilptr
  | ptr (id off : Nat)
  | fptr (cells : List AV)
  | fz (n : Nat) (cells : List AV) (cap : Option Nat)
  | sl (id off n : Nat) (cap : Option Nat)
  | nilmap
  | mp (id : Nat)
  | fn (f : Fn) (first cap : List AV)
  | nilfn
  | ifc (t : TypeId) (v : AV)
  | nilifc
  | agg (l : List AV)
  | tup (l : List AV)
  | lp (l off : Nat)
  | raw (v : Value)
  | any
  deriving Inhabited

structure Blk where
  blk : Nat
  base : Nat
  lim : Nat
  esz : Nat
  deriving Inhabited

/-- What is known of places: the blocks that nobody writes, where each row of the table lies, the first free name. -/
structure Cx where
  fz : Nat → Prop
  β : Nat → Blk
  N : Nat

def capOk (cap : Option Nat) (c : Nat) : Prop := ∀ k, cap = some k → c = k

/-- A row of values that nobody writes. -/
def FzRow (X : Cx) (w : World) (a : Addr) (us : List Value) : Prop :=
  us = [] ∨ (X.fz a.block ∧ (∀ u ∈ us, u.oneCell' = true) ∧ ∀ (j : Nat) u, us[j]? = some u → w.cell? ⟨a.block, a.off + j, none⟩ = some u)

/-- An address whose cells can be read, if there are any. -/
def Sp (a : Addr) (us : List Value) : Prop := us = [] ∨ a.spot = none

def fzSlice (X : Cx) (w : World) (n : Nat) (cap : Option Nat) (us : List Value) (v : Value) : Prop :=
  (v = .slice none 0 0 ∧ n = 0 ∧ us = [] ∧ capOk cap 0) ∨
  ∃ a c, v = .slice (some a) n c ∧ Sp a us ∧ n ≤ c ∧ capOk cap c ∧ FzRow X w a us

mutual
def vr (X : Cx) (w : World) : AV → Value → Prop
  | .b x, v => v = .bool x
  | .i k n, v => v = .int k n
  | .s l, v => v = .string ⟨l.toArray⟩
  | .nilptr, v => v = .pointer none
  | .ptr id o, v => id < X.N ∧ v = .pointer (some ⟨(X.β id).blk, (X.β id).base + o, none⟩)
  | .fptr cells, v => ∃ us a, vrs X w cells us ∧ v = .pointer (some a) ∧ Sp a us ∧ FzRow X w a us
  | .fz n cells cap, v => ∃ us, vrs X w cells us ∧ fzSlice X w n cap us v
  | .sl id o n cap, v => id < X.N ∧ ∃ c, v = .slice (some ⟨(X.β id).blk, (X.β id).base + o, none⟩) n c ∧ n ≤ c ∧ capOk cap c ∧ (X.β id).base + o + c * (X.β id).esz ≤ (X.β id).lim ∧ (cap = none → (X.β id).base + o + c * (X.β id).esz = (X.β id).lim)
  | .nilmap, v => v = .map none
  | .mp id, v => id < X.N ∧ v = .map (some (X.β id).blk)
  | .fn f first cap, v => ∃ us vs, vrs X w first us ∧ vrs X w cap vs ∧ v = .func f us.toArray vs.toArray
  | .nilfn, v => v = .nilFunc
  | .ifc t x, v => ∃ u, vr X w x u ∧ v = .iface t u
  | .nilifc, v => v = .nilIface
  | .agg l, v => ∃ us, vrs X w l us ∧ (∀ u ∈ us, u.oneCell' = true) ∧ v = .agg us.toArray
  | .tup l, v => ∃ us, vrs X w l us ∧ v = .tuple us.toArray
  | .lp _ _, _ => False
  | .raw x, v => v = x ∧ x.oneCell' = true
  | .any, _ => True
def vrs (X : Cx) (w : World) : List AV → List Value → Prop
  | [], us => us = []
  | x :: l, us => ∃ u us', us = u :: us' ∧ vr X w x u ∧ vrs X w l us'
end

/-- More is known. -/
structure Cx.Le (X X' : Cx) : Prop where
  n : X.N ≤ X'.N
  β : ∀ id, id < X.N → X'.β id = X.β id
  fz : ∀ b, X.fz b → X'.fz b

theorem Cx.Le.refl (X : Cx) : X.Le X := ⟨Nat.le_refl _, fun _ _ => rfl, fun _ h => h⟩
theorem Cx.Le.trans {X Y Z : Cx} (h : X.Le Y) (k : Y.Le Z) : X.Le Z :=
  ⟨Nat.le_trans h.n k.n, fun id hi => (k.β id (Nat.lt_of_lt_of_le hi h.n)).trans (h.β id hi), fun b hb => k.fz b (h.fz b hb)⟩

/-- The blocks that nobody writes are as they were. -/
def FzKept (X : Cx) (w w' : World) : Prop := ∀ b, X.fz b → w'.heap[b]? = w.heap[b]?

theorem FzRow.mono {X X' : Cx} {w w' : World} {a : Addr} {us : List Value} (hx : X.Le X') (hw : FzKept X w w') (h : FzRow X w a us) : FzRow X' w' a us := by
  rcases h with h | ⟨h, h1, hc⟩
  · exact .inl h
  · refine .inr ⟨hx.fz _ h, h1, fun j u hu => ?_⟩
    rw [← hc j u hu]
    exact World.cell?_of_block (hw _ h)

theorem fzSlice.mono {X X' : Cx} {w w' : World} {n : Nat} {cap : Option Nat} {us : List Value} {v : Value} (hx : X.Le X') (hw : FzKept X w w')
    (h : fzSlice X w n cap us v) : fzSlice X' w' n cap us v := by
  rcases h with h | ⟨a, c, h1, h2, h3, h4, h5⟩
  · exact .inl h
  · exact .inr ⟨a, c, h1, h2, h3, h4, h5.mono hx hw⟩

mutual
theorem vr.mono {X X' : Cx} {w w' : World} (hx : X.Le X') (hw : FzKept X w w') : ∀ (x : AV) (v : Value), vr X w x v → vr X' w' x v
  | .b _, _, h | .i _ _, _, h | .s _, _, h | .nilptr, _, h | .nilmap, _, h | .nilfn, _, h | .nilifc, _, h | .raw _, _, h => by simp only [vr] at h ⊢; exact h
  | .any, _, _ => by simp only [vr]
  | .lp _ _, _, h => by simp [vr] at h
  | .ptr id o, v, h => by
    simp only [vr] at h ⊢
    rw [hx.β id h.1]
    exact ⟨Nat.lt_of_lt_of_le h.1 hx.n, h.2⟩
  | .fptr cells, v, h => by
    simp only [vr] at h ⊢
    obtain ⟨us, a, h1, h2, h3, h4⟩ := h
    exact ⟨us, a, vrs.mono hx hw cells us h1, h2, h3, h4.mono hx hw⟩
  | .fz n cells cap, v, h => by
    simp only [vr] at h ⊢
    obtain ⟨us, h1, h2⟩ := h
    exact ⟨us, vrs.mono hx hw cells us h1, h2.mono hx hw⟩
  | .sl id o n cap, v, h => by
    simp only [vr] at h ⊢
    rw [hx.β id h.1]
    exact ⟨Nat.lt_of_lt_of_le h.1 hx.n, h.2⟩
  | .mp id, v, h => by
    simp only [vr] at h ⊢
    rw [hx.β id h.1]
    exact ⟨Nat.lt_of_lt_of_le h.1 hx.n, h.2⟩
  | .fn f first cap, v, h => by
    simp only [vr] at h ⊢
    obtain ⟨us, vs, h1, h2, h3⟩ := h
    exact ⟨us, vs, vrs.mono hx hw first us h1, vrs.mono hx hw cap vs h2, h3⟩
  | .ifc t x, v, h => by
    simp only [vr] at h ⊢
    obtain ⟨u, h1, h2⟩ := h
    exact ⟨u, vr.mono hx hw x u h1, h2⟩
  | .agg l, v, h => by
    simp only [vr] at h ⊢
    obtain ⟨us, h1, h2⟩ := h
    exact ⟨us, vrs.mono hx hw l us h1, h2⟩
  | .tup l, v, h => by
    simp only [vr] at h ⊢
    obtain ⟨us, h1, h2⟩ := h
    exact ⟨us, vrs.mono hx hw l us h1, h2⟩
theorem vrs.mono {X X' : Cx} {w w' : World} (hx : X.Le X') (hw : FzKept X w w') : ∀ (l : List AV) (us : List Value), vrs X w l us → vrs X' w' l us
  | [], us, h => by simpa [vrs] using h
  | x :: l, us, h => by
    simp only [vrs] at h ⊢
    obtain ⟨u, us', h1, h2, h3⟩ := h
    exact ⟨u, us', h1, vr.mono hx hw x u h2, vrs.mono hx hw l us' h3⟩
end

theorem vrs.length {X : Cx} {w : World} : ∀ {l : List AV} {us : List Value}, vrs X w l us → us.length = l.length
  | [], us, h => by simp [vrs] at h; simp [h]
  | x :: l, us, h => by
    simp only [vrs] at h
    obtain ⟨u, us', rfl, _, h3⟩ := h
    simp [vrs.length h3]

theorem vrs.get {X : Cx} {w : World} : ∀ {l : List AV} {us : List Value} (_ : vrs X w l us) {j : Nat} {x : AV}, l[j]? = some x → ∃ u, us[j]? = some u ∧ vr X w x u
  | [], us, h, j, x, hj => by simp at hj
  | y :: l, us, h, j, x, hj => by
    simp only [vrs] at h
    obtain ⟨u, us', rfl, h2, h3⟩ := h
    cases j with
    | zero => simp at hj; subst hj; exact ⟨u, rfl, h2⟩
    | succ j => simp at hj; simpa using vrs.get h3 hj

theorem vrs.getV {X : Cx} {w : World} : ∀ {l : List AV} {us : List Value} (_ : vrs X w l us) {j : Nat} {u : Value}, us[j]? = some u → ∃ x, l[j]? = some x ∧ vr X w x u
  | [], us, h, j, x, hj => by simp [vrs] at h; simp [h] at hj
  | y :: l, us, h, j, x, hj => by
    simp only [vrs] at h
    obtain ⟨u, us', rfl, h2, h3⟩ := h
    cases j with
    | zero => simp at hj; subst hj; exact ⟨y, rfl, h2⟩
    | succ j => simp at hj; simpa using vrs.getV h3 hj

theorem vrs.append {X : Cx} {w : World} : ∀ {l k : List AV} {us vs : List Value}, vrs X w l us → vrs X w k vs → vrs X w (l ++ k) (us ++ vs)
  | [], k, us, vs, h, h' => by simp [vrs] at h; subst h; simpa using h'
  | x :: l, k, us, vs, h, h' => by
    simp only [vrs] at h
    obtain ⟨u, us', rfl, h2, h3⟩ := h
    exact ⟨u, us' ++ vs, rfl, h2, h3.append h'⟩

theorem vrs.take {X : Cx} {w : World} : ∀ (n : Nat) {l : List AV} {us : List Value}, vrs X w l us → vrs X w (l.take n) (us.take n)
  | 0, l, us, h => by simp [vrs]
  | n + 1, [], us, h => by simp [vrs] at h; subst h; simp [vrs]
  | n + 1, x :: l, us, h => by
    simp only [vrs] at h
    obtain ⟨u, us', rfl, h2, h3⟩ := h
    exact ⟨u, us'.take n, rfl, h2, vrs.take n h3⟩

theorem vrs.drop {X : Cx} {w : World} : ∀ (n : Nat) {l : List AV} {us : List Value}, vrs X w l us → vrs X w (l.drop n) (us.drop n)
  | 0, l, us, h => by simpa using h
  | n + 1, [], us, h => by simp [vrs] at h; subst h; simp [vrs]
  | n + 1, x :: l, us, h => by
    simp only [vrs] at h
    obtain ⟨u, us', rfl, h2, h3⟩ := h
    simpa using vrs.drop n h3

theorem vrs.set {X : Cx} {w : World} {x : AV} {v : Value} (hv : vr X w x v) : ∀ (j : Nat) {l : List AV} {us : List Value}, vrs X w l us → vrs X w (l.set j x) (us.set j v)
  | _, [], us, h => by simp [vrs] at h; subst h; simp [vrs]
  | 0, y :: l, us, h => by
    simp only [vrs] at h
    obtain ⟨u, us', rfl, h2, h3⟩ := h
    exact ⟨v, us', rfl, hv, h3⟩
  | j + 1, y :: l, us, h => by
    simp only [vrs] at h
    obtain ⟨u, us', rfl, h2, h3⟩ := h
    exact ⟨u, us'.set j v, rfl, h2, vrs.set hv j h3⟩

/-- The cells of a value. -/
def AV.cells : AV → List AV
  | .agg l => l
  | x => [x]

/-- A value of one cell. -/
def AV.isOne : AV → Bool
  | .agg _ | .tup _ | .lp _ _ | .any => false
  | _ => true

theorem vr.one {X : Cx} {w : World} {x : AV} {v : Value} (h : vr X w x v) (hx : x.isOne = true) : v.oneCell' = true := by
  cases x with
  | b | i | s | nilptr | nilmap | nilfn | nilifc => simp only [vr] at h; subst h; rfl
  | ptr | mp => simp only [vr] at h; obtain ⟨_, rfl⟩ := h; rfl
  | fptr => simp only [vr] at h; obtain ⟨us, a, _, rfl, _⟩ := h; rfl
  | fz =>
    simp only [vr] at h
    obtain ⟨us, _, h2⟩ := h
    rcases h2 with ⟨rfl, _⟩ | ⟨a, c, rfl, _⟩ <;> rfl
  | sl => simp only [vr] at h; obtain ⟨_, c, rfl, _⟩ := h; rfl
  | fn => simp only [vr] at h; obtain ⟨us, vs, _, _, rfl⟩ := h; rfl
  | ifc => simp only [vr] at h; obtain ⟨u, _, rfl⟩ := h; rfl
  | raw => simp only [vr] at h; obtain ⟨rfl, h⟩ := h; exact h
  | agg | tup | lp | any => simp [AV.isOne] at hx

theorem oneCell_cells {v : Value} (h : v.oneCell' = true) : v.cells = #[v] := by
  cases v <;> first | rfl | (simp [Value.oneCell'] at h)

theorem vr.cells {X : Cx} {w : World} {x : AV} {v : Value} (h : vr X w x v) (hx : x.isOne = true ∨ ∃ l, x = .agg l) :
    vrs X w x.cells v.cells.toList ∧ ∀ u ∈ v.cells.toList, u.oneCell' = true := by
  rcases hx with hx | ⟨l, rfl⟩
  · have h1 := h.one hx
    have hc : x.cells = [x] := by cases x <;> first | rfl | (simp [AV.isOne] at hx)
    rw [oneCell_cells h1, hc]
    exact ⟨⟨v, [], rfl, h, rfl⟩, by simp [h1]⟩
  · simp only [vr] at h
    obtain ⟨us, h1, h2, rfl⟩ := h
    exact ⟨by simpa [AV.cells, Value.cells] using h1, by simpa [Value.cells] using h2⟩

end Go.Aw
