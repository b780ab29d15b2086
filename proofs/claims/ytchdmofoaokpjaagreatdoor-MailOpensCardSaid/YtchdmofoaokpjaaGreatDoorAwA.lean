import Derived.Orders
import Derived.Below
import Derived.Laws.AppendOwn
import Derived.Laws.Cells
import Derived.Laws.BytesArg
import Derived.Lib.Strings
import Derived.Laws.Slices
import Derived.Laws.CopyRow
import Derived.MapKept
namespace Go.Aw
open Go
set_option linter.all false
inductive AV where
 | b (x : Bool)
 | i (k : IntKind) (n : Int)
 | s (l : List UInt8)
 | nilptr
 | ptr (id off : Nat)
 | fptr (cells : List AV)
 | fz (n : Nat) (cells : List AV) (cap : Option Nat)
 | sl (id off n : Nat) (cap : Option Nat)
 | nilmap
 | mp (id : Nat)
 | fn (f : Fn) (first cap : List AV)
 | nilfn
 | ifc (t : TypeId) (v : AV)
 | nilifc
 | agg (l : List AV)
 | tup (l : List AV)
 | lp (l off : Nat)
 | raw (v : Value)
 | any
 deriving Inhabited
class Glob where
 gl : List (Nat × Value)
structure Blk where
 blk : Nat
 base : Nat
 lim : Nat
 esz : Nat
 deriving Inhabited
structure Cx where
 fz : Nat -> Prop
 β : Nat -> Blk
 N : Nat
def qp7 (cap : Option Nat) (c : Nat) : Prop := ∀ k, cap = some k -> c = k
def FzRow (X : Cx) (w : World) (a : Addr) (us : List Value) : Prop :=
 us = [] \/ (X.fz a.block /\ (∀ u ∈ us, u.oneCell' = true) /\ ∀ (j : Nat) u, us[j]? = some u -> w.cell? ⟨a.block, a.off + j, none⟩ = some u)
def Sp (a : Addr) (us : List Value) : Prop := us = [] \/ a.spot = none
def fzSlice (X : Cx) (w : World) (n : Nat) (cap : Option Nat) (us : List Value) (v : Value) : Prop :=
 (v = .slice none 0 0 /\ n = 0 /\ us = [] /\ qp7 cap 0) \/
 ∃ a c, v = .slice (some a) n c /\ Sp a us /\ n <= c /\ qp7 cap c /\ FzRow X w a us
mutual
def vr (X : Cx) (w : World) : AV -> Value -> Prop
 | .b x, v => v = .bool x
 | .i k n, v => v = .int k n
 | .s l, v => v = .string ⟨l.toArray⟩
 | .nilptr, v => v = .pointer none
 | .ptr id o, v => id < X.N /\ v = .pointer (some ⟨(X.β id).blk, (X.β id).base + o, none⟩)
 | .fptr cells, v => ∃ us a, vrs X w cells us /\ v = .pointer (some a) /\ Sp a us /\ FzRow X w a us
 | .fz n cells cap, v => ∃ us, vrs X w cells us /\ fzSlice X w n cap us v
 | .sl id o n cap, v => id < X.N /\ ∃ c, v = .slice (some ⟨(X.β id).blk, (X.β id).base + o, none⟩) n c /\ n <= c /\ qp7 cap c /\ (X.β id).base + o + c * (X.β id).esz <= (X.β id).lim /\ (cap = none -> (X.β id).base + o + c * (X.β id).esz = (X.β id).lim)
 | .nilmap, v => v = .map none
 | .mp id, v => id < X.N /\ v = .map (some (X.β id).blk)
 | .fn f first cap, v => ∃ us vs, vrs X w first us /\ vrs X w cap vs /\ v = .func f us.toArray vs.toArray
 | .nilfn, v => v = .nilFunc
 | .ifc t x, v => ∃ u, vr X w x u /\ v = .iface t u
 | .nilifc, v => v = .nilIface
 | .agg l, v => ∃ us, vrs X w l us /\ (∀ u ∈ us, u.oneCell' = true) /\ v = .agg us.toArray
 | .tup l, v => ∃ us, vrs X w l us /\ v = .tuple us.toArray
 | .lp _ _, _ => False
 | .raw x, v => v = x /\ x.oneCell' = true
 | .any, _ => True
def vrs (X : Cx) (w : World) : List AV -> List Value -> Prop
 | [], us => us = []
 | x :: l, us => ∃ u us', us = u :: us' /\ vr X w x u /\ vrs X w l us'
end
structure Cx.Le (X X' : Cx) : Prop where
 n : X.N <= X'.N
 β : ∀ id, id < X.N -> X'.β id = X.β id
 fz : ∀ b, X.fz b -> X'.fz b
theorem Cx.Le.refl (X : Cx) : X.Le X := ⟨Nat.le_refl _, fun _ _ => rfl, fun _ h => h⟩
theorem Cx.Le.trans {X Y Z : Cx} (h : X.Le Y) (k : Y.Le Z) : X.Le Z :=
 ⟨Nat.le_trans h.n k.n, fun id hi => (k.β id (Nat.lt_of_lt_of_le hi h.n)).trans (h.β id hi), fun b hb => k.fz b (h.fz b hb)⟩
def q5e (X : Cx) (w w' : World) : Prop := ∀ b, X.fz b -> w'.heap[b]? = w.heap[b]?
theorem FzRow.mono {X X' : Cx} {w w' : World} {a : Addr} {us : List Value} (hx : X.Le X') (hw : q5e X w w') (h : FzRow X w a us) : FzRow X' w' a us := by
 rcases h with h | ⟨h, h1, hc⟩
 ·exact .inl h
 ·refine .inr ⟨hx.fz _ h, h1, fun j u hu => ?_⟩
  rw [<- hc j u hu]
  exact World.cell?_of_block (hw _ h)
theorem fzSlice.mono {X X' : Cx} {w w' : World} {n : Nat} {cap : Option Nat} {us : List Value} {v : Value} (hx : X.Le X') (hw : q5e X w w')
  (h : fzSlice X w n cap us v) : fzSlice X' w' n cap us v := by
 rcases h with h | ⟨a, c, h1, h2, h3, h4, h5⟩
 ·exact .inl h
 ·exact .inr ⟨a, c, h1, h2, h3, h4, h5.mono hx hw⟩
mutual
theorem vr.mono {X X' : Cx} {w w' : World} (hx : X.Le X') (hw : q5e X w w') : ∀ (x : AV) (v : Value), vr X w x v -> vr X' w' x v
 | .b _, _, h | .i _ _, _, h | .s _, _, h | .nilptr, _, h | .nilmap, _, h | .nilfn, _, h | .nilifc, _, h | .raw _, _, h => by simp only [vr] at h ⊢; exact h
 | .any, _, _ => by simp only [vr]
 | .lp _ _, _, h => by simp [vr] at h
 | .ptr id o, v, h => by
  simp only [vr] at h ⊢
  rw [hx.β id h.1]
  exact ⟨Nat.lt_of_lt_of_le h.1 hx.n, h.2⟩
 | .fptr cells, v, h => by
  simp only [vr] at h ⊢
  obtain ⟨us, a, h1, h2, h3, h4⟩ := h
  exact ⟨us, a, vrs.mono hx hw cells us h1, h2, h3, h4.mono hx hw⟩
 | .fz n cells cap, v, h => by
  simp only [vr] at h ⊢
  obtain ⟨us, h1, h2⟩ := h
  exact ⟨us, vrs.mono hx hw cells us h1, h2.mono hx hw⟩
 | .sl id o n cap, v, h => by
  simp only [vr] at h ⊢
  rw [hx.β id h.1]
  exact ⟨Nat.lt_of_lt_of_le h.1 hx.n, h.2⟩
 | .mp id, v, h => by
  simp only [vr] at h ⊢
  rw [hx.β id h.1]
  exact ⟨Nat.lt_of_lt_of_le h.1 hx.n, h.2⟩
 | .fn f first cap, v, h => by
  simp only [vr] at h ⊢
  obtain ⟨us, vs, h1, h2, h3⟩ := h
  exact ⟨us, vs, vrs.mono hx hw first us h1, vrs.mono hx hw cap vs h2, h3⟩
 | .ifc t x, v, h => by
  simp only [vr] at h ⊢
  obtain ⟨u, h1, h2⟩ := h
  exact ⟨u, vr.mono hx hw x u h1, h2⟩
 | .agg l, v, h => by
  simp only [vr] at h ⊢
  obtain ⟨us, h1, h2⟩ := h
  exact ⟨us, vrs.mono hx hw l us h1, h2⟩
 | .tup l, v, h => by
  simp only [vr] at h ⊢
  obtain ⟨us, h1, h2⟩ := h
  exact ⟨us, vrs.mono hx hw l us h1, h2⟩
theorem vrs.mono {X X' : Cx} {w w' : World} (hx : X.Le X') (hw : q5e X w w') : ∀ (l : List AV) (us : List Value), vrs X w l us -> vrs X' w' l us
 | [], us, h => by simpa [vrs] using h
 | x :: l, us, h => by
  simp only [vrs] at h ⊢
  obtain ⟨u, us', h1, h2, h3⟩ := h
  exact ⟨u, us', h1, vr.mono hx hw x u h2, vrs.mono hx hw l us' h3⟩
end
theorem vrs.length {X : Cx} {w : World} : ∀ {l : List AV} {us : List Value}, vrs X w l us -> us.length = l.length
 | [], us, h => by simp [vrs] at h; simp [h]
 | x :: l, us, h => by
  simp only [vrs] at h
  obtain ⟨u, us', rfl, _, h3⟩ := h
  simp [vrs.length h3]
theorem vrs.get {X : Cx} {w : World} : ∀ {l : List AV} {us : List Value} (_ : vrs X w l us) {j : Nat} {x : AV}, l[j]? = some x -> ∃ u, us[j]? = some u /\ vr X w x u
 | [], us, h, j, x, hj => by simp at hj
 | y :: l, us, h, j, x, hj => by
  simp only [vrs] at h
  obtain ⟨u, us', rfl, h2, h3⟩ := h
  cases j with
  | zero => simp at hj; subst hj; exact ⟨u, rfl, h2⟩
  | succ j => simp at hj; simpa using vrs.get h3 hj
theorem vrs.append {X : Cx} {w : World} : ∀ {l k : List AV} {us vs : List Value}, vrs X w l us -> vrs X w k vs -> vrs X w (l ++ k) (us ++ vs)
 | [], k, us, vs, h, h' => by simp [vrs] at h; subst h; simpa using h'
 | x :: l, k, us, vs, h, h' => by
  simp only [vrs] at h
  obtain ⟨u, us', rfl, h2, h3⟩ := h
  exact ⟨u, us' ++ vs, rfl, h2, h3.append h'⟩
theorem vrs.take {X : Cx} {w : World} : ∀ (n : Nat) {l : List AV} {us : List Value}, vrs X w l us -> vrs X w (l.take n) (us.take n)
 | 0, l, us, h => by simp [vrs]
 | n + 1, [], us, h => by simp [vrs] at h; subst h; simp [vrs]
 | n + 1, x :: l, us, h => by
  simp only [vrs] at h
  obtain ⟨u, us', rfl, h2, h3⟩ := h
  exact ⟨u, us'.take n, rfl, h2, vrs.take n h3⟩
theorem vrs.drop {X : Cx} {w : World} : ∀ (n : Nat) {l : List AV} {us : List Value}, vrs X w l us -> vrs X w (l.drop n) (us.drop n)
 | 0, l, us, h => by simpa using h
 | n + 1, [], us, h => by simp [vrs] at h; subst h; simp [vrs]
 | n + 1, x :: l, us, h => by
  simp only [vrs] at h
  obtain ⟨u, us', rfl, h2, h3⟩ := h
  simpa using vrs.drop n h3
theorem vrs.set {X : Cx} {w : World} {x : AV} {v : Value} (hv : vr X w x v) : ∀ (j : Nat) {l : List AV} {us : List Value}, vrs X w l us -> vrs X w (l.set j x) (us.set j v)
 | _, [], us, h => by simp [vrs] at h; subst h; simp [vrs]
 | 0, y :: l, us, h => by
  simp only [vrs] at h
  obtain ⟨u, us', rfl, h2, h3⟩ := h
  exact ⟨v, us', rfl, hv, h3⟩
 | j + 1, y :: l, us, h => by
  simp only [vrs] at h
  obtain ⟨u, us', rfl, h2, h3⟩ := h
  exact ⟨u, us'.set j v, rfl, h2, vrs.set hv j h3⟩
def AV.cells : AV -> List AV
 | .agg l => l
 | x => [x]
def AV.isOne : AV -> Bool
 | .agg _ | .tup _ | .lp _ _ | .any => false
 | _ => true
theorem vr.one {X : Cx} {w : World} {x : AV} {v : Value} (h : vr X w x v) (hx : x.isOne = true) : v.oneCell' = true := by
 cases x with
 | b | i | s | nilptr | nilmap | nilfn | nilifc => simp only [vr] at h; subst h; rfl
 | ptr | mp => simp only [vr] at h; obtain ⟨_, rfl⟩ := h; rfl
 | fptr => simp only [vr] at h; obtain ⟨us, a, _, rfl, _⟩ := h; rfl
 | fz =>
  simp only [vr] at h
  obtain ⟨us, _, h2⟩ := h
  rcases h2 with ⟨rfl, _⟩ | ⟨a, c, rfl, _⟩ <;> rfl
 | sl => simp only [vr] at h; obtain ⟨_, c, rfl, _⟩ := h; rfl
 | fn => simp only [vr] at h; obtain ⟨us, vs, _, _, rfl⟩ := h; rfl
 | ifc => simp only [vr] at h; obtain ⟨u, _, rfl⟩ := h; rfl
 | raw => simp only [vr] at h; obtain ⟨rfl, h⟩ := h; exact h
 | agg | tup | lp | any => simp [AV.isOne] at hx
theorem qnm {v : Value} (h : v.oneCell' = true) : v.cells = #[v] := by
 cases v <;> first | rfl | (simp [Value.oneCell'] at h)
theorem vr.cells {X : Cx} {w : World} {x : AV} {v : Value} (h : vr X w x v) (hx : x.isOne = true \/ ∃ l, x = .agg l) :
  vrs X w x.cells v.cells.toList /\ ∀ u ∈ v.cells.toList, u.oneCell' = true := by
 rcases hx with hx | ⟨l, rfl⟩
 ·have h1 := h.one hx
  have hc : x.cells = [x] := by cases x <;> first | rfl | (simp [AV.isOne] at hx)
  rw [qnm h1, hc]
  exact ⟨⟨v, [], rfl, h, rfl⟩, by simp [h1]⟩
 ·simp only [vr] at h
  obtain ⟨us, h1, h2, rfl⟩ := h
  exact ⟨by simpa [AV.cells, Value.cells] using h1, by simpa [Value.cells] using h2⟩
end Go.Aw
namespace Go.Aw
open Go
set_option linter.all false
variable [Glob]
inductive Slot where
 | unused
 | row (esz : Nat) (cells : List AV)
 | mapo (es : List (AV × AV))
 deriving Inhabited
abbrev Tab := Nat -> Slot
def Tab.nil : Tab := fun _ => .unused
def Tab.put (T : Tab) (id : Nat) (s : Slot) : Tab := fun j => if j = id then s else T j
theorem Tab.put_same (T : Tab) (id : Nat) (s : Slot) : T.put id s id = s := by simp [Tab.put]
theorem Tab.put_ne (T : Tab) {id j : Nat} (s : Slot) (h : j ≠ id) : T.put id s j = T j := by simp [Tab.put, h]
def q10 {α : Type} : List (Nat × α) -> Nat -> Option α
 | [], _ => none
 | (j, x) :: r, k => if j = k then some x else q10 r k
def q96 {α : Type} (l : List (Nat × α)) (k : Nat) (x : α) : List (Nat × α) := (k, x) :: l
theorem q1m {α : Type} (k : Nat) (x : α) (j : Nat) (l : List (Nat × α)) : q10 (q96 l k x) j = if k = j then some x else q10 l j := rfl
abbrev Env := List (Nat × AV)
abbrev Loc := List (Nat × List AV)
def evr (X : Cx) (lam : Nat -> Nat) (w : World) : AV -> Value -> Prop
 | .lp l o, v => v = .pointer (some ⟨lam l, o, none⟩)
 | x, v => vr X w x v
theorem V5 {X : Cx} {lam : Nat -> Nat} {w : World} {x : AV} {v : Value} (h : vr X w x v) : evr X lam w x v := by
 cases x <;> first | exact h | (simp [vr] at h)
def AV.isLp : AV -> Bool
 | .lp _ _ => true
 | _ => false
theorem qwr {X : Cx} {lam : Nat -> Nat} {w : World} {x : AV} {v : Value} (h : evr X lam w x v) (hx : x.isLp = false) : vr X w x v := by
 cases x <;> first | exact h | (simp [AV.isLp] at hx)
def RowAt (X : Cx) (w : World) (id esz : Nat) (cells : List AV) : Prop :=
 ∃ cur e us, w.heap[(X.β id).blk]? = some (.cells cur e (0, 0)) /\ vrs X w cells us /\ (∀ u ∈ us, u.oneCell' = true) /\
  (∀ (j : Nat) u, us[j]? = some u -> cur[(X.β id).base + j]? = some u) /\ (X.β id).base + cells.length <= (X.β id).lim /\ (X.β id).lim <= cur.size /\ (X.β id).esz = esz
def LocAt (X : Cx) (w : World) (b : Nat) (cells : List AV) : Prop :=
 ∃ e us, w.heap[b]? = some (.cells us.toArray e (0, 0)) /\ vrs X w cells us /\ (∀ u ∈ us, u.oneCell' = true)
def MapAt (X : Cx) (w : World) (id : Nat) (es : List (AV × AV)) : Prop :=
 ∃ ms clock, w.heap[(X.β id).blk]? = some (.map ms clock) /\ vrs X w (es.map (·.1)) (ms.toList.map (·.key)) /\ vrs X w (es.map (·.2)) (ms.toList.map (·.val))
def qfl (X : Cx) (T : Tab) (b : Nat) : Prop := ∃ id, T id ≠ .unused /\ (X.β id).blk = b
structure Rel (X : Cx) (T : Tab) (L : Loc) (lam : Nat -> Nat) (w : World) : Prop where
 fresh : ∀ id, X.N <= id -> T id = .unused
 fzlt : ∀ b, X.fz b -> b < w.heap.size
 row : ∀ id esz cells, T id = .row esz cells -> RowAt X w id esz cells
 map : ∀ id es, T id = .mapo es -> MapAt X w id es
 live_fz : ∀ id, T id ≠ .unused -> ¬ X.fz (X.β id).blk
 live_inj : ∀ id id', T id ≠ .unused -> T id' ≠ .unused -> (X.β id).blk = (X.β id').blk -> id = id'
 loc : ∀ l cells, q10 L l = some cells -> LocAt X w (lam l) cells
 loc_fz : ∀ l cells, q10 L l = some cells -> ¬ X.fz (lam l)
 loc_inj : ∀ l l' c c', q10 L l = some c -> q10 L l' = some c' -> lam l = lam l' -> l = l'
 loc_live : ∀ l cells, q10 L l = some cells -> ¬ qfl X T (lam l)
 glob : ∀ p ∈ Glob.gl, X.fz p.1 /\ w.cell? ⟨p.1, 0, none⟩ = some p.2
theorem q19 {X X' : Cx} {w w' : World} (hx : X.Le X') (hk : q5e X w w') (h : ∀ p ∈ Glob.gl, X.fz p.1 /\ w.cell? ⟨p.1, 0, none⟩ = some p.2) : ∀ p ∈ Glob.gl, X'.fz p.1 /\ w'.cell? ⟨p.1, 0, none⟩ = some p.2 :=
 fun p hp => ⟨hx.fz _ (h p hp).1, by rw [<- (h p hp).2]; exact World.cell?_of_block (hk _ (h p hp).1)⟩
theorem Rel.live_lt {X : Cx} {T : Tab} {L : Loc} {lam : Nat -> Nat} {w : World} (h : Rel X T L lam w) {b : Nat} (hb : qfl X T b) : b < w.heap.size := by
 obtain ⟨id, hid, rfl⟩ := hb
 cases ht : T id with
 | unused => exact absurd ht hid
 | row esz cells => obtain ⟨cur, e, us, hc, _⟩ := h.row id esz cells ht; exact (Array.getElem?_eq_some_iff.1 hc).1
 | mapo es => obtain ⟨ms, c, hc, _⟩ := h.map id es ht; exact (Array.getElem?_eq_some_iff.1 hc).1
theorem Rel.loc_lt {X : Cx} {T : Tab} {L : Loc} {lam : Nat -> Nat} {w : World} (h : Rel X T L lam w) {l : Nat} {cells : List AV} (hl : q10 L l = some cells) : lam l < w.heap.size := by
 obtain ⟨e, us, hc, _⟩ := h.loc l cells hl
 exact (Array.getElem?_eq_some_iff.1 hc).1
theorem Rel.id_lt {X : Cx} {T : Tab} {L : Loc} {lam : Nat -> Nat} {w : World} (h : Rel X T L lam w) {id : Nat} (hid : T id ≠ .unused) : id < X.N :=
 Nat.lt_of_not_le fun hl => hid (h.fresh id hl)
structure Step (X : Cx) (T : Tab) (w : World) (X' : Cx) (T' : Tab) (w' : World) : Prop where
 le : X.Le X'
 os : w'.os = w.os
 tape : w'.tape = w.tape
 output : w'.output = w.output
 size : w.heap.size <= w'.heap.size
 kept : ∀ b, b < w.heap.size -> ¬ qfl X T b -> w'.heap[b]? = w.heap[b]?
 fznew : ∀ b, b < w.heap.size -> X'.fz b -> X.fz b \/ qfl X T b
 livenew : ∀ b, b < w.heap.size -> qfl X' T' b -> qfl X T b
 idnew : ∀ id, id < X.N -> T id = .unused -> T' id = .unused
theorem Step.refl (X : Cx) (T : Tab) (w : World) : Step X T w X T w :=
 ⟨.refl X, rfl, rfl, rfl, Nat.le_refl _, fun _ _ _ => rfl, fun _ _ h => .inl h, fun _ _ h => h, fun _ _ h => h⟩
theorem Step.trans {X X1 X2 : Cx} {T T1 T2 : Tab} {w w1 w2 : World} (h : Step X T w X1 T1 w1) (k : Step X1 T1 w1 X2 T2 w2) : Step X T w X2 T2 w2 where
 le := h.le.trans k.le
 os := k.os.trans h.os
 tape := k.tape.trans h.tape
 output := k.output.trans h.output
 size := Nat.le_trans h.size k.size
 kept b hb hl := (k.kept b (Nat.lt_of_lt_of_le hb h.size) (fun hl1 => hl (h.livenew b hb hl1))).trans (h.kept b hb hl)
 fznew b hb hf := by
  rcases k.fznew b (Nat.lt_of_lt_of_le hb h.size) hf with h1 | h1
  ·exact h.fznew b hb h1
  ·exact .inr (h.livenew b hb h1)
 livenew b hb hl := h.livenew b hb (k.livenew b (Nat.lt_of_lt_of_le hb h.size) hl)
 idnew id hid hT := k.idnew id (Nat.lt_of_lt_of_le hid h.le.n) (h.idnew id hid hT)
theorem Step.fzKept {X X' : Cx} {T T' : Tab} {L : Loc} {lam : Nat -> Nat} {w w' : World} (h : Step X T w X' T' w') (hr : Rel X T L lam w) : q5e X w w' := by
 intro b hb
 refine h.kept b (hr.fzlt b hb) ?_
 rintro ⟨id, hid, rfl⟩
 exact hr.live_fz id hid hb
theorem RowAt.mono {X X' : Cx} {w w' : World} {id esz : Nat} {cells : List AV} (h : RowAt X w id esz cells) (hx : X.Le X') (hw : q5e X w w') (hid : id < X.N)
  (hb : w'.heap[(X.β id).blk]? = w.heap[(X.β id).blk]?) : RowAt X' w' id esz cells := by
 obtain ⟨cur, e, us, h1, h2, h3, h4, h5, h6, h7⟩ := h
 unfold RowAt
 rw [hx.β id hid]
 exact ⟨cur, e, us, by rw [hb]; exact h1, vrs.mono hx hw _ _ h2, h3, h4, h5, h6, h7⟩
theorem MapAt.mono {X X' : Cx} {w w' : World} {id : Nat} {es : List (AV × AV)} (h : MapAt X w id es) (hx : X.Le X') (hw : q5e X w w') (hid : id < X.N)
  (hb : w'.heap[(X.β id).blk]? = w.heap[(X.β id).blk]?) : MapAt X' w' id es := by
 obtain ⟨ms, clock, h1, h2, h3⟩ := h
 unfold MapAt
 rw [hx.β id hid]
 exact ⟨ms, clock, by rw [hb]; exact h1, vrs.mono hx hw _ _ h2, vrs.mono hx hw _ _ h3⟩
theorem LocAt.mono {X X' : Cx} {w w' : World} {b : Nat} {cells : List AV} (h : LocAt X w b cells) (hx : X.Le X') (hw : q5e X w w')
  (hb : w'.heap[b]? = w.heap[b]?) : LocAt X' w' b cells := by
 obtain ⟨e, us, h1, h2, h3⟩ := h
 exact ⟨e, us, by rw [hb]; exact h1, vrs.mono hx hw _ _ h2, h3⟩
theorem evr.mono {X X' : Cx} {lam lam' : Nat -> Nat} {w w' : World} {x : AV} {v : Value} (h : evr X lam w x v) (hx : X.Le X') (hw : q5e X w w')
  (hl : ∀ l o, x = .lp l o -> lam' l = lam l) : evr X' lam' w' x v := by
 cases x with
 | lp l o => simp only [evr] at h ⊢; rw [hl l o rfl]; exact h
 | _ => exact vr.mono hx hw _ _ h
structure SR (X0 : Cx) (T0 : Tab) (w0 : World) (X : Cx) (lam : Nat -> Nat) (env : Env) (L : Loc) (T : Tab) (a : Act) (w : World) : Prop where
 rel : Rel X T L lam w
 step : Step X0 T0 w0 X T w
 locnew : ∀ l cells, q10 L l = some cells -> w0.heap.size <= lam l
 env : ∀ s x, q10 env s = some x -> ∃ v, a.tmps[s]? = some v /\ evr X lam w x v
 defers : a.defers = []
theorem SR.put {X0 : Cx} {T0 : Tab} {w0 : World} {X : Cx} {lam : Nat -> Nat} {env : Env} {L : Loc} {T : Tab} {a : Act} {w : World}
  (h : SR X0 T0 w0 X lam env L T a w) {d : Nat} (hd : d < a.tmps.size) {x : AV} {v : Value} (hv : evr X lam w x v) :
  SR X0 T0 w0 X lam (q96 env d x) L T (a.put (some d) v) w := by
 refine ⟨h.rel, h.step, h.locnew, fun s y hs => ?_, h.defers⟩
 rw [q1m] at hs
 by_cases e : d = s
 ·subst e
  simp at hs
  subst hs
  exact ⟨v, by simp [Act.put, hd], hv⟩
 ·simp only [e, if_false] at hs
  obtain ⟨u, hu, hr⟩ := h.env s y hs
  exact ⟨u, by simp [Act.put, e, hu], hr⟩
theorem SR.weaken {X0 : Cx} {T0 : Tab} {w0 : World} {X : Cx} {lam : Nat -> Nat} {env env' : Env} {L L' : Loc} {T : Tab} {a : Act} {w : World}
  (h : SR X0 T0 w0 X lam env L T a w) (he : ∀ s x, q10 env' s = some x -> q10 env s = some x) (hl : ∀ l c, q10 L' l = some c -> q10 L l = some c) :
  SR X0 T0 w0 X lam env' L' T a w := by
 obtain ⟨r, s, ln, ev, df⟩ := h
 exact ⟨⟨r.fresh, r.fzlt, r.row, r.map, r.live_fz, r.live_inj, fun l c hc => r.loc l c (hl l c hc), fun l c hc => r.loc_fz l c (hl l c hc),
  fun l l' c c' h1 h2 => r.loc_inj l l' c c' (hl l c h1) (hl l' c' h2), fun l c hc => r.loc_live l c (hl l c hc), r.glob⟩, s, fun l c hc => ln l c (hl l c hc), fun t x hx => ev t x (he t x hx), df⟩
end Go.Aw
namespace Go.Aw
open Go
set_option linter.all false
variable [Glob]
section
variable {X0 : Cx} {T0 : Tab} {w0 : World} {X : Cx} {lam : Nat -> Nat} {env : Env} {L : Loc} {T : Tab} {a : Act} {w w' : World}
theorem SR.grow (h : SR X0 T0 w0 X lam env L T a w) (hg : w.grownBy w' none) : SR X0 T0 w0 X lam env L T a w' := by
 have hb : ∀ b, b < w.heap.size -> w'.heap[b]? = w.heap[b]? := fun b hb => hg.block b hb (by simp)
 have hk : q5e X w w' := fun b hf => hb b (h.rel.fzlt b hf)
 have hx := Cx.Le.refl X
 refine ⟨⟨h.rel.fresh, fun b hf => Nat.lt_of_lt_of_le (h.rel.fzlt b hf) hg.size, fun id esz cells hT => ?_, fun id es hT => ?_, h.rel.live_fz, h.rel.live_inj, fun l c hc => ?_, h.rel.loc_fz, h.rel.loc_inj, h.rel.loc_live, (by first | exact h.rel.glob | exact q19 hx hk h.rel.glob | exact q19 (Cx.Le.refl _) hk h.rel.glob)⟩,
  h.step.trans ⟨.refl X, hg.os, hg.tape, hg.output, hg.size, fun b hb' _ => hb b hb', fun _ _ hf => .inl hf, fun _ _ hl => hl, fun _ _ hT => hT⟩, h.locnew, fun s x hs => ?_, h.defers⟩
 ·exact (h.rel.row id esz cells hT).mono hx hk (h.rel.id_lt (by simp [hT])) (hb _ (h.rel.live_lt ⟨id, by simp [hT], rfl⟩))
 ·exact (h.rel.map id es hT).mono hx hk (h.rel.id_lt (by simp [hT])) (hb _ (h.rel.live_lt ⟨id, by simp [hT], rfl⟩))
 ·exact (h.rel.loc l c hc).mono hx hk (hb _ (h.rel.loc_lt hc))
 ·obtain ⟨v, hv, hr⟩ := h.env s x hs
  exact ⟨v, hv, hr.mono hx hk (fun _ _ _ => rfl)⟩
def Cx.addFz (X : Cx) (b : Nat) : Cx := { X with fz := fun c => X.fz c \/ c = b }
theorem Cx.le_addFz (X : Cx) (b : Nat) : X.Le (X.addFz b) := ⟨Nat.le_refl _, fun _ _ => rfl, fun _ h => .inl h⟩
def Cx.addRow (X : Cx) (k : Blk) : Cx := { X with β := fun id => if id = X.N then k else X.β id, N := X.N + 1 }
theorem Cx.le_addRow (X : Cx) (k : Blk) : X.Le (X.addRow k) :=
 ⟨Nat.le_succ _, fun id h => by simp [Cx.addRow, Nat.ne_of_lt h], fun _ h => h⟩
theorem SR.addFz (h : SR X0 T0 w0 X lam env L T a w) {b : Nat} (hb : b < w.heap.size) (h0 : w0.heap.size <= b) (hl : ¬ qfl X T b) (hloc : ∀ l c, q10 L l = some c -> lam l ≠ b) :
  SR X0 T0 w0 (X.addFz b) lam env L T a w := by
 have hk : q5e X w w := fun _ _ => rfl
 have hx := X.le_addFz b
 refine ⟨⟨h.rel.fresh, fun c hc => ?_, fun id esz cells hT => ?_, fun id es hT => ?_, fun id hid hf => ?_, h.rel.live_inj, fun l c hc => ?_, fun l c hc hf => ?_, h.rel.loc_inj, h.rel.loc_live, (by first | exact h.rel.glob | exact q19 hx hk h.rel.glob | exact q19 (Cx.Le.refl _) hk h.rel.glob)⟩,
  ⟨h.step.le.trans hx, h.step.os, h.step.tape, h.step.output, h.step.size, h.step.kept, fun c hc hf => ?_, h.step.livenew, h.step.idnew⟩, h.locnew, fun s x hs => ?_, h.defers⟩
 ·rcases hc with hc | rfl
  ·exact h.rel.fzlt c hc
  ·exact hb
 ·exact (h.rel.row id esz cells hT).mono hx hk (h.rel.id_lt (by simp [hT])) rfl
 ·exact (h.rel.map id es hT).mono hx hk (h.rel.id_lt (by simp [hT])) rfl
 ·rcases hf with hf | hf
  ·exact h.rel.live_fz id hid hf
  ·exact hl ⟨id, hid, hf⟩
 ·exact (h.rel.loc l c hc).mono hx hk rfl
 ·rcases hf with hf | hf
  ·exact h.rel.loc_fz l c hc hf
  ·exact hloc l c hc hf
 ·rcases hf with hf | rfl
  ·exact h.step.fznew c hc hf
  ·omega
 ·obtain ⟨v, hv, hr⟩ := h.env s x hs
  exact ⟨v, hv, hr.mono hx hk (fun _ _ _ => rfl)⟩
theorem qas {k : Blk} {s : Slot} {b : Nat} (hl : qfl (X.addRow k) (T.put X.N s) b) : qfl X T b \/ b = k.blk := by
 obtain ⟨id, hid, hb⟩ := hl
 by_cases e : id = X.N
 ·subst e; right; simpa [Cx.addRow] using hb.symm
 ·left
  rw [Tab.put_ne _ _ e] at hid
  exact ⟨id, hid, by simpa [Cx.addRow, e] using hb⟩
theorem SR.addRow (h : SR X0 T0 w0 X lam env L T a w) (k : Blk) {cells : List AV} (h0 : k.blk < w0.heap.size -> qfl X0 T0 k.blk) (hf : ¬ X.fz k.blk)
  (hl : ¬ qfl X T k.blk) (hloc : ∀ l c, q10 L l = some c -> lam l ≠ k.blk)
  (hrow : ∃ cur e us, w.heap[k.blk]? = some (.cells cur e (0, 0)) /\ vrs X w cells us /\ (∀ u ∈ us, u.oneCell' = true) /\
   (∀ (j : Nat) u, us[j]? = some u -> cur[k.base + j]? = some u) /\ k.base + cells.length <= k.lim /\ k.lim <= cur.size) :
  SR X0 T0 w0 (X.addRow k) lam env L (T.put X.N (.row k.esz cells)) a w := by
 have hk : q5e X w w := fun _ _ => rfl
 have hx := X.le_addRow k
 have hN : (X.addRow k).β X.N = k := by simp [Cx.addRow]
 have hold : ∀ id, T id ≠ .unused -> (X.addRow k).β id = X.β id := fun id hid => by simp [Cx.addRow, Nat.ne_of_lt (h.rel.id_lt hid)]
 refine ⟨⟨fun id hid => ?_, h.rel.fzlt, fun id esz cs hT => ?_, fun id es hT => ?_, fun id hid => ?_, fun id id' h1 h2 h3 => ?_, fun l c hc => ?_, h.rel.loc_fz, h.rel.loc_inj, fun l c hc hlv => ?_, (by first | exact h.rel.glob | exact q19 hx hk h.rel.glob | exact q19 (Cx.Le.refl _) hk h.rel.glob)⟩,
  ⟨h.step.le.trans hx, h.step.os, h.step.tape, h.step.output, h.step.size, h.step.kept, h.step.fznew, fun c hc hlv => ?_, fun id hid hT => ?_⟩, h.locnew, fun s x hs => ?_, h.defers⟩
 ·have : X.N + 1 <= id := hid
  rw [Tab.put_ne _ _ (by omega)]
  exact h.rel.fresh id (by omega)
 ·by_cases e : id = X.N
  ·subst e
   rw [Tab.put_same] at hT
   cases hT
   obtain ⟨cur, e, us, h1, h2, h3, h4, h5, h6⟩ := hrow
   unfold RowAt
   rw [hN]
   exact ⟨cur, e, us, h1, vrs.mono hx hk _ _ h2, h3, h4, h5, h6, rfl⟩
  ·rw [Tab.put_ne _ _ e] at hT
   exact (h.rel.row id esz cs hT).mono hx hk (h.rel.id_lt (by simp [hT])) rfl
 ·by_cases e : id = X.N
  ·subst e; rw [Tab.put_same] at hT; cases hT
  ·rw [Tab.put_ne _ _ e] at hT
   exact (h.rel.map id es hT).mono hx hk (h.rel.id_lt (by simp [hT])) rfl
 ·by_cases e : id = X.N
  ·subst e; rw [hN]; exact hf
  ·rw [Tab.put_ne _ _ e] at hid
   rw [hold id hid]; exact h.rel.live_fz id hid
 ·by_cases e : id = X.N <;> by_cases e' : id' = X.N
  ·omega
  ·subst e
   rw [Tab.put_ne _ _ e'] at h2
   rw [hN, hold id' h2] at h3
   exact absurd ⟨id', h2, h3.symm⟩ hl
  ·subst e'
   rw [Tab.put_ne _ _ e] at h1
   rw [hN, hold id h1] at h3
   exact absurd ⟨id, h1, h3⟩ hl
  ·rw [Tab.put_ne _ _ e] at h1
   rw [Tab.put_ne _ _ e'] at h2
   rw [hold id h1, hold id' h2] at h3
   exact h.rel.live_inj id id' h1 h2 h3
 ·exact (h.rel.loc l c hc).mono hx hk rfl
 ·rcases qas hlv with h1 | h1
  ·exact h.rel.loc_live l c hc h1
  ·exact hloc l c hc h1
 ·rcases qas hlv with h1 | h1
  ·exact h.step.livenew c hc h1
  ·subst h1; exact h0 hc
 ·have : X0.N <= X.N := h.step.le.n
  rw [Tab.put_ne _ _ (by omega)]
  exact h.step.idnew id hid hT
 ·obtain ⟨v, hv, hr⟩ := h.env s x hs
  exact ⟨v, hv, hr.mono hx hk (fun _ _ _ => rfl)⟩
theorem SR.delRow (h : SR X0 T0 w0 X lam env L T a w) (id : Nat) : SR X0 T0 w0 X lam env L (T.put id .unused) a w := by
 have hne : ∀ j, T.put id .unused j ≠ .unused -> j ≠ id /\ T j ≠ .unused := fun j hj => by
  by_cases e : j = id
  ·subst e; rw [Tab.put_same] at hj; exact absurd rfl hj
  ·rw [Tab.put_ne _ _ e] at hj; exact ⟨e, hj⟩
 have hlv : ∀ b, qfl X (T.put id .unused) b -> qfl X T b := fun b ⟨j, hj, hb⟩ => ⟨j, (hne j hj).2, hb⟩
 refine ⟨⟨fun j hj => ?_, h.rel.fzlt, fun j esz cs hT => ?_, fun j es hT => ?_, fun j hj => h.rel.live_fz j (hne j hj).2, fun j j' h1 h2 h3 => h.rel.live_inj j j' (hne j h1).2 (hne j' h2).2 h3, h.rel.loc, h.rel.loc_fz, h.rel.loc_inj, fun l c hc hl => h.rel.loc_live l c hc (hlv _ hl), (by first | exact h.rel.glob | exact q19 hx hk h.rel.glob | exact q19 (Cx.Le.refl _) hk h.rel.glob)⟩,
  ⟨h.step.le, h.step.os, h.step.tape, h.step.output, h.step.size, h.step.kept, h.step.fznew, fun c hc hl => h.step.livenew c hc (hlv c hl), fun j hj hT => ?_⟩, h.locnew, h.env, h.defers⟩
 ·by_cases e : j = id
  ·subst e; exact Tab.put_same _ _ _
  ·rw [Tab.put_ne _ _ e]; exact h.rel.fresh j hj
 ·have := hne j (by simp [hT])
  rw [Tab.put_ne _ _ this.1] at hT
  exact h.rel.row j esz cs hT
 ·have := hne j (by simp [hT])
  rw [Tab.put_ne _ _ this.1] at hT
  exact h.rel.map j es hT
 ·by_cases e : j = id
  ·subst e; exact Tab.put_same _ _ _
  ·rw [Tab.put_ne _ _ e]; exact h.step.idnew j hj hT
theorem SR.freeze (h : SR X0 T0 w0 X lam env L T a w) {id : Nat} (hid : T id ≠ .unused) : SR X0 T0 w0 (X.addFz (X.β id).blk) lam env L (T.put id .unused) a w := by
 have h1 := h.delRow id
 have hb := h.rel.live_lt ⟨id, hid, rfl⟩
 have hnl : ¬ qfl X (T.put id .unused) (X.β id).blk := by
  rintro ⟨j, hj, hjb⟩
  by_cases e : j = id
  ·subst e; rw [Tab.put_same] at hj; exact hj rfl
  ·rw [Tab.put_ne _ _ e] at hj
   exact e (h.rel.live_inj j id hj hid hjb)
 by_cases h0 : w0.heap.size <= (X.β id).blk
 ·exact h1.addFz hb h0 hnl (fun l c hc hl => h.rel.loc_live l c hc ⟨id, hid, hl.symm⟩)
 ·-- an elder row: it was live when the function began
  have hk : q5e X w w := fun _ _ => rfl
  have hx := X.le_addFz (X.β id).blk
  refine ⟨⟨h1.rel.fresh, fun c hc => ?_, fun j esz cells hT => ?_, fun j es hT => ?_, fun j hj hf => ?_, h1.rel.live_inj, fun l c hc => ?_, fun l c hc hf => ?_, h1.rel.loc_inj, h1.rel.loc_live, (by first | exact h1.rel.glob | exact q19 hx hk h1.rel.glob | exact q19 (Cx.Le.refl _) hk h1.rel.glob)⟩,
   ⟨h1.step.le.trans hx, h1.step.os, h1.step.tape, h1.step.output, h1.step.size, h1.step.kept, fun c hc hf => ?_, h1.step.livenew, h1.step.idnew⟩, h1.locnew, fun s x hs => ?_, h1.defers⟩
  ·rcases hc with hc | rfl
   ·exact h.rel.fzlt c hc
   ·exact hb
  ·exact (h1.rel.row j esz cells hT).mono hx hk (h1.rel.id_lt (by simp [hT])) rfl
  ·exact (h1.rel.map j es hT).mono hx hk (h1.rel.id_lt (by simp [hT])) rfl
  ·rcases hf with hf | hf
   ·exact h1.rel.live_fz j hj hf
   ·exact hnl ⟨j, hj, hf⟩
  ·exact (h1.rel.loc l c hc).mono hx hk rfl
  ·rcases hf with hf | hf
   ·exact h.rel.loc_fz l c hc hf
   ·exact h.rel.loc_live l c hc ⟨id, hid, hf.symm⟩
  ·rcases hf with hf | rfl
   ·exact h1.step.fznew c hc hf
   ·exact .inr (h.step.livenew _ hc ⟨id, hid, rfl⟩)
  ·obtain ⟨v, hv, hr⟩ := h1.env s x hs
   exact ⟨v, hv, hr.mono hx hk (fun _ _ _ => rfl)⟩
theorem Rel.fzKept_row (h : Rel X T L lam w) {id : Nat} (hid : T id ≠ .unused) (hg : w.grownBy w' (some (X.β id).blk)) : q5e X w w' := by
 intro b hf
 refine hg.block b (h.fzlt b hf) ?_
 intro e
 injection e with e
 subst e
 exact h.live_fz id hid hf
theorem SR.dirtyFz (h : SR X0 T0 w0 X lam env L T a w) {id : Nat} (hid : T id ≠ .unused) (hg : w.grownBy w' (some (X.β id).blk)) : SR X0 T0 w0 (X.addFz (X.β id).blk) lam env L (T.put id .unused) a w' := by
 have hk : q5e X w w' := h.rel.fzKept_row hid hg
 have hx := X.le_addFz (X.β id).blk
 have hne : ∀ j, T.put id .unused j ≠ .unused -> T j ≠ .unused /\ j ≠ id := fun j hj => by
  by_cases e : j = id
  ·subst e; rw [Tab.put_same] at hj; exact absurd rfl hj
  ·rw [Tab.put_ne _ _ e] at hj; exact ⟨hj, e⟩
 have hlv : ∀ b, qfl X (T.put id .unused) b -> qfl X T b := fun b ⟨j, hj, hb⟩ => ⟨j, (hne j hj).1, hb⟩
 have hlv' : ∀ b, qfl (X.addFz (X.β id).blk) (T.put id .unused) b -> qfl X T b := fun b ⟨j, hj, hb⟩ => ⟨j, (hne j hj).1, hb⟩
 have hblk : ∀ j, T j ≠ .unused -> j ≠ id -> w'.heap[(X.β j).blk]? = w.heap[(X.β j).blk]? := fun j hj hji => by
  refine hg.block _ (h.rel.live_lt ⟨j, hj, rfl⟩) ?_
  intro e
  injection e with e
  exact hji (h.rel.live_inj j id hj hid e)
 have hb : (X.β id).blk < w.heap.size := h.rel.live_lt ⟨id, hid, rfl⟩
 refine ⟨⟨fun j hj => ?_, fun c hc => ?_, fun j esz' cs hT => ?_, fun j es hT => ?_, fun j hj hf => ?_, fun j j' h1 h2 h3 => h.rel.live_inj j j' (hne j h1).1 (hne j' h2).1 h3, fun l c hc => ?_, fun l c hc hf => ?_, h.rel.loc_inj, fun l c hc hl => h.rel.loc_live l c hc (hlv' _ hl), (by first | exact h.rel.glob | exact q19 hx hk h.rel.glob | exact q19 (Cx.Le.refl _) hk h.rel.glob)⟩,
  ⟨h.step.le.trans hx, hg.os.trans h.step.os, hg.tape.trans h.step.tape, hg.output.trans h.step.output, Nat.le_trans h.step.size hg.size, fun b hb hl => ?_, fun c hc hf => ?_, fun b hb hl => h.step.livenew b hb (hlv' b hl), fun j hj hT => ?_⟩, h.locnew, fun s x hs => ?_, h.defers⟩
 ·have := h.rel.id_lt hid
  have hj' : X.N <= j := hj
  rw [Tab.put_ne _ _ (by omega)]; exact h.rel.fresh j hj
 ·rcases hc with hc | rfl
  ·exact Nat.lt_of_lt_of_le (h.rel.fzlt c hc) hg.size
  ·exact Nat.lt_of_lt_of_le hb hg.size
 ·obtain ⟨h1, h2⟩ := hne j (by rw [hT]; simp)
  rw [Tab.put_ne _ _ h2] at hT
  exact (h.rel.row j esz' cs hT).mono hx hk (h.rel.id_lt h1) (hblk j h1 h2)
 ·obtain ⟨h1, h2⟩ := hne j (by rw [hT]; simp)
  rw [Tab.put_ne _ _ h2] at hT
  exact (h.rel.map j es hT).mono hx hk (h.rel.id_lt h1) (hblk j h1 h2)
 ·obtain ⟨h1, h2⟩ := hne j hj
  rcases hf with hf | hf
  ·exact h.rel.live_fz j h1 hf
  ·exact h2 (h.rel.live_inj j id h1 hid hf)
 ·refine (h.rel.loc l c hc).mono hx hk (hg.block _ (h.rel.loc_lt hc) ?_)
  intro e
  injection e with e
  exact h.rel.loc_live l c hc ⟨id, hid, e.symm⟩
 ·rcases hf with hf | hf
  ·exact h.rel.loc_fz l c hc hf
  ·exact h.rel.loc_live l c hc ⟨id, hid, hf.symm⟩
 ·have h1 : ¬ qfl X T b := fun hl' => hl (h.step.livenew b hb hl')
  rw [hg.block b (Nat.lt_of_lt_of_le hb h.step.size) (fun e => by injection e with e; exact h1 ⟨id, hid, e.symm⟩)]
  exact h.step.kept b hb hl
 ·rcases hf with hf | rfl
  ·exact h.step.fznew c hc hf
  ·exact .inr (h.step.livenew _ hc ⟨id, hid, rfl⟩)
 ·by_cases e : j = id
  ·subst e; exact Tab.put_same ..
  ·rw [Tab.put_ne _ _ e]; exact h.step.idnew j hj hT
 ·obtain ⟨v, hv, hr⟩ := h.env s x hs
  exact ⟨v, hv, hr.mono hx hk (fun _ _ _ => rfl)⟩
theorem SR.setRow (h : SR X0 T0 w0 X lam env L T a w) {id : Nat} (hid : T id ≠ .unused) (hg : w.grownBy w' (some (X.β id).blk)) {esz : Nat} {cells : List AV}
  (hrow : RowAt X w' id esz cells) : SR X0 T0 w0 X lam env L (T.put id (.row esz cells)) a w' := by
 have hx := Cx.Le.refl X
 have hk := h.rel.fzKept_row hid hg
 have hne : ∀ j, T.put id (.row esz cells) j ≠ .unused -> T j ≠ .unused := fun j hj => by
  by_cases e : j = id
  ·subst e; exact hid
  ·rw [Tab.put_ne _ _ e] at hj; exact hj
 have hlv : ∀ b, qfl X (T.put id (.row esz cells)) b -> qfl X T b := fun b ⟨j, hj, hb⟩ => ⟨j, hne j hj, hb⟩
 have hblk : ∀ j, T j ≠ .unused -> j ≠ id -> w'.heap[(X.β j).blk]? = w.heap[(X.β j).blk]? := fun j hj hji => by
  refine hg.block _ (h.rel.live_lt ⟨j, hj, rfl⟩) ?_
  intro e
  injection e with e
  exact hji (h.rel.live_inj j id hj hid e)
 refine ⟨⟨fun j hj => ?_, fun b hf => Nat.lt_of_lt_of_le (h.rel.fzlt b hf) hg.size, fun j esz' cs hT => ?_, fun j es hT => ?_, fun j hj => h.rel.live_fz j (hne j hj), fun j j' h1 h2 h3 => h.rel.live_inj j j' (hne j h1) (hne j' h2) h3, fun l c hc => ?_, h.rel.loc_fz, h.rel.loc_inj, fun l c hc hl => h.rel.loc_live l c hc (hlv _ hl), (by first | exact h.rel.glob | exact q19 hx hk h.rel.glob | exact q19 (Cx.Le.refl _) hk h.rel.glob)⟩,
  h.step.trans ⟨hx, hg.os, hg.tape, hg.output, hg.size, fun b hb hl => ?_, fun _ _ hf => .inl hf, fun b _ hl => hlv b hl, fun j hj hT => ?_⟩, h.locnew, fun s x hs => ?_, h.defers⟩
 ·have := h.rel.id_lt hid
  rw [Tab.put_ne _ _ (by omega)]; exact h.rel.fresh j hj
 ·by_cases e : j = id
  ·subst e; rw [Tab.put_same] at hT; cases hT; exact hrow
  ·rw [Tab.put_ne _ _ e] at hT
   exact (h.rel.row j esz' cs hT).mono hx hk (h.rel.id_lt (by simp [hT])) (hblk j (by simp [hT]) e)
 ·by_cases e : j = id
  ·subst e; rw [Tab.put_same] at hT; cases hT
  ·rw [Tab.put_ne _ _ e] at hT
   exact (h.rel.map j es hT).mono hx hk (h.rel.id_lt (by simp [hT])) (hblk j (by simp [hT]) e)
 ·refine (h.rel.loc l c hc).mono hx hk (hg.block _ (h.rel.loc_lt hc) ?_)
  intro e
  injection e with e
  exact h.rel.loc_live l c hc ⟨id, hid, e.symm⟩
 ·exact hg.block b hb (fun e => by injection e with e; exact hl ⟨id, hid, e.symm⟩)
 ·by_cases e : j = id
  ·subst e; exact absurd hT hid
  ·rw [Tab.put_ne _ _ e]; exact hT
 ·obtain ⟨v, hv, hr⟩ := h.env s x hs
  exact ⟨v, hv, hr.mono hx hk (fun _ _ _ => rfl)⟩
theorem SR.setLoc (h : SR X0 T0 w0 X lam env L T a w) {l : Nat} {c0 : List AV} (hl : q10 L l = some c0) (hg : w.grownBy w' (some (lam l))) {cells : List AV}
  (hloc : LocAt X w' (lam l) cells) : SR X0 T0 w0 X lam env (q96 L l cells) T a w' := by
 have hx := Cx.Le.refl X
 have hk : q5e X w w' := fun b hf => hg.block b (h.rel.fzlt b hf) (fun e => by injection e with e; subst e; exact h.rel.loc_fz l c0 hl hf)
 have hne : ∀ j c, q10 (q96 L l cells) j = some c -> ∃ c', q10 L j = some c' := fun j c hj => by
  rw [q1m] at hj
  by_cases e : l = j
  ·subst e; exact ⟨c0, hl⟩
  ·simp only [e, if_false] at hj; exact ⟨c, hj⟩
 have hblk : ∀ j, T j ≠ .unused -> w'.heap[(X.β j).blk]? = w.heap[(X.β j).blk]? := fun j hj =>
  hg.block _ (h.rel.live_lt ⟨j, hj, rfl⟩) (fun e => by injection e with e; exact h.rel.loc_live l c0 hl ⟨j, hj, e⟩)
 refine ⟨⟨h.rel.fresh, fun b hf => Nat.lt_of_lt_of_le (h.rel.fzlt b hf) hg.size, fun j esz' cs hT => ?_, fun j es hT => ?_, h.rel.live_fz, h.rel.live_inj, fun j c hc => ?_, fun j c hc => ?_, fun j j' c c' h1 h2 h3 => ?_, fun j c hc => ?_, (by first | exact h.rel.glob | exact q19 hx hk h.rel.glob | exact q19 (Cx.Le.refl _) hk h.rel.glob)⟩,
  ⟨h.step.le, hg.os.trans h.step.os, hg.tape.trans h.step.tape, hg.output.trans h.step.output, Nat.le_trans h.step.size hg.size, fun b hb hl' => ?_, h.step.fznew, h.step.livenew, h.step.idnew⟩, fun j c hc => ?_, fun s x hs => ?_, h.defers⟩
 ·exact (h.rel.row j esz' cs hT).mono hx hk (h.rel.id_lt (by simp [hT])) (hblk j (by simp [hT]))
 ·exact (h.rel.map j es hT).mono hx hk (h.rel.id_lt (by simp [hT])) (hblk j (by simp [hT]))
 ·rw [q1m] at hc
  by_cases e : l = j
  ·subst e; simp at hc; subst hc; exact hloc
  ·simp only [e, if_false] at hc
   exact (h.rel.loc j c hc).mono hx hk (hg.block _ (h.rel.loc_lt hc) (fun e' => by injection e' with e'; exact e (h.rel.loc_inj _ _ _ _ hl hc e'.symm)))
 ·obtain ⟨c', hc'⟩ := hne j c hc; exact h.rel.loc_fz j c' hc'
 ·obtain ⟨d, hd⟩ := hne j c h1; obtain ⟨d', hd'⟩ := hne j' c' h2; exact h.rel.loc_inj j j' d d' hd hd' h3
 ·obtain ⟨c', hc'⟩ := hne j c hc; exact h.rel.loc_live j c' hc'
 ·rw [hg.block b (Nat.lt_of_lt_of_le hb h.step.size) (fun e => by injection e with e; have := h.locnew l c0 hl; omega)]
  exact h.step.kept b hb hl'
 ·obtain ⟨c', hc'⟩ := hne j c hc; exact h.locnew j c' hc'
 ·obtain ⟨v, hv, hr⟩ := h.env s x hs
  exact ⟨v, hv, hr.mono hx hk (fun _ _ _ => rfl)⟩
def AV.offLp (k : Nat) : AV -> AV
 | .lp l o => if l = k then .any else .lp l o
 | x => x
def q1u : Env -> Nat -> Env
 | [], _ => []
 | (s, x) :: r, k => (s, x.offLp k) :: q1u r k
theorem q4j (k s : Nat) : ∀ env : Env, q10 (q1u env k) s = (q10 env s).map (AV.offLp k)
 | [] => rfl
 | (t, x) :: r => by
  have ih := q4j k s r
  simp only [q1u, q10]
  split <;> simp_all
theorem SR.newLoc (h : SR X0 T0 w0 X lam env L T a w) (l : Nat) (hg : w.grownBy w' none) {b : Nat} (hb : w.heap.size <= b) {cells : List AV}
  (hloc : LocAt X w' b cells) : SR X0 T0 w0 X (fun j => if j = l then b else lam j) (q1u env l) (q96 L l cells) T a w' := by
 have h1 := h.grow hg
 have hsz := h.step.size
 have hold : ∀ j c, q10 (q96 L l cells) j = some c -> (j = l /\ c = cells) \/ (j ≠ l /\ q10 L j = some c) := fun j c hj => by
  rw [q1m] at hj
  by_cases e : l = j
  ·subst e; simp at hj; exact .inl ⟨rfl, hj.symm⟩
  ·simp only [e, if_false] at hj; exact .inr ⟨fun e' => e e'.symm, hj⟩
 refine ⟨⟨h1.rel.fresh, h1.rel.fzlt, h1.rel.row, h1.rel.map, h1.rel.live_fz, h1.rel.live_inj, fun j c hc => ?_, fun j c hc => ?_, fun j j' c c' h2 h3 h4 => ?_, fun j c hc => ?_, (by first | exact h1.rel.glob | exact q19 hx hk h1.rel.glob | exact q19 (Cx.Le.refl _) hk h1.rel.glob)⟩, h1.step, fun j c hc => ?_, fun s x hs => ?_, h1.defers⟩
 ·rcases hold j c hc with ⟨rfl, rfl⟩ | ⟨hj, hc⟩
  ·simpa using hloc
  ·simp only [hj, if_false]; exact h1.rel.loc j c hc
 ·rcases hold j c hc with ⟨rfl, rfl⟩ | ⟨hj, hc⟩
  ·simp only [if_true]; intro hf; have := h.rel.fzlt b hf; omega
  ·simp only [hj, if_false]; exact h1.rel.loc_fz j c hc
 ·rcases hold j c h2 with ⟨rfl, rfl⟩ | ⟨hj, hc⟩ <;> rcases hold j' c' h3 with ⟨rfl, rfl⟩ | ⟨hj', hc'⟩
  ·rfl
  ·simp only [hj', if_true, if_false] at h4; have := h.rel.loc_lt hc'; omega
  ·simp only [hj, if_true, if_false] at h4; have := h.rel.loc_lt hc; omega
  ·simp only [hj, hj', if_false] at h4; exact h1.rel.loc_inj j j' c c' hc hc' h4
 ·rcases hold j c hc with ⟨rfl, rfl⟩ | ⟨hj, hc⟩
  ·simp only [if_true]; intro hl; have := h.rel.live_lt hl; omega
  ·simp only [hj, if_false]; exact h1.rel.loc_live j c hc
 ·rcases hold j c hc with ⟨rfl, rfl⟩ | ⟨hj, hc⟩
  ·simp only [if_true]; omega
  ·simp only [hj, if_false]; exact h1.locnew j c hc
 ·rw [q4j] at hs
  cases hx : q10 env s with
  | none => simp [hx] at hs
  | some y =>
   simp [hx] at hs
   subst hs
   obtain ⟨v, hv, hr⟩ := h1.env s y hx
   refine ⟨v, hv, ?_⟩
   cases y with
   | lp l' o =>
    simp only [AV.offLp]
    split
    ·simp [evr, vr]
    ·rename_i hne
     simp only [evr, hne, if_false] at hr ⊢
     exact hr
   | _ => exact hr
theorem SR.call (h : SR X0 T0 w0 X lam env L T a w) {X' : Cx} {T' : Tab} {lam' : Nat -> Nat} (hs : Step X T w X' T' w') (hr : Rel X' T' [] lam' w') :
  SR X0 T0 w0 X' lam env L T' a w' := by
 have hk := hs.fzKept h.rel
 have hlt : ∀ l c, q10 L l = some c -> lam l < w.heap.size /\ ¬ qfl X T (lam l) := fun l c hc => ⟨h.rel.loc_lt hc, h.rel.loc_live l c hc⟩
 refine ⟨⟨hr.fresh, hr.fzlt, hr.row, hr.map, hr.live_fz, hr.live_inj, fun l c hc => ?_, fun l c hc hf => ?_, h.rel.loc_inj, fun l c hc hl => ?_, hr.glob⟩, h.step.trans hs, h.locnew, fun s x hx => ?_, h.defers⟩
 ·exact (h.rel.loc l c hc).mono hs.le hk (hs.kept _ (hlt l c hc).1 (hlt l c hc).2)
 ·rcases hs.fznew _ (hlt l c hc).1 hf with h1 | h1
  ·exact h.rel.loc_fz l c hc h1
  ·exact (hlt l c hc).2 h1
 ·exact (hlt l c hc).2 (hs.livenew _ (hlt l c hc).1 hl)
 ·obtain ⟨v, hv, hr⟩ := h.env s x hx
  exact ⟨v, hv, hr.mono hs.le hk (fun _ _ _ => rfl)⟩
end
end Go.Aw
namespace Go.Aw
open Go
set_option linter.all false
variable [Glob]
def cav : Value -> Option AV
 | .bool x => some (.b x)
 | .int k n => some (.i k n)
 | .string s => some (.s s.data.toList)
 | .pointer none => some .nilptr
 | .slice none 0 0 => some (.fz 0 [] (some 0))
 | .map none => some .nilmap
 | .nilFunc => some .nilfn
 | .nilIface => some .nilifc
 | _ => none
theorem qjq {X : Cx} {w : World} {v : Value} {x : AV} (h : cav v = some x) : vr X w x v /\ x.isOne = true := by
 unfold cav at h
 split at h <;> first
  | (cases h; done)
  | (injection h with h; subst h; refine ⟨?_, rfl⟩; simp only [vr]; done)
  | (injection h with h; subst h; refine ⟨?_, rfl⟩; simp only [vr, vrs])
 exact ⟨[], rfl, .inl ⟨rfl, rfl, rfl, fun k hk => by injection hk⟩⟩
def opd (env : Env) : Operand -> Option AV
 | .tmp t => q10 env t
 | .const v => cav v
 | .global g => some (.raw (.pointer (some ⟨g, 0, none⟩)))
 | .func f => some (.fn (.func f) [] [])
theorem qp8 {X0 : Cx} {T0 : Tab} {w0 : World} {X : Cx} {lam : Nat -> Nat} {env : Env} {L : Loc} {T : Tab} {a : Act} {w : World}
  (h : SR X0 T0 w0 X lam env L T a w) {o : Operand} {x : AV} (ho : opd env o = some x) : evr X lam w x (a.eval o) := by
 cases o with
 | tmp t =>
  obtain ⟨v, hv, hr⟩ := h.env t x ho
  simp only [Act.eval, Array.getD_eq_getD_getElem?, hv, Option.getD_some]
  exact hr
 | const v => exact V5 (qjq ho).1
 | global g => injection ho with ho; subst ho; exact ⟨rfl, rfl⟩
 | func f => injection ho with ho; subst ho; exact ⟨[], [], rfl, rfl, rfl⟩
inductive SK where
 | b | i | s
 deriving DecidableEq, Repr, Inhabited
inductive EqK where
 | bool | ptr | ifc
 | agg (ks : List SK)
 deriving DecidableEq, Repr, Inhabited
def U0 : SK -> AV -> AV -> Option Bool
 | .b, .b x, .b y => some (decide (x = y))
 | .i, .i k n, .i k' m => if k = k' then some (decide (n = m)) else none
 | .s, .s l, .s m => some (decide (l = m))
 | _, _, _ => none
def q05 : List SK -> List AV -> List AV -> Option Bool
 | [], [], [] => some true
 | k :: ks, x :: l, y :: m => match U0 k x y, q05 ks l m with
  | some p, some q => some (p && q)
  | _, _ => none
 | _, _, _ => none
def qm1 : EqK -> AV -> AV -> Option Bool
 | .bool, .b x, .b y => some (decide (x = y))
 | .ptr, .nilptr, .nilptr => some true
 | .ptr, .nilptr, .ptr _ _ | .ptr, .nilptr, .fptr _ | .ptr, .ptr _ _, .nilptr | .ptr, .fptr _, .nilptr => some false
 | .ifc, .nilifc, .nilifc => some true
 | .ifc, .nilifc, .ifc _ _ | .ifc, .ifc _ _, .nilifc => some false
 | .agg ks, .agg l, .agg m => q05 ks l m
 | _, _, _ => none
def qp9 (op : BinOp) (k : IntKind) (a b : Int) : Option AV :=
 match op with
 | .add => some (.i k (k.wrap (a + b)))
 | .sub => some (.i k (k.wrap (a - b)))
 | .mul => some (.i k (k.wrap (a * b)))
 | .quo => if b = 0 then none else some (.i k (k.wrap (a.tdiv b)))
 | .rem => if b = 0 then none else some (.i k (a.tmod b))
 | .and => some (.i k (k.wrap (BitVec.ofInt k.bits a &&& BitVec.ofInt k.bits b).toNat))
 | .or => some (.i k (k.wrap (BitVec.ofInt k.bits a ||| BitVec.ofInt k.bits b).toNat))
 | .xor => some (.i k (k.wrap (BitVec.ofInt k.bits a ^^^ BitVec.ofInt k.bits b).toNat))
 | .andNot => some (.i k (k.wrap (BitVec.ofInt k.bits a &&& ~~~ BitVec.ofInt k.bits b).toNat))
 | .eql => some (.b (decide (a = b)))
 | .neq => some (.b (!decide (a = b)))
 | .lss => some (.b (decide (a < b)))
 | .leq => some (.b (decide (a <= b)))
 | .gtr => some (.b (decide (b < a)))
 | .geq => some (.b (decide (b <= a)))
 | _ => none
def qdb (op : BinOp) (k : IntKind) (a y : Int) : Option AV :=
 if y < 0 then none else
 match op with
 | .shl => some (.i k (k.wrap (a * 2 ^ (min y.toNat k.bits))))
 | .shr => some (.i k (a.fdiv (2 ^ (min y.toNat k.bits))))
 | _ => none
def qpa (op : BinOp) (a b : List UInt8) : Option AV :=
 match op with
 | .add => if a.length + b.length <= 9223372036854775807 then some (.s (a ++ b)) else none
 | .eql => some (.b (decide (a = b)))
 | .neq => some (.b (!decide (a = b)))
 | _ => none
def qrd (op : BinOp) : AV -> AV -> Option AV
 | .i k a, .i k' b => match op with
  | .shl | .shr => qdb op k a b
  | _ => if k = k' then qp9 op k a b else none
 | .s a, .s b => qpa op a b
 | _, _ => none
def z71 : UnOp -> AV -> Option AV
 | .not, .b x => some (.b (!x))
 | .neg, .i k n => some (.i k (k.wrap (0 - n)))
 | .xor, .i k n => some (.i k (k.wrap (BitVec.ofInt k.bits (if k.signed then -1 else k.max) ^^^ BitVec.ofInt k.bits n).toNat))
 | _, _ => none
def qm2 : AV -> Value
 | .i k n => .int k n
 | .b x => .bool x
 | .s l => .string ⟨l.toArray⟩
 | _ => undef
section
variable {P : Program} {X : Cx} {lam : Nat -> Nat} {w : World}
theorem qre (op : BinOp) (t : TypeId) (e1 e2 : Operand) (k k' : IntKind) (a b : Int) : (eqGuard op t e1 e2 (.int k a) (.int k' b)).run P w = .ok () w := by
 unfold eqGuard; split <;> rfl
theorem qrf (op : BinOp) (t : TypeId) (e1 e2 : Operand) (a b : ByteArray) : (eqGuard op t e1 e2 (.string a) (.string b)).run P w = .ok () w := by
 unfold eqGuard; split <;> rfl
theorem qpb (op : BinOp) (t : TypeId) (k : IntKind) (a b : Int) {r : AV} (h : qp9 op k a b = some r) :
  (binOp op t (.int k a) (.int k b)).run P w = .ok (qm2 r) w /\ vr X w r (qm2 r) := by
 cases op <;> simp only [qp9] at h <;> first
  | (cases h; done)
  | (injection h with h; subst h
     refine ⟨?_, by simp only [vr, qm2]⟩
     simp [binOp, Op.intArith, Op.intBits, Op.intCmp, qm2, bne, BEq.beq]; done)
  | (split at h
     ·cases h
     ·rename_i hb
      injection h with h; subst h
      refine ⟨?_, by simp only [vr, qm2]⟩
      simp [binOp, Op.intDiv, hb, qm2])
theorem qe7 (op : BinOp) (t : TypeId) (k k' : IntKind) (a b : Int) {r : AV} (h : qdb op k a b = some r) :
  (binOp op t (.int k a) (.int k' b)).run P w = .ok (qm2 r) w /\ vr X w r (qm2 r) := by
 unfold qdb at h
 split at h
 ·cases h
 ·rename_i hb
  cases op <;> simp only at h <;> first
   | (cases h; done)
   | (injection h with h; subst h
      refine ⟨?_, by simp only [vr, qm2]⟩
      simp [binOp, Op.shift, hb, qm2])
theorem qhr (l : List UInt8) : (⟨l.toArray⟩ : ByteArray).toList = l := by
 rw [Lib.toList_data]
theorem zei (a b : List UInt8) : (a == b) = decide (a = b) := by
 rw [Bool.eq_iff_iff]; simp
theorem qpc (op : BinOp) (t : TypeId) (a b : List UInt8) {r : AV} (h : qpa op a b = some r) :
  (binOp op t (.string ⟨a.toArray⟩) (.string ⟨b.toArray⟩)).run P w = .ok (qm2 r) w /\ vr X w r (qm2 r) := by
 cases op <;> simp only [qpa] at h <;> first
  | (cases h; done)
  | (injection h with h; subst h
     refine ⟨?_, by simp only [vr, qm2]⟩
     simp [binOp, Op.stringOp, qm2, zei]; done)
  | (split at h
     ·rename_i hb
      injection h with h; subst h
      refine ⟨?_, by simp only [vr, qm2]⟩
      have hm : IntKind.i64.max = 9223372036854775807 := by decide
      have : ¬ (((a.length + b.length : Nat) : Int) > IntKind.i64.max) := by rw [hm]; omega
      have hab : (⟨a.toArray⟩ ++ ⟨b.toArray⟩ : ByteArray) = ⟨(a ++ b).toArray⟩ := by
       apply ByteArray.ext
       rw [ByteArray.data_append]
       simp
      simp only [binOp, Op.stringOp, ByteArray.size, List.size_toArray, this, if_false, hab, qm2, Sem.run_pure]
     ·cases h)
theorem qws (op : BinOp) (t : TypeId) {x y r : AV} {u v : Value} (hx : vr X w x u) (hy : vr X w y v) (h : qrd op x y = some r) (e1 e2 : Operand) :
  ((do eqGuard op t e1 e2 u v; binOp op t u v) : Sem Value).run P w = .ok (qm2 r) w /\ vr X w r (qm2 r) := by
 cases x <;> cases y <;> first
  | (simp [qrd] at h; done)
  | skip
 ·rename_i k a k' b
  simp only [vr] at hx hy
  subst hx; subst hy
  simp only [Sem.run_bind, qre, Result.andThen_ok]
  simp only [qrd] at h
  split at h
  ·exact qe7 _ t k k' a b h
  ·exact qe7 _ t k k' a b h
  ·split at h
   ·rename_i hk; subst hk; exact qpb op t k a b h
   ·cases h
 ·rename_i a b
  simp only [vr] at hx hy
  subst hx; subst hy
  simp only [Sem.run_bind, qrf, Result.andThen_ok]
  exact qpc op t a b h
theorem z0w (op : UnOp) {x r : AV} {u : Value} (hx : vr X w x u) (h : z71 op x = some r) : (Op.unary op u).run P w = .ok (qm2 r) w /\ vr X w r (qm2 r) := by
 cases op <;> cases x <;> simp only [z71] at h <;> first
  | (cases h; done)
  | (injection h with h; subst h
     simp only [vr] at hx
     subst hx
     refine ⟨?_, by simp only [vr, qm2]⟩
     simp [Op.unary, Op.intArith, Op.intBits, qm2])
end
end Go.Aw
namespace Go.Aw
open Go
set_option linter.all false
variable [Glob]
def qjr (off : Nat) : AV -> Option AV
 | .lp l o => some (.lp l (o + off))
 | .ptr id o => some (.ptr id (o + off))
 | .fptr cells => some (.fptr (cells.drop off))
 | _ => none
def qjs (esz : Nat) (alen : Option Nat) (i : AV) : AV -> Option AV
 | .fz n cells _ => match alen, i with
  | none, .i _ j => if 0 <= j /\ j < n then some (.fptr (cells.drop (j.toNat * esz))) else none
  | _, _ => none
 | .sl id o n _ => match alen, i with
  | none, .i _ j => if 0 <= j /\ j < n then some (.ptr id (o + j.toNat * esz)) else none
  | _, _ => none
 | .lp l o => match alen, i with
  | some m, .i _ j => if 0 <= j /\ j < m then some (.lp l (o + j.toNat * esz)) else none
  | _, _ => none
 | .ptr id o => match alen, i with
  | some m, .i _ j => if 0 <= j /\ j < m then some (.ptr id (o + j.toNat * esz)) else none
  | _, _ => none
 | .fptr cells => match alen, i with
  | some m, .i _ j => if 0 <= j /\ j < m then some (.fptr (cells.drop (j.toNat * esz))) else none
  | _, _ => none
 | _ => none
def AV.plain : AV -> Bool
 | .lp _ _ | .any => false
 | _ => true
def qms : Option AV -> Option AV
 | some x => if x.plain then some x else none
 | none => none
theorem q60 {x : Option AV} {y : AV} (h : qms x = some y) : x = some y /\ y.plain = true := by
 cases x with
 | none => simp [qms] at h
 | some z =>
  simp only [qms] at h
  split at h
  ·injection h with h; subst h; exact ⟨rfl, by assumption⟩
  ·cases h
def q4k (sz : Option Nat) (cells : List AV) (o : Nat) : Option AV :=
 match sz with
 | none => qms cells[o]?
 | some k => if o + k <= cells.length /\ 0 < k then some (.agg ((cells.drop o).take k)) else none
def z72 (sz : Option Nat) (T : Tab) : AV -> Option AV
 | .ptr id o => match T id with
  | .row _ cells => q4k sz cells o
  | _ => none
 | .fptr cells => q4k sz cells 0
 | _ => none
def qrg (l : Nat) (sz : Option Nat) (L : Loc) : AV -> Option AV
 | .lp l' o => if l' = l then match q10 L l with
   | some cells => q4k sz cells o
   | none => none
  else none
 | _ => none
def bnd (d : Nat) : Option AV -> Option Nat
 | none => some d
 | some (.i _ j) => if 0 <= j then some j.toNat else none
 | _ => none
def z4a (cap : Option Nat) (o z len h : Nat) : Bool :=
 match cap with
 | some c => decide (h <= c)
 | none => decide (0 < z) && decide (o + h * z <= len)
def qrh (esz : Nat) (T : Tab) (lo hi mx : Option AV) : AV -> Option AV
 | .fz n cells cap =>
  match bnd 0 lo, bnd n hi, mx with
  | some l, some h, none => if l <= h /\ h <= n then some (.fz (h - l) ((cells.drop (l * esz)).take ((h - l) * esz)) (cap.map (· - l))) else none
  | some l, some h, some (.i _ j) => if l <= h /\ h <= j.toNat /\ j.toNat <= n /\ 0 <= j /\ hi.isSome = true then some (.fz (h - l) ((cells.drop (l * esz)).take ((h - l) * esz)) (some (j.toNat - l))) else none
  | _, _, _ => none
 | .sl id o n cap =>
  match T id with
  | .row z cells => if z = esz then
    match bnd 0 lo, bnd n hi, mx with
    | some l, some h, none => if l <= h /\ (h <= n \/ z4a cap o z cells.length h = true) then (if l < h \/ l = 0 then some (.sl id (o + l * esz) (h - l) (cap.map (· - l))) else some (.fz 0 [] none)) else none
    | some l, some h, some (.i _ j) => if l <= h /\ h <= j.toNat /\ j.toNat <= n /\ 0 <= j /\ hi.isSome = true then (if l < h \/ l = 0 then some (.sl id (o + l * esz) (h - l) (some (j.toNat - l))) else some (.fz 0 [] (some (j.toNat - l)))) else none
    | _, _, _ => none
   else none
  | _ => none
 | _ => none
def qjt (lo hi : Option AV) : AV -> Option AV
 | .s b =>
  match bnd 0 lo, bnd b.length hi with
  | some l, some h => if l <= h /\ h <= b.length then some (.s ((b.drop l).take (h - l))) else none
  | _, _ => none
 | _ => none
def qmt (i : AV) : AV -> Option AV
 | .s b => match i with
  | .i _ j => if 0 <= j then (b[j.toNat]?).map (fun c => .i .u8 c.toNat) else none
  | _ => none
 | _ => none
def qv4 (off : Nat) (sz : Option Nat) : AV -> Option AV
 | .agg cells => q4k sz cells off
 | _ => none
def qv5 (i : Nat) : AV -> Option AV
 | .tup l => qms l[i]?
 | _ => none
def qv6 (esz : Nat) (sz : Option Nat) (n : Nat) (i : AV) : AV -> Option AV
 | .agg cells => match i with
  | .i _ j => if 0 <= j /\ j < n then q4k sz cells (j.toNat * esz) else none
  | _ => none
 | _ => none
def qv7 : AV -> Option AV
 | .fz _ _ (some c) => some (.i .i64 c)
 | .sl _ _ _ (some c) => some (.i .i64 c)
 | _ => none
def qiu (str : Bool) : AV -> Option AV
 | .fz n _ _ => if str then none else some (.i .i64 n)
 | .sl _ _ n _ => if str then none else some (.i .i64 n)
 | .s l => if str then some (.i .i64 l.length) else none
 | _ => none
section
variable {P : Program} {X : Cx} {lam : Nat -> Nat} {w : World}
theorem Addr.add_none (b o n : Nat) : (⟨b, o, none⟩ : Addr).add n = ⟨b, o + n, none⟩ := by
 unfold Addr.add; split <;> simp_all
theorem qdc {a : Addr} (h : a.spot = none) : a = ⟨a.block, a.off, none⟩ := by cases a; simp_all
theorem FzRow.drop {a : Addr} {us : List Value} (h : FzRow X w a us) (n : Nat) (hs : Sp a us) : FzRow X w (a.add n) (us.drop n) := by
 rcases hs with rfl | hs
 ·exact .inl (by simp)
 rcases h with rfl | ⟨h1, h2, h3⟩
 ·exact .inl (by simp)
 ·rw [qdc hs, Addr.add_none]
  refine .inr ⟨h1, fun u hu => h2 u (List.mem_of_mem_drop hu), fun j u hu => ?_⟩
  rw [List.getElem?_drop] at hu
  have := h3 _ u hu
  rw [<- this]; simp [Nat.add_assoc]
theorem FzRow.take {a : Addr} {us : List Value} (h : FzRow X w a us) (n : Nat) : FzRow X w a (us.take n) := by
 rcases h with rfl | ⟨h1, h2, h3⟩
 ·exact .inl (by simp)
 ·refine .inr ⟨h1, fun u hu => h2 u (List.mem_of_mem_take hu), fun j u hu => h3 j u ?_⟩
  rw [List.getElem?_take] at hu
  split at hu
  ·exact hu
  ·cases hu
theorem Addr.add_spot {a : Addr} (h : a.spot = none) (n : Nat) : (a.add n).spot = none := by rw [qdc h, Addr.add_none]
theorem Sp.drop {a : Addr} {us : List Value} (h : Sp a us) (n : Nat) : Sp (a.add n) (us.drop n) := by
 rcases h with rfl | h
 ·exact .inl (by simp)
 ·exact .inr (Addr.add_spot h n)
theorem Sp.take {a : Addr} {us : List Value} (h : Sp a us) (n : Nat) : Sp a (us.take n) := by
 rcases h with rfl | h
 ·exact .inl (by simp)
 ·exact .inr h
theorem qv8 {off : Nat} {x r : AV} {u : Value} (hx : evr X lam w x u) (h : qjr off x = some r) :
  ∃ ad q, u = .pointer (some ad) /\ q = .pointer (some (ad.add off)) /\ evr X lam w r q := by
 cases x <;> simp only [qjr] at h <;> first
  | (cases h; done)
  | skip
 ·rename_i id o
  injection h with h; subst h
  simp only [evr, vr] at hx ⊢
  obtain ⟨h1, rfl⟩ := hx
  exact ⟨_, _, rfl, rfl, h1, by simp [Addr.add_none, Nat.add_assoc]⟩
 ·rename_i cells
  injection h with h; subst h
  simp only [evr, vr] at hx ⊢
  obtain ⟨us, a, h1, rfl, h2, h3⟩ := hx
  exact ⟨_, _, rfl, rfl, us.drop off, a.add off, h1.drop off, rfl, h2.drop off, h3.drop off h2⟩
 ·rename_i l o
  injection h with h; subst h
  simp only [evr] at hx ⊢
  subst hx
  exact ⟨_, _, rfl, rfl, by simp [Addr.add_none]⟩
theorem FzRow.loadCells {a : Addr} {us : List Value} (h : FzRow X w a us) (hs : Sp a us) : (loadCells a us.length).run P w = .ok us.toArray w := by
 refine run_loadCells_list w a us fun j v hv => ?_
 rcases hs with rfl | hs
 ·simp at hv
 rcases h with rfl | ⟨h1, h2, h3⟩
 ·simp at hv
 ·rw [qdc hs, Addr.add_none]; exact h3 j v hv
def Lies (w : World) (b o : Nat) (us : List Value) : Prop :=
 ∃ cur e f, w.heap[b]? = some (.cells cur e f) /\ ∀ (j : Nat) u, us[j]? = some u -> cur[o + j]? = some u
theorem Lies.cell {b o : Nat} {us : List Value} (h : Lies w b o us) {j : Nat} {u : Value} (hj : us[j]? = some u) : w.cell? ⟨b, o + j, none⟩ = some u := by
 obtain ⟨cur, e, f, h1, h2⟩ := h
 simp [World.cell?, h1, h2 j u hj]
theorem Lies.part {b o : Nat} {us : List Value} (h : Lies w b o us) (k n : Nat) : Lies w b (o + k) ((us.drop k).take n) := by
 obtain ⟨cur, e, f, h1, h2⟩ := h
 refine ⟨cur, e, f, h1, fun j u hu => ?_⟩
 rw [List.getElem?_take] at hu
 split at hu
 ·rw [List.getElem?_drop] at hu
  rw [Nat.add_assoc]; exact h2 _ u hu
 ·cases hu
theorem Lies.load {b o : Nat} {us : List Value} (h : Lies w b o us) : (loadCells ⟨b, o, none⟩ us.length).run P w = .ok us.toArray w :=
 run_loadCells_list w _ us fun j v hv => by rw [Addr.add_none]; exact h.cell hv
def LdT (P : Program) (t : TypeId) (sz : Option Nat) : Prop :=
 ∀ w : World, match sz with
  | none => (isAgg t).run P w = .ok false w
  | some n => (isAgg t).run P w = .ok true w /\ (sizeOf t).run P w = .ok n w
theorem qat {sz : Option Nat} {cells : List AV} {us : List Value} {b o k : Nat} {r : AV} {t : TypeId} (hv : vrs X w cells us) (h1 : ∀ u ∈ us, u.oneCell' = true) (hl : Lies w b o us)
  (h : q4k sz cells k = some r) (ht : LdT P t sz) :
  ∃ q, (loadVar t ⟨b, o + k, none⟩).run P w = .ok q w /\ vr X w r q := by
 cases sz with
 | none =>
  simp only [q4k] at h
  obtain ⟨u, hu, hr⟩ := hv.get (q60 h).1
  refine ⟨u, ?_, hr⟩
  have ht := ht w
  simp only at ht
  simp only [loadVar, Sem.run_bind, ht, Result.andThen_ok]
  simp [hl.cell hu]
 | some n =>
  simp only [q4k] at h
  split at h
  ·rename_i hle
   injection h with h; subst h
   have hlen := hv.length
   have hp := (hl.part k n).load (P := P)
   rw [show ((us.drop k).take n).length = n by rw [List.length_take, List.length_drop]; omega] at hp
   refine ⟨.agg ((us.drop k).take n).toArray, ?_, ?_⟩
   ·have ht := ht w
    simp only at ht
    simp only [loadVar, Sem.run_bind, ht.1, Result.andThen_ok, if_true, ht.2, hp, Sem.run_pure]
   ·simp only [vr]
    exact ⟨_, (hv.drop k).take n, fun u hu => h1 u (List.mem_of_mem_drop (List.mem_of_mem_take hu)), rfl⟩
  ·cases h
theorem RowAt.lies {id esz : Nat} {cells : List AV} (h : RowAt X w id esz cells) : ∃ us, vrs X w cells us /\ (∀ u ∈ us, u.oneCell' = true) /\ Lies w (X.β id).blk (X.β id).base us := by
 obtain ⟨cur, e, us, h1, h2, h3, h4, _⟩ := h
 exact ⟨us, h2, h3, cur, e, _, h1, h4⟩
theorem LocAt.lies {b : Nat} {cells : List AV} (h : LocAt X w b cells) : ∃ us, vrs X w cells us /\ (∀ u ∈ us, u.oneCell' = true) /\ Lies w b 0 us := by
 obtain ⟨e, us, h1, h2, h3⟩ := h
 exact ⟨us, h2, h3, us.toArray, e, _, h1, fun j u hu => by simpa using hu⟩
theorem FzRow.lies {a : Addr} {us : List Value} (h : FzRow X w a us) {j : Nat} {u : Value} (hu : us[j]? = some u) : Lies w a.block a.off us /\ (∀ u ∈ us, u.oneCell' = true) := by
 rcases h with rfl | ⟨h1, h2, h3⟩
 ·simp at hu
 ·refine ⟨?_, h2⟩
  have h0 := h3 j u hu
  unfold World.cell? at h0
  simp only at h0
  split at h0
  ·rename_i cur e f hc
   refine ⟨cur, e, f, hc, fun i v hv => ?_⟩
   have := h3 i v hv
   simpa [World.cell?, hc] using this
  ·cases h0
theorem qv9 {sz : Option Nat} {cells : List AV} {k : Nat} {r : AV} (h : q4k sz cells k = some r) : ∃ x, cells[k]? = some x := by
 cases sz with
 | none => exact ⟨r, (q60 h).1⟩
 | some n =>
  simp only [q4k] at h
  split at h
  ·rename_i hle
   exact ⟨_, List.getElem?_eq_getElem (by omega)⟩
  ·cases h
theorem qu0 {T : Tab} {L : Loc} (hr : Rel X T L lam w) {sz : Option Nat} {x r : AV} {u : Value} {t : TypeId} (hx : evr X lam w x u) (ht : LdT P t sz) (h : z72 sz T x = some r) :
  ∃ q, (Instr.loadAt t u).run P w = .ok q w /\ vr X w r q := by
 cases x <;> simp only [z72] at h <;> first
  | (cases h; done)
  | skip
 ·rename_i id o
  split at h
  ·rename_i z cells hT
   simp only [evr, vr] at hx
   obtain ⟨_, rfl⟩ := hx
   obtain ⟨us, h1, h2, h3⟩ := (hr.row id z cells hT).lies
   simp only [Instr.loadAt, Instr.sureAddr, Sem.run_bind, Sem.run_pure, Result.andThen_ok]
   exact qat h1 h2 h3 h ht
  ·cases h
 ·rename_i cells
  simp only [evr, vr] at hx
  obtain ⟨us, a, h1, rfl, h2, h3⟩ := hx
  obtain ⟨y, hy⟩ := qv9 h
  obtain ⟨v, hv, _⟩ := h1.get hy
  obtain ⟨hl, ho⟩ := h3.lies hv
  simp only [Instr.loadAt, Instr.sureAddr, Sem.run_bind, Sem.run_pure, Result.andThen_ok]
  have := qat (P := P) h1 ho hl h ht
  have h2 : a.spot = none := h2.resolve_left fun e => by subst e; simp at hv
  rw [Nat.add_zero, <- qdc h2] at this
  exact this
theorem qpd {T : Tab} {L : Loc} (hr : Rel X T L lam w) {l : Nat} {sz : Option Nat} {x r : AV} {u : Value} {t : TypeId} (hx : evr X lam w x u) (ht : LdT P t sz) (h : qrg l sz L x = some r) :
  ∃ q, (Instr.loadAt t u).run P w = .ok q w /\ vr X w r q := by
 cases x <;> simp only [qrg] at h <;> first
  | (cases h; done)
  | skip
 rename_i l' o
 split at h
 ·rename_i e
  subst e
  split at h
  ·rename_i cells hL
   simp only [evr] at hx
   subst hx
   obtain ⟨us, h1, h2, h3⟩ := (hr.loc l' cells hL).lies
   simp only [Instr.loadAt, Instr.sureAddr, Sem.run_bind, Sem.run_pure, Result.andThen_ok]
   have := qat (P := P) h1 h2 h3 h ht
   rwa [Nat.zero_add] at this
  ·cases h
 ·cases h
def IxT (P : Program) (t : TypeId) (esz : Nat) (alen : Option Nat) : Prop :=
 ∃ e i, P.info? e = some i /\ i.size = esz /\ match alen with
  | none => P.underlying t = some (.slice e)
  | some m => P.underlying t = some (.array m e)
theorem qva {esz : Nat} {alen : Option Nat} {x y r : AV} {u v : Value} {t : TypeId} (hx : evr X lam w x u) (hy : vr X w y v) (ht : IxT P t esz alen) (h : qjs esz alen y x = some r) :
  ∃ q, (Instr.indexAt t u v).run P w = .ok q w /\ evr X lam w r q := by
 obtain ⟨e, i, hi, hsz, ht⟩ := ht
 cases x <;> simp only [qjs] at h <;> first
  | (cases h; done)
  | skip
 ·rename_i id o
  cases alen with
  | none => simp at h
  | some m =>
   cases y <;> simp only at h <;> first | (cases h; done) | skip
   rename_i k j
   split at h
   ·rename_i hj
    injection h with h; subst h
    simp only [evr, vr] at hx hy ⊢
    obtain ⟨h1, rfl⟩ := hx
    subst hy
    simp only at ht
    refine ⟨.pointer (some ((⟨(X.β id).blk, (X.β id).base + o, none⟩ : Addr).add (j.toNat * esz))), ?_, h1, ?_⟩
    ·simp [Instr.indexAt, asIntOf, run_underlying ht, Instr.sureAddr, hj, sizeOf, typeInfo, hi, hsz]
    ·simp [Addr.add_none, Nat.add_assoc]
   ·cases h
 ·rename_i cells
  cases alen with
  | none => simp at h
  | some m =>
   cases y <;> simp only at h <;> first | (cases h; done) | skip
   rename_i k j
   split at h
   ·rename_i hj
    injection h with h; subst h
    simp only [evr, vr] at hx hy ⊢
    obtain ⟨us, a, h1, rfl, h2, h3⟩ := hx
    subst hy
    simp only at ht
    refine ⟨.pointer (some (a.add (j.toNat * esz))), ?_, us.drop (j.toNat * esz), _, h1.drop _, rfl, h2.drop _, h3.drop _ h2⟩
    simp [Instr.indexAt, asIntOf, run_underlying ht, Instr.sureAddr, hj, sizeOf, typeInfo, hi, hsz]
   ·cases h
 ·rename_i n cells cap
  cases alen with
  | some m => simp at h
  | none =>
   cases y <;> simp only at h <;> first | (cases h; done) | skip
   rename_i k j
   split at h
   ·rename_i hj
    injection h with h; subst h
    simp only [evr, vr] at hx hy ⊢
    obtain ⟨us, h1, hf⟩ := hx
    subst hy
    simp only at ht
    rcases hf with ⟨_, rfl, _⟩ | ⟨a, c, rfl, h2, h3, h4, h5⟩
    ·omega
    ·refine ⟨.pointer (some (a.add (j.toNat * esz))), ?_, us.drop (j.toNat * esz), _, h1.drop _, rfl, h2.drop _, h5.drop _ h2⟩
     simp [Instr.indexAt, asIntOf, run_underlying ht, hj, sizeOf, typeInfo, hi, hsz]
   ·cases h
 ·rename_i id o n cap
  cases alen with
  | some m => simp at h
  | none =>
   cases y <;> simp only at h <;> first | (cases h; done) | skip
   rename_i k j
   split at h
   ·rename_i hj
    injection h with h; subst h
    simp only [evr, vr] at hx hy ⊢
    obtain ⟨h1, c, rfl, h2, h3, h4⟩ := hx
    subst hy
    simp only at ht
    refine ⟨.pointer (some ((⟨(X.β id).blk, (X.β id).base + o, none⟩ : Addr).add (j.toNat * esz))), ?_, h1, ?_⟩
    ·simp [Instr.indexAt, asIntOf, run_underlying ht, hj, sizeOf, typeInfo, hi, hsz]
    ·simp [Addr.add_none, Nat.add_assoc]
   ·cases h
 ·rename_i l o
  cases alen with
  | none => simp at h
  | some m =>
   cases y <;> simp only at h <;> first | (cases h; done) | skip
   rename_i k j
   split at h
   ·rename_i hj
    injection h with h; subst h
    simp only [evr, vr] at hx hy ⊢
    subst hx
    subst hy
    simp only at ht
    refine ⟨.pointer (some ((⟨lam l, o, none⟩ : Addr).add (j.toNat * esz))), ?_, ?_⟩
    ·simp [Instr.indexAt, asIntOf, run_underlying ht, Instr.sureAddr, hj, sizeOf, typeInfo, hi, hsz]
    ·simp [Addr.add_none]
   ·cases h
theorem qwt {t : TypeId} {ty : TypeId} {x r : AV} {u : Value} {str : Bool} (hx : vr X w x u) (ht : if str then P.underlying t = some .string else ∃ e, P.underlying t = some (.slice e))
  (h : qiu str x = some r) : ∃ q, (Builtin.len_ #[t] ty #[u]).run P w = .ok q w /\ vr X w r q := by
 cases x <;> simp only [qiu] at h <;> first
  | (cases h; done)
  | skip
 ·rename_i l
  cases str with
  | false => simp at h
  | true =>
  simp only [if_true] at h ht
  injection h with h; subst h
  simp only [vr] at hx ⊢
  subst hx
  exact ⟨_, by simp [Builtin.len_, run_underlying ht]; rfl, by simp [goInt, ByteArray.size]⟩
 ·rename_i n cells cap
  cases str with
  | true => simp at h
  | false =>
  simp only [Bool.false_eq_true, if_false] at h ht
  injection h with h; subst h
  obtain ⟨e, ht⟩ := ht
  simp only [vr] at hx ⊢
  obtain ⟨us, h1, hf⟩ := hx
  rcases hf with ⟨rfl, rfl, _⟩ | ⟨a, c, rfl, h2, h3, h4, h5⟩
  ·exact ⟨_, by simp [Builtin.len_, run_underlying ht]; rfl, rfl⟩
  ·exact ⟨_, by simp [Builtin.len_, run_underlying ht]; rfl, rfl⟩
 ·rename_i id o n cap
  cases str with
  | true => simp at h
  | false =>
  simp only [Bool.false_eq_true, if_false] at h ht
  injection h with h; subst h
  obtain ⟨e, ht⟩ := ht
  simp only [vr] at hx ⊢
  obtain ⟨h1, c, rfl, h2, h3, h4⟩ := hx
  exact ⟨_, by simp [Builtin.len_, run_underlying ht]; rfl, rfl⟩
end
end Go.Aw
namespace Go.Aw
open Go
set_option linter.all false
variable [Glob]
section
variable {P : Program} {X : Cx} {lam : Nat -> Nat} {w : World}
def qeh (x : Option AV) (v : Option Value) : Prop :=
 match x, v with
 | none, none => True
 | some (.i k j), some v => v = .int k j
 | _, _ => False
theorem q46 {k : IntKind} {j : Int} {y : Nat} {c : BoundsCode} (h0 : 0 <= j) (h : j <= y) : (Instr.sliceBound (.int k j) y c).run P w = .ok j.toNat w := by
 simp [Instr.sliceBound, asIntOf, h0, h]
theorem q5u {sl : Bool} {len cap : Nat} {lo hi : Option AV} {lv hv : Option Value} {l h : Nat} (hl : qeh lo lv) (hh : qeh hi hv) (e1 : bnd 0 lo = some l) (e2 : bnd len hi = some h)
  (h1 : l <= h) (h2 : h <= cap) (h3 : len <= cap) : (Instr.sliceBounds sl len cap lv hv none).run P w = .ok (l, h, cap) w := by
 cases hi with
 | none =>
  cases hv with
  | some v => simp [qeh] at hh
  | none =>
   simp only [bnd] at e2; injection e2 with e2; subst e2
   cases lo with
   | none =>
    cases lv with
    | some v => simp [qeh] at hl
    | none => simp only [bnd] at e1; injection e1 with e1; subst e1; simp [Instr.sliceBounds]
   | some x =>
    cases lv with
    | none => cases x <;> simp [qeh] at hl
    | some v =>
     cases x <;> simp only [qeh, bnd] at hl e1 <;> first | (cases hl; done) | skip
     subst hl
     split at e1
     ·rename_i h0
      injection e1 with e1
      have := q46 (P := P) (w := w) (k := by assumption) (y := len) (c := .sliceB) h0 (by omega)
      simp [Instr.sliceBounds, this, e1]
     ·cases e1
 | some y =>
  cases hv with
  | none => cases y <;> simp [qeh] at hh
  | some v' =>
   cases y <;> simp only [qeh, bnd] at hh e2 <;> first | (cases hh; done) | skip
   subst hh
   split at e2
   ·rename_i kk jj h0'
    injection e2 with e2
    have hb : ∀ c, (Instr.sliceBound (.int kk jj) cap c).run P w = .ok h w := fun c => by rw [q46 h0' (by omega), e2]
    cases lo with
    | none =>
     cases lv with
     | some v => simp [qeh] at hl
     | none => simp only [bnd] at e1; injection e1 with e1; subst e1; simp [Instr.sliceBounds, hb]
    | some x =>
     cases lv with
     | none => cases x <;> simp [qeh] at hl
     | some v =>
      cases x <;> simp only [qeh, bnd] at hl e1 <;> first | (cases hl; done) | skip
      subst hl
      split at e1
      ·rename_i k j h0
       injection e1 with e1
       have := q46 (P := P) (w := w) (k := k) (y := h) (c := .sliceB) h0 (by omega)
       simp [Instr.sliceBounds, hb, this, e1]
      ·cases e1
   ·cases e2
theorem q7u {sl : Bool} {len cap : Nat} {lo hi : Option AV} {lv hv : Option Value} {l h m : Nat} {k : IntKind} {j : Int} (hl : qeh lo lv) (hh : qeh hi hv) (e1 : bnd 0 lo = some l) (e2 : bnd len hi = some h)
  (hhi : hi ≠ none) (hj : 0 <= j) (hm : j.toNat = m) (h1 : l <= h) (h2 : h <= m) (h3 : m <= cap) : (Instr.sliceBounds sl len cap lv hv (some (.int k j))).run P w = .ok (l, h, m) w := by
 have hb0 : ∀ c, (Instr.sliceBound (.int k j) cap c).run P w = .ok m w := fun c => by rw [q46 hj (by omega), hm]
 cases hi with
 | none => exact absurd rfl hhi
 | some y =>
  cases hv with
  | none => cases y <;> simp [qeh] at hh
  | some v' =>
   cases y <;> simp only [qeh, bnd] at hh e2 <;> first | (cases hh; done) | skip
   subst hh
   split at e2
   ·rename_i kk jj h0'
    injection e2 with e2
    have hb : ∀ c, (Instr.sliceBound (.int kk jj) m c).run P w = .ok h w := fun c => by rw [q46 h0' (by omega), e2]
    cases lo with
    | none =>
     cases lv with
     | some v => simp [qeh] at hl
     | none => simp only [bnd] at e1; injection e1 with e1; subst e1; simp [Instr.sliceBounds, hb0, hb]
    | some x =>
     cases lv with
     | none => cases x <;> simp [qeh] at hl
     | some v =>
      cases x <;> simp only [qeh, bnd] at hl e1 <;> first | (cases hl; done) | skip
      subst hl
      split at e1
      ·rename_i k' j' h0
       injection e1 with e1
       have := q46 (P := P) (w := w) (k := k') (y := h) (c := .slice3C) h0 (by omega)
       simp [Instr.sliceBounds, hb0, hb, this, e1]
      ·cases e1
   ·cases e2
theorem qju {cap : Option Nat} {c l : Nat} (h : qp7 cap c) : qp7 (cap.map (· - l)) (c - l) := by
 intro k hk
 cases cap with
 | none => simp at hk
 | some c' => simp at hk; rw [h c' rfl]; exact hk
theorem qhs {us : List Value} {a : Addr} (hs : Sp a us) (h5 : FzRow X w a us) {l h m esz : Nat} {cap' : Option Nat} (h1 : l <= h) (h2 : h <= m) (hc : qp7 cap' (m - l)) :
  fzSlice X w (h - l) cap' ((us.drop (l * esz)).take ((h - l) * esz)) (.slice (some (if m = l then a else a.add (l * esz))) (h - l) (m - l)) := by
 refine .inr ⟨_, _, rfl, ?_, by omega, hc, ?_⟩
 ·split
  ·rename_i e
   have : h - l = 0 := by omega
   rw [this]
   exact .inl (by simp)
  ·exact (hs.drop _).take _
 ·split
  ·rename_i e
   have : h - l = 0 := by omega
   rw [this]
   exact .inl (by simp)
  ·exact (h5.drop _ hs).take _
theorem qwu {T : Tab} {L : Loc} (hr : Rel X T L lam w) {esz : Nat} {lo hi mx : Option AV} {lv hv mv : Option Value} {x r : AV} {u : Value} {t e : TypeId} {i : TypeInfo} (hx : vr X w x u) (hl : qeh lo lv) (hh : qeh hi hv)
  (hm : qeh mx mv) (ht : P.underlying t = some (.slice e)) (hi' : P.info? e = some i) (hsz : i.size = esz) (h : qrh esz T lo hi mx x = some r) :
  ∃ q, (Instr.sliceAt t u lv hv mv).run P w = .ok q w /\ vr X w r q := by
 cases x <;> simp only [qrh] at h <;> first
  | (cases h; done)
  | skip
 ·rename_i n cells cap
  simp only [vr] at hx
  obtain ⟨us, h1, hf⟩ := hx
  cases e1 : bnd 0 lo with
  | none => simp [e1] at h
  | some l =>
  cases e2 : bnd n hi with
  | none => simp [e1, e2] at h
  | some hh' =>
  cases mx with
  | none =>
   cases mv with
   | some v => simp [qeh] at hm
   | none =>
   simp only [e1, e2] at h
   split at h
   ·rename_i hc
    injection h with h; subst h
    rcases hf with ⟨rfl, rfl, rfl, h4⟩ | ⟨a, c, rfl, h2, h3, h4, h5⟩
    ·have hl0 : l = 0 := by omega
     have hh0 : hh' = 0 := by omega
     subst hl0; subst hh0
     have := q5u (P := P) (w := w) (sl := true) (len := 0) (cap := 0) hl hh e1 e2 (by omega) (by omega) (by omega)
     refine ⟨.slice none 0 0, ?_, ?_⟩
     ·simp [Instr.sliceAt, Instr.slice, run_underlying ht, this, sizeOf, typeInfo, hi']
     ·simp only [vr]
      exact ⟨[], by simp [vrs], .inl ⟨rfl, rfl, rfl, by simpa using qju (l := 0) h4⟩⟩
    ·have := q5u (P := P) (w := w) (sl := true) (len := n) (cap := c) hl hh e1 e2 hc.1 (by omega) h3
     refine ⟨.slice (some (if c = l then a else a.add (l * esz))) (hh' - l) (c - l), ?_, ?_⟩
     ·simp [Instr.sliceAt, Instr.slice, run_underlying ht, this, sizeOf, typeInfo, hi', hsz]
      split <;> rfl
     ·simp only [vr]
      exact ⟨_, (h1.drop _).take _, qhs h2 h5 hc.1 (by omega) (qju h4)⟩
   ·cases h
  | some mxv =>
   cases mv with
   | none => cases mxv <;> simp [qeh] at hm
   | some v =>
   cases mxv <;> simp only [qeh] at hm <;> first | (cases hm; done) | skip
   rename_i k j
   subst hm
   simp only [e1, e2] at h
   split at h
   ·rename_i hc
    injection h with h; subst h
    have hhi : hi ≠ none := by rintro rfl; simp at hc
    rcases hf with ⟨rfl, rfl, rfl, h4⟩ | ⟨a, c, rfl, h2, h3, h4, h5⟩
    ·have hl0 : l = 0 := by omega
     have hh0 : hh' = 0 := by omega
     have hj0 : j.toNat = 0 := by omega
     subst hl0; subst hh0
     have := q7u (P := P) (w := w) (sl := true) (len := 0) (cap := 0) (k := k) hl hh e1 e2 hhi hc.2.2.2.1 hj0 (by omega) (by omega) (by omega)
     refine ⟨.slice none 0 0, ?_, ?_⟩
     ·simp [Instr.sliceAt, Instr.slice, run_underlying ht, this, sizeOf, typeInfo, hi']
     ·simp only [vr]
      exact ⟨[], by simp [vrs], .inl ⟨rfl, rfl, rfl, fun k hk => by injection hk with hk; omega⟩⟩
    ·have := q7u (P := P) (w := w) (sl := true) (len := n) (cap := c) (k := k) hl hh e1 e2 hhi hc.2.2.2.1 rfl hc.1 hc.2.1 (by omega)
     refine ⟨.slice (some (if j.toNat = l then a else a.add (l * esz))) (hh' - l) (j.toNat - l), ?_, ?_⟩
     ·simp [Instr.sliceAt, Instr.slice, run_underlying ht, this, sizeOf, typeInfo, hi', hsz]
      split <;> rfl
     ·simp only [vr]
      exact ⟨_, (h1.drop _).take _, qhs h2 h5 hc.1 hc.2.1 (fun k hk => by injection hk)⟩
   ·cases h
 ·rename_i id o n cap
  simp only [vr] at hx
  obtain ⟨h1, c, rfl, h3, h4, h5, h6⟩ := hx
  split at h
  ·rename_i z cells hT
   split at h
   ·rename_i hz
    subst hz
    have hbz : (X.β id).esz = z := by obtain ⟨_, _, _, _, _, _, _, _, _, h7⟩ := hr.row id z cells hT; exact h7
    rw [hbz] at h5 h6
    cases e1 : bnd 0 lo with
    | none => simp [e1] at h
    | some l =>
    cases e2 : bnd n hi with
    | none => simp [e1, e2] at h
    | some hh' =>
    have key : ∀ (m : Nat) (cap' : Option Nat), l <= hh' -> hh' <= m -> m <= c -> qp7 cap' (m - l) -> (l < hh' \/ l = 0 -> cap' = none -> m = c /\ cap = none) -> ∀ r', (if l < hh' \/ l = 0 then some (AV.sl id (o + l * z) (hh' - l) cap') else some (.fz 0 [] cap')) = some r' ->
      vr X w r' (.slice (some (if m = l then (⟨(X.β id).blk, (X.β id).base + o, none⟩ : Addr) else (⟨(X.β id).blk, (X.β id).base + o, none⟩ : Addr).add (l * z))) (hh' - l) (m - l)) := by
     intro m cap' b1 b2 b3 b4 b5 r' hr'
     split at hr'
     ·rename_i hcond
      injection hr' with hr'; subst hr'
      have hadd : (if m = l then (⟨(X.β id).blk, (X.β id).base + o, none⟩ : Addr) else (⟨(X.β id).blk, (X.β id).base + o, none⟩ : Addr).add (l * z)) = ⟨(X.β id).blk, (X.β id).base + (o + l * z), none⟩ := by
       split
       ·rename_i e
        have : l = 0 := by omega
        subst this; simp
       ·rw [Addr.add_none, Nat.add_assoc]
      rw [hadd]
      simp only [vr, hbz]
      have e0 : l * z + (m - l) * z = m * z := by rw [<- Nat.add_mul]; congr 1; omega
      have e1 : m * z <= c * z := Nat.mul_le_mul_right _ b3
      refine ⟨h1, _, rfl, by omega, b4, by omega, fun hn => ?_⟩
      obtain ⟨e2, e3⟩ := b5 hcond hn
      subst e2
      have := h6 e3
      omega
     ·rename_i hcond
      injection hr' with hr'; subst hr'
      have hz : hh' - l = 0 := by omega
      rw [hz]
      simp only [vr]
      exact ⟨[], rfl, .inr ⟨_, _, rfl, .inl rfl, Nat.zero_le _, b4, .inl rfl⟩⟩
    cases mx with
    | none =>
     cases mv with
     | some v => simp [qeh] at hm
     | none =>
     simp only [e1, e2] at h
     split at h
     ·rename_i hc
      have hcc : hh' <= c := by
       rcases hc.2 with hc2 | hc2
       ·omega
       ·cases cap with
        | some c' => rw [h4 c' rfl]; simpa [z4a] using hc2
        | none =>
         simp only [z4a, Bool.and_eq_true, decide_eq_true_eq] at hc2
         have := h6 rfl
         obtain ⟨_, _, _, _, _, _, _, h7, _⟩ := hr.row id z cells hT
         have h9 : hh' * z <= c * z := by omega
         exact Nat.le_of_mul_le_mul_right h9 (by omega)
      have := q5u (P := P) (w := w) (sl := true) (len := n) (cap := c) hl hh e1 e2 hc.1 hcc h3
      refine ⟨.slice (some (if c = l then (⟨(X.β id).blk, (X.β id).base + o, none⟩ : Addr) else (⟨(X.β id).blk, (X.β id).base + o, none⟩ : Addr).add (l * z))) (hh' - l) (c - l), ?_, ?_⟩
      ·simp [Instr.sliceAt, Instr.slice, run_underlying ht, this, sizeOf, typeInfo, hi', hsz]
       split <;> rfl
      ·by_cases hcond : l < hh' \/ l = 0
       ·rw [if_pos hcond] at h
        exact key c (cap.map (· - l)) hc.1 hcc (Nat.le_refl _) (qju h4) (fun _ hn => ⟨rfl, by cases cap with | none => rfl | some x => simp at hn⟩) r (by rw [if_pos hcond]; exact h)
       ·rw [if_neg hcond] at h
        exact key c none hc.1 hcc (Nat.le_refl _) (fun k hk => by cases hk) (fun hcc => absurd hcc hcond) r (by rw [if_neg hcond]; exact h)
     ·cases h
    | some mxv =>
     cases mv with
     | none => cases mxv <;> simp [qeh] at hm
     | some v =>
     cases mxv <;> simp only [qeh] at hm <;> first | (cases hm; done) | skip
     rename_i k j
     subst hm
     simp only [e1, e2] at h
     split at h
     ·rename_i hc
      have hhi : hi ≠ none := by rintro rfl; simp at hc
      have := q7u (P := P) (w := w) (sl := true) (len := n) (cap := c) (k := k) hl hh e1 e2 hhi hc.2.2.2.1 rfl hc.1 hc.2.1 (by omega)
      refine ⟨.slice (some (if j.toNat = l then (⟨(X.β id).blk, (X.β id).base + o, none⟩ : Addr) else (⟨(X.β id).blk, (X.β id).base + o, none⟩ : Addr).add (l * z))) (hh' - l) (j.toNat - l), ?_, ?_⟩
      ·simp [Instr.sliceAt, Instr.slice, run_underlying ht, this, sizeOf, typeInfo, hi', hsz]
       split <;> rfl
      ·exact key j.toNat (some (j.toNat - l)) hc.1 hc.2.1 (by omega) (fun k hk => by injection hk) (fun _ hn => by cases hn) r h
     ·cases h
   ·cases h
  ·cases h
theorem qpe {lo hi : Option AV} {lv hv : Option Value} {x r : AV} {u : Value} {t : TypeId} (hx : vr X w x u) (hl : qeh lo lv) (hh : qeh hi hv)
  (ht : P.underlying t = some .string) (h : qjt lo hi x = some r) : ∃ q, (Instr.sliceAt t u lv hv none).run P w = .ok q w /\ vr X w r q := by
 cases x <;> simp only [qjt] at h <;> first
  | (cases h; done)
  | skip
 rename_i b
 simp only [vr] at hx
 subst hx
 cases e1 : bnd 0 lo with
 | none => simp [e1] at h
 | some l =>
 cases e2 : bnd b.length hi with
 | none => simp [e1, e2] at h
 | some hh' =>
 simp only [e1, e2] at h
 split at h
 ·rename_i hc
  injection h with h; subst h
  have := q5u (P := P) (w := w) (sl := false) (len := b.length) (cap := b.length) hl hh e1 e2 hc.1 hc.2 (Nat.le_refl _)
  refine ⟨.string ⟨((b.drop l).take (hh' - l)).toArray⟩, ?_, by simp only [vr]⟩
  have hsz : (⟨b.toArray⟩ : ByteArray).size = b.length := by simp [ByteArray.size]
  simp [Instr.sliceAt, Instr.slice, run_underlying ht, hsz, this]
  apply ByteArray.ext
  rw [ByteArray.data_extract]
  apply Array.ext'
  simp
 ·cases h
theorem qpf {x y r : AV} {u v : Value} {t : TypeId} (hx : vr X w x u) (hy : vr X w y v) (ht : P.underlying t = some .string) (h : qmt y x = some r) :
  ∃ q, (Instr.index t u v).run P w = .ok q w /\ vr X w r q := by
 cases x <;> simp only [qmt] at h <;> first
  | (cases h; done)
  | skip
 rename_i b
 cases y <;> simp only at h <;> first
  | (cases h; done)
  | skip
 rename_i k j
 split at h
 ·rename_i hj
  simp only [vr] at hx hy
  subst hx; subst hy
  cases hb : b[j.toNat]? with
  | none => simp [hb] at h
  | some c =>
   simp [hb] at h
   subst h
   have hlt : j.toNat < b.length := (List.getElem?_eq_some_iff.1 hb).1
   have hg : (⟨b.toArray⟩ : ByteArray)[j.toNat]? = some c := by
    rw [getElem?_pos (h := by simpa [ByteArray.size] using hlt)]
    have := (List.getElem?_eq_some_iff.1 hb).2
    simp [ByteArray.getElem_eq_getElem_data, this]
   exact ⟨.int .u8 c.toNat, by simp [Instr.index, asIntOf, run_underlying ht, hj, hg], by simp only [vr]⟩
 ·cases h
theorem qwv {off : Nat} {sz : Option Nat} {x r : AV} {u : Value} {t : TypeId} {fs : Array Field} {f : Field} {k : Nat} (hx : vr X w x u) (ht : P.underlying t = some (.struct fs)) (hf : fs[k]? = some f) (ho : f.offset = off)
  (hl : LdT P f.type sz) (h : qv4 off sz x = some r) : ∃ q, (Instr.field t u k).run P w = .ok q w /\ vr X w r q := by
 cases x <;> simp only [qv4] at h <;> first
  | (cases h; done)
  | skip
 rename_i cells
 simp only [vr] at hx
 obtain ⟨us, h1, h2, rfl⟩ := hx
 subst ho
 have hl := hl w
 cases sz with
 | none =>
  simp only [q4k] at h
  obtain ⟨v, hv, hr⟩ := h1.get (q60 h).1
  simp only at hl
  exact ⟨v, by simp [Instr.field, run_underlying ht, hf, asAgg, part, hl, hv], hr⟩
 | some n =>
  simp only [q4k] at h
  split at h
  ·rename_i hle
   injection h with h; subst h
   simp only at hl
   refine ⟨.agg ((us.drop f.offset).take n).toArray, ?_, ?_⟩
   ·simp only [Instr.field, Sem.run_bind, run_underlying ht, Result.andThen_ok, hf, asAgg, Sem.run_pure, part, hl.1, if_true, hl.2]
    congr 2
    apply Array.ext'
    simp [List.take_drop]
   ·simp only [vr]
    exact ⟨_, (h1.drop _).take n, fun u hu => h2 u (List.mem_of_mem_drop (List.mem_of_mem_take hu)), rfl⟩
  ·cases h
theorem qww {esz n : Nat} {sz : Option Nat} {x y r : AV} {u v : Value} {t e : TypeId} {i : TypeInfo} (hx : vr X w x u) (hy : vr X w y v) (ht : P.underlying t = some (.array n e)) (hi : P.info? e = some i) (hsz : i.size = esz)
  (hl : LdT P e sz) (h : qv6 esz sz n y x = some r) : ∃ q, (Instr.index t u v).run P w = .ok q w /\ vr X w r q := by
 cases x <;> simp only [qv6] at h <;> first
  | (cases h; done)
  | skip
 rename_i cells
 cases y <;> simp only at h <;> first | (cases h; done) | skip
 rename_i k j
 split at h
 ·rename_i hj
  simp only [vr] at hx hy
  obtain ⟨us, h1, h2, rfl⟩ := hx
  subst hy
  subst hsz
  have hl := hl w
  cases sz with
  | none =>
   simp only [q4k] at h
   obtain ⟨v, hv, hr⟩ := h1.get (q60 h).1
   simp only at hl
   exact ⟨v, by simp [Instr.index, asIntOf, run_underlying ht, hj, sizeOf, typeInfo, hi, part, hl, hv], hr⟩
  | some n =>
   simp only [q4k] at h
   split at h
   ·rename_i hle
    injection h with h; subst h
    simp only at hl
    have hrun : (part e us.toArray (j.toNat * i.size)).run P w = .ok (.agg ((us.drop (j.toNat * i.size)).take n).toArray) w := by
     simp only [part, Sem.run_bind, hl.1, Result.andThen_ok, if_true, hl.2, Sem.run_pure]
     congr 2
     apply Array.ext'
     simp [List.take_drop]
    refine ⟨.agg ((us.drop (j.toNat * i.size)).take n).toArray, ?_, ?_⟩
    ·simp [Instr.index, asIntOf, run_underlying ht, hj, sizeOf, typeInfo, hi, hrun]
    ·simp only [vr]
     exact ⟨_, (h1.drop _).take n, fun u hu => h2 u (List.mem_of_mem_drop (List.mem_of_mem_take hu)), rfl⟩
   ·cases h
 ·cases h
theorem qwx {x r : AV} {u : Value} {t e ty : TypeId} (hx : vr X w x u) (ht : P.underlying t = some (.slice e)) (h : qv7 x = some r) : ∃ q, (Builtin.cap_ #[t] ty #[u]).run P w = .ok q w /\ vr X w r q := by
 cases x <;> simp only [qv7] at h <;> first | (cases h; done) | skip
 ·rename_i n cells cap
  cases cap with
  | none => cases h
  | some c =>
  injection h with h; subst h
  simp only [vr] at hx
  obtain ⟨us, _, hf⟩ := hx
  rcases hf with ⟨rfl, _, _, h4⟩ | ⟨a, c', rfl, _, _, h4, _⟩
  ·have := h4 c rfl; subst this
   exact ⟨.int .i64 0, by simp [Builtin.cap_, run_underlying ht, goInt], rfl⟩
  ·have := h4 c rfl; subst this
   exact ⟨.int .i64 c', by simp [Builtin.cap_, run_underlying ht, goInt], rfl⟩
 ·rename_i id o n cap
  cases cap with
  | none => cases h
  | some c =>
  injection h with h; subst h
  simp only [vr] at hx
  obtain ⟨_, c', rfl, _, h4, _⟩ := hx
  have := h4 c rfl; subst this
  exact ⟨.int .i64 c', by simp [Builtin.cap_, run_underlying ht, goInt], rfl⟩
theorem qwy {i : Nat} {x r : AV} {u : Value} (hx : vr X w x u) (h : qv5 i x = some r) : ∃ q, (Instr.extract u i).run P w = .ok q w /\ vr X w r q := by
 cases x <;> simp only [qv5] at h <;> first
  | (cases h; done)
  | skip
 rename_i l
 simp only [vr] at hx
 obtain ⟨us, h1, rfl⟩ := hx
 obtain ⟨v, hv, hr⟩ := h1.get (q60 h).1
 exact ⟨v, by simp [Instr.extract, hv], hr⟩
end
end Go.Aw
namespace Go.Aw
open Go
set_option linter.all false
variable [Glob]
section
variable {P : Program} {X0 : Cx} {T0 : Tab} {w0 : World} {X : Cx} {lam : Nat -> Nat} {env : Env} {L : Loc} {T : Tab} {a : Act} {w w' : World}
theorem qht (w : World) (row : Option Nat) : w.grownBy w.drew row := ⟨rfl, rfl, rfl, Nat.le_refl _, fun _ _ _ => rfl⟩
theorem qnn {w w1 w2 : World} {row : Option Nat} (h : w.grownBy w1 row) (k : w1.grownBy w2 row) : w.grownBy w2 row :=
 ⟨k.os.trans h.os, k.tape.trans h.tape, k.output.trans h.output, Nat.le_trans h.size k.size, fun b hb hne => (k.block b (Nat.lt_of_lt_of_le hb h.size) hne).trans (h.block b hb hne)⟩
theorem q9n (w : World) (g : Nat) (cs : Array Value) : w.grownBy (w.setRow g cs) (some g) :=
 ⟨rfl, rfl, rfl, by simp, fun k _ hk => setRow_other w g k cs (fun e => hk (by rw [e]))⟩
theorem SR.fzKept_grow (h : SR X0 T0 w0 X lam env L T a w) (hg : w.grownBy w' none) : q5e X w w' := fun b hf => hg.block b (h.rel.fzlt b hf) (by simp)
theorem SR.allocLoc (h : SR X0 T0 w0 X lam env L T a w) (l : Nat) {cells : List AV} {us : List Value} (e : TypeId) (hv : vrs X w cells us) (h1 : ∀ u ∈ us, u.oneCell' = true) :
  SR X0 T0 w0 X (fun j => if j = l then w.heap.size else lam j) (q1u env l) (q96 L l cells) T a (w.alloc (.cells us.toArray e)) := by
 have hg := World.grownBy_alloc w (.cells us.toArray e) none
 exact h.newLoc l hg (Nat.le_refl _) ⟨e, us, heap_alloc_new w _, vrs.mono (.refl X) (h.fzKept_grow hg) _ _ hv, h1⟩
theorem SR.allocRow (h : SR X0 T0 w0 X lam env L T a w) (esz : Nat) {cells : List AV} {us : List Value} (e : TypeId) (hv : vrs X w cells us) (h1 : ∀ u ∈ us, u.oneCell' = true) :
  SR X0 T0 w0 (X.addRow ⟨w.heap.size, 0, cells.length, esz⟩) lam env L (T.put X.N (.row esz cells)) a (w.alloc (.cells us.toArray e)) := by
 have hg := World.grownBy_alloc w (.cells us.toArray e) none
 have h' := h.grow hg
 have hlen := hv.length
 refine h'.addRow ⟨w.heap.size, 0, cells.length, esz⟩ (fun h0 => absurd h.step.size (by simp only at h0; omega)) (fun hf => ?_) (fun hl => ?_) (fun l c hc e => ?_) ⟨us.toArray, e, us, heap_alloc_new w _, vrs.mono (.refl X) (h.fzKept_grow hg) _ _ hv, h1, fun j u hu => ?_, by simp, by simp [hlen]⟩
 ·exact Nat.lt_irrefl _ (h.rel.fzlt _ hf)
 ·exact Nat.lt_irrefl _ (h.rel.live_lt hl)
 ·have := h.rel.loc_lt hc; simp only at e; omega
 ·simpa using hu
theorem SR.allocFz (h : SR X0 T0 w0 X lam env L T a w) (hg : w.grownBy w' none) {b : Nat} (hb : w.heap.size <= b) (hb' : b < w'.heap.size) :
  SR X0 T0 w0 (X.addFz b) lam env L T a w' := by
 have h' := h.grow hg
 have h0 := h.step.size
 refine h'.addFz hb' (by omega) (fun hl => ?_) (fun l c hc e => ?_)
 ·have := h.rel.live_lt hl; omega
 ·have := h.rel.loc_lt hc; omega
def q07 (cells : List AV) (o : Nat) (xs : List AV) : List AV := cells.take o ++ xs ++ cells.drop (o + xs.length)
theorem qm8 {cells : List AV} {o : Nat} {xs : List AV} (h : o + xs.length <= cells.length) : (q07 cells o xs).length = cells.length := by
 simp [q07]; omega
theorem vrs.stCells {cells xs : List AV} {us vs : List Value} (h : vrs X w cells us) (k : vrs X w xs vs) (o : Nat) : vrs X w (Aw.q07 cells o xs) (us.take o ++ vs ++ us.drop (o + vs.length)) := by
 unfold Aw.q07
 rw [<- k.length]
 exact ((h.take o).append k).append (h.drop _)
theorem SR.storeLoc (h : SR X0 T0 w0 X lam env L T a w) {l o : Nat} {cells xs : List AV} {vs : List Value} (hl : q10 L l = some cells) (ho : o + xs.length <= cells.length) (hv : vrs X w xs vs) (h1 : ∀ u ∈ vs, u.oneCell' = true) :
  ∃ w', (storeCells ⟨lam l, o, none⟩ vs).run P w = .ok () w' /\ SR X0 T0 w0 X lam env (q96 L l (q07 cells o xs)) T a w' := by
 obtain ⟨e, us, h2, h3, h4⟩ := h.rel.loc l cells hl
 have e1 := h3.length
 have e2 := hv.length
 have hr := run_storeCells_at P (lam l) o e vs 0 us.toArray w h2 (by simp; omega) h1
 simp only [Nat.add_zero] at hr
 refine ⟨_, hr, ?_⟩
 have hg := q9n w (lam l) (us.toArray.toList.take o ++ vs ++ us.toArray.toList.drop (o + vs.length)).toArray
 refine h.setLoc hl hg ⟨e, us.take o ++ vs ++ us.drop (o + vs.length), by simpa using setRow_heap w (lam l) us.toArray _ e (0, 0) h2, ?_, fun u hu => ?_⟩
 ·exact vrs.mono (.refl X) (fun b hf => hg.block b (h.rel.fzlt b hf) (fun e => by injection e with e; subst e; exact h.rel.loc_fz l cells hl hf)) _ _ (h3.stCells hv o)
 ·simp only [List.mem_append] at hu
  rcases hu with (hu | hu) | hu
  ·exact h4 u (List.mem_of_mem_take hu)
  ·exact h1 u hu
  ·exact h4 u (List.mem_of_mem_drop hu)
theorem getElem?_splice {α : Type} (cur vs : List α) (o : Nat) (ho : o + vs.length <= cur.length) (j : Nat) :
  (cur.take o ++ vs ++ cur.drop (o + vs.length))[j]? = if j < o then cur[j]? else if j < o + vs.length then vs[j - o]? else cur[j]? := by
 have hl : (cur.take o).length = o := by rw [List.length_take]; omega
 by_cases h1 : j < o
 ·rw [if_pos h1, List.append_assoc, List.getElem?_append_left (by omega), List.getElem?_take, if_pos h1]
 ·rw [if_neg h1]
  by_cases h2 : j < o + vs.length
  ·rw [if_pos h2, List.append_assoc, List.getElem?_append_right (by omega), hl, List.getElem?_append_left (by omega)]
  ·rw [if_neg h2, List.getElem?_append_right (by simp; omega), List.getElem?_drop]
   congr 1
   simp; omega
theorem SR.storeRow (h : SR X0 T0 w0 X lam env L T a w) {id esz o : Nat} {cells xs : List AV} {vs : List Value} (hl : T id = .row esz cells) (ho : o + xs.length <= cells.length) (hv : vrs X w xs vs) (h1 : ∀ u ∈ vs, u.oneCell' = true) :
  ∃ w', (storeCells ⟨(X.β id).blk, (X.β id).base + o, none⟩ vs).run P w = .ok () w' /\ SR X0 T0 w0 X lam env L (T.put id (.row esz (q07 cells o xs))) a w' := by
 obtain ⟨cur, e, us, h2, h3, h4, h5, h6, h7, h8⟩ := h.rel.row id esz cells hl
 have hid : T id ≠ .unused := by simp [hl]
 have e1 := h3.length
 have e2 := hv.length
 have hr := run_storeCells_at P (X.β id).blk ((X.β id).base + o) e vs 0 cur w h2 (by omega) h1
 simp only [Nat.add_zero] at hr
 refine ⟨_, hr, ?_⟩
 have hg := q9n w (X.β id).blk (cur.toList.take ((X.β id).base + o) ++ vs ++ cur.toList.drop ((X.β id).base + o + vs.length)).toArray
 have hlc : (X.β id).base + o + vs.length <= cur.toList.length := by simp; omega
 refine h.setRow hid hg ⟨_, e, us.take o ++ vs ++ us.drop (o + vs.length), setRow_heap w (X.β id).blk cur _ e (0, 0) h2, ?_, fun u hu => ?_, fun j u hu => ?_, ?_, ?_, h8⟩
 ·exact vrs.mono (.refl X) (h.rel.fzKept_row hid hg) _ _ (h3.stCells hv o)
 ·simp only [List.mem_append] at hu
  rcases hu with (hu | hu) | hu
  ·exact h4 u (List.mem_of_mem_take hu)
  ·exact h1 u hu
  ·exact h4 u (List.mem_of_mem_drop hu)
 ·rw [getElem?_splice us vs o (by omega)] at hu
  rw [List.getElem?_toArray, getElem?_splice cur.toList vs _ hlc]
  by_cases c1 : j < o
  ·rw [if_pos c1] at hu
   rw [if_pos (by omega)]
   simpa using h5 j u hu
  ·rw [if_neg c1] at hu
   rw [if_neg (by omega)]
   by_cases c2 : j < o + vs.length
   ·rw [if_pos c2] at hu
    rw [if_pos (by omega), show (X.β id).base + j - ((X.β id).base + o) = j - o by omega]
    exact hu
   ·rw [if_neg c2] at hu
    rw [if_neg (by omega)]
    simpa using h5 j u hu
 ·rw [qm8 ho]; exact h6
 ·simp; omega
def Z4 (T : Tab) (esz : Nat) : AV -> Option (List AV)
 | .fz n cells _ => if cells.length = n * esz then some cells else none
 | .sl id o n _ => match T id with
  | .row z cells => if z = esz /\ o + n * esz <= cells.length then some ((cells.drop o).take (n * esz)) else none
  | _ => none
 | .s l => if esz = 1 then some (l.map fun b => .i .u8 b.toNat) else none
 | _ => none
def q0a : AV -> Nat
 | .fz n _ _ => n
 | .sl _ _ n _ => n
 | .s l => l.length
 | _ => 0
theorem qjv : ∀ l : List UInt8, vrs X w (l.map fun b => .i .u8 b.toNat) (l.map fun b => .int .u8 b.toNat)
 | [] => rfl
 | b :: l => ⟨_, _, rfl, by simp [vr], qjv l⟩
theorem q3w {L : Loc} (hr : Rel X T L lam w) {esz : Nat} {x : AV} {u : Value} {cells : List AV} (hx : vr X w x u) (h : Z4 T esz x = some cells) (hw : w.heap = w'.heap) :
  ∃ us, vrs X w cells us /\ (∀ v ∈ us, v.oneCell' = true) /\ us.length = q0a x * esz /\ (Builtin.firstCells esz (q0a x) u).run P w' = .ok us.toArray w' /\ (Builtin.lenOf u).run P w' = .ok (q0a x) w' := by
 have hc : ∀ ad, w'.cell? ad = w.cell? ad := fun ad => by simp [World.cell?, hw]
 cases x <;> simp only [Z4] at h <;> first
  | (cases h; done)
  | skip
 ·rename_i l
  split at h
  ·rename_i he
   subst he
   injection h with h; subst h
   simp only [vr] at hx
   subst hx
   refine ⟨_, qjv l, by simp [Value.oneCell'], by simp [q0a], ?_, by simp [Builtin.lenOf, q0a, ByteArray.size]⟩
   have hs : (⟨l.toArray⟩ : ByteArray).extract 0 l.length = ⟨l.toArray⟩ := by
    apply ByteArray.ext
    rw [ByteArray.data_extract]
    apply Array.ext'
    simp
   simp [Builtin.firstCells, q0a, hs]
  ·cases h
 ·rename_i n cs cap
  split at h
  ·rename_i he
   injection h with h; subst h
   simp only [vr] at hx
   obtain ⟨us, h1, hf⟩ := hx
   have hl := h1.length
   rcases hf with ⟨rfl, rfl, rfl, _⟩ | ⟨ad, c, rfl, h2, h3, h4, h5⟩
   ·exact ⟨[], h1, by simp, by simp [q0a], by simp [Builtin.firstCells], by simp [Builtin.lenOf, q0a]⟩
   ·refine ⟨us, h1, ?_, by simp [q0a, hl, he], ?_, by simp [Builtin.lenOf, q0a]⟩
    ·rcases h5 with rfl | ⟨_, h6, _⟩
     ·simp
     ·exact h6
    ·refine run_firstCells_some w' esz n ad n c us (by rw [hl, he]) fun j v hv => ?_
     have h2 : ad.spot = none := h2.resolve_left fun e => by subst e; simp at hv
     rw [qdc h2, Addr.add_none, hc]
     rcases h5 with rfl | ⟨_, _, h6⟩
     ·simp at hv
     ·exact h6 j v hv
  ·cases h
 ·rename_i id o n cap
  split at h
  ·rename_i z cs hT
   split at h
   ·rename_i he
    injection h with h; subst h
    simp only [vr] at hx
    obtain ⟨_, c, rfl, h3, h4, h5, h6⟩ := hx
    obtain ⟨us, h7, h8, h9⟩ := (hr.row id z cs hT).lies
    have hl := h7.length
    have hlen : ((us.drop o).take (n * esz)).length = n * esz := by rw [List.length_take, List.length_drop]; omega
    refine ⟨(us.drop o).take (n * esz), (h7.drop o).take _, fun v hv => h8 v (List.mem_of_mem_drop (List.mem_of_mem_take hv)), by rw [hlen]; rfl, ?_, by simp [Builtin.lenOf, q0a]⟩
    refine run_firstCells_some w' esz n _ n c _ hlen fun j v hv => ?_
    rw [Addr.add_none, hc]
    exact (h9.part o (n * esz)).cell hv
   ·cases h
  ·cases h
end
end Go.Aw
namespace Go.Aw
open Go
set_option linter.all false
variable [Glob]
structure AppT (P : Program) (t tx : TypeId) (esz bytes : Nat) : Prop where
 ok : ∃ e i z d, P.underlying t = some (.slice e) /\ P.info? e = some i /\ i.size = esz /\ i.bytes = bytes /\ i.zero = some z /\ z.cells.size = esz /\ 0 < esz /\
  P.underlying tx = some d /\ (∀ k, d ≠ .int k)
section
variable {P : Program} {X0 : Cx} {T0 : Tab} {w0 : World} {X : Cx} {lam : Nat -> Nat} {env : Env} {L : Loc} {T : Tab} {a : Act} {w w' : World}
theorem qau {t tx ty e : TypeId} {i : TypeInfo} {d : TypeDesc} (ht : P.underlying t = some (.slice e)) (hi : P.info? e = some i) (hd : P.underlying tx = some d) (hk : ∀ k, d ≠ .int k)
  {ad : Addr} {sLen sCap n : Nat} {x : Value} {news : List Value} (hlen : (Builtin.lenOf x).run P w = .ok n w) (hf : (Builtin.firstCells i.size n x).run P w = .ok news.toArray w)
  (hst : (storeCells (ad.add (sLen * i.size)) news).run P w = .ok () w') (hc : sLen + n <= sCap) :
  (Builtin.append_ #[t, tx] ty #[.slice (some ad) sLen sCap, x]).run P w = .ok (.slice (some ad) (sLen + n) sCap) w' := by
 have hstA : (storeCells (ad.add (sLen * i.size)) news.toArray.toList).run P w = .ok () w' := hst
 simp only [Builtin.append_]
 simp [run_underlying ht, run_underlying hd, sizeOf, typeInfo, hi, hlen, hc, hf, hst]
theorem qjw {t tx ty e : TypeId} {i : TypeInfo} {d : TypeDesc} (ht : P.underlying t = some (.slice e)) (hi : P.info? e = some i) (hd : P.underlying tx = some d) (hk : ∀ k, d ≠ .int k)
  {x : Value} (hlen : (Builtin.lenOf x).run P w = .ok 0 w) (hf : (Builtin.firstCells i.size 0 x).run P w = .ok #[] w) :
  (Builtin.append_ #[t, tx] ty #[.slice none 0 0, x]).run P w = .ok (.slice none 0 0) w := by
 simp only [Builtin.append_]
 simp [run_underlying ht, run_underlying hd, sizeOf, typeInfo, hi, hlen, hf]
theorem qe8 {t tx ty e : TypeId} {i : TypeInfo} {z : Value} {d : TypeDesc} (ht : P.underlying t = some (.slice e)) (hi : P.info? e = some i) (hzr : i.zero = some z) (hd : P.underlying tx = some d) (hk : ∀ k, d ≠ .int k)
  {base : Option Addr} {sLen sCap n : Nat} {x : Value} {olds news : List Value} (hlen : (Builtin.lenOf x).run P w = .ok n w)
  (hfo : (Builtin.firstCells i.size sLen (.slice base sLen sCap)).run P w.drew = .ok olds.toArray w.drew) (hf : (Builtin.firstCells i.size n x).run P w.drew = .ok news.toArray w.drew)
  (hc : sCap < sLen + n) (h63 : ((sLen + n : Nat) : Int) <= 9223372036854775807) (hfit : (sLen + n) * i.bytes <= 140737488355328) :
  (Builtin.append_ #[t, tx] ty #[.slice base sLen sCap, x]).run P w =
   .ok (.slice (some ⟨w.heap.size, 0, none⟩) (sLen + n) (grownCap w (sLen + n) sCap e))
    (w.drew.alloc (.cells (olds ++ news ++ (Builtin.zeroCells z.cells (grownCap w (sLen + n) sCap e - (sLen + n))).toList).toArray e)) := by
 have hn : ¬ (sLen + n <= sCap) := by omega
 have h63' : ¬ (9223372036854775807 < ((sLen : Int) + (n : Int))) := by omega
 have h48 := growslice_fits (by omega : sCap < sLen + n) hfit
 have h48' : ¬ (281474976710656 < Builtin.nextslicecap (sLen + n) sCap * i.bytes) := by omega
 simp only [Builtin.append_]
 simp [run_underlying ht, run_underlying hd, sizeOf, typeInfo, zeroValue, hi, hzr, hlen, hn, h63', h48', Question.forced, hf, hfo, newRow, grownCap]
 congr 2
 apply Array.ext'
 simp
def q1k (esz bytes : Nat) (T : Tab) (x y : AV) (K : AV -> Tab -> Prop) : Prop :=
 match Z4 T esz y with
 | none => False
 | some news =>
  match x with
  | .fz n cells cap =>
   if q0a y = 0 then K x T else
   match cap with
   | some c => cells.length = n * esz /\ c < n + q0a y /\ (n + q0a y) * bytes <= 140737488355328 /\ n + q0a y <= 9223372036854775807 /\
     ∀ id, T id = .unused -> K (.sl id 0 (n + q0a y) none) (T.put id (.row esz (cells ++ news)))
   | none => False
  | .sl id o n cap =>
   match T id with
   | .row z cells =>
    z = esz /\ match cap with
    | none =>
     if o + n * esz = cells.length then (n + q0a y) * bytes <= 140737488355328 /\ n + q0a y <= 9223372036854775807 /\
      ∀ id', T id' = .unused -> K (.sl id' 0 (n + q0a y) none) ((T.put id .unused).put id' (.row esz (cells.drop o ++ news)))
     else o + (n + q0a y) * esz <= cells.length /\ K (.sl id o (n + q0a y) none) (T.put id (.row esz (q07 cells (o + n * esz) news)))
    | some c =>
     if c < n + q0a y then o + n * esz <= cells.length /\ (n + q0a y) * bytes <= 140737488355328 /\ n + q0a y <= 9223372036854775807 /\
      ∀ id', T id' = .unused -> K (.sl id' 0 (n + q0a y) none) (T.put id' (.row esz ((cells.drop o).take (n * esz) ++ news)))
     else o + (n + q0a y) * esz <= cells.length /\ K (.sl id o (n + q0a y) (some c)) (T.put id (.row esz (q07 cells (o + n * esz) news)))
   | _ => False
  | _ => False
theorem qwz {T : Tab} {id id' : Nat} (h : T id ≠ .unused) (h' : T id' = .unused) : id' ≠ id := fun e => h (e ▸ h')
theorem SR.grown (h : SR X0 T0 w0 X lam env L T a w) {olds news : List Value} {cells xs : List AV} {e : TypeId} {z : Value} {esz need cap : Nat} (ho : vrs X w cells olds) (hn : vrs X w xs news)
  (h1 : ∀ u ∈ olds, u.oneCell' = true) (h2 : ∀ u ∈ news, u.oneCell' = true) (hz : z.cells.size = esz) (hl : (cells ++ xs).length = need * esz) (hcap : need <= cap) :
  SR X0 T0 w0 (X.addRow ⟨w.heap.size, 0, cap * esz, esz⟩) lam env L (T.put X.N (.row esz (cells ++ xs))) a (w.drew.alloc (.cells (olds ++ news ++ (Builtin.zeroCells z.cells (cap - need)).toList).toArray e)) /\
  vr (X.addRow ⟨w.heap.size, 0, cap * esz, esz⟩) (w.drew.alloc (.cells (olds ++ news ++ (Builtin.zeroCells z.cells (cap - need)).toList).toArray e)) (.sl X.N 0 need none) (.slice (some ⟨w.heap.size, 0, none⟩) need cap) := by
 have hg : w.grownBy (w.drew.alloc (.cells (olds ++ news ++ (Builtin.zeroCells z.cells (cap - need)).toList).toArray e)) none :=
  qnn (qht w none) (World.grownBy_alloc w.drew _ none)
 have h' := h.grow hg
 have hb : w.drew.heap.size = w.heap.size := rfl
 have e1 := (ho.append hn).length
 have hsz : (olds ++ news ++ (Builtin.zeroCells z.cells (cap - need)).toList).toArray.size = cap * esz := by
  rw [List.size_toArray, List.length_append, e1, hl, Array.length_toList, size_zeroCells, hz, <- Nat.add_mul]
  congr 1; omega
 refine ⟨?_, ?_⟩
 ·have hnew := heap_alloc_new w.drew (.cells (olds ++ news ++ (Builtin.zeroCells z.cells (cap - need)).toList).toArray e)
  refine h'.addRow ⟨w.heap.size, 0, cap * esz, esz⟩ (fun h0 => absurd h.step.size (by simp only at h0; omega)) (fun hf => ?_) (fun hl => ?_) (fun l c hc e => ?_) ⟨_, e, olds ++ news, hnew, vrs.mono (.refl X) (h.fzKept_grow hg) _ _ (ho.append hn), fun u hu => ?_, fun j u hu => ?_, ?_, ?_⟩
  ·exact Nat.lt_irrefl _ (h.rel.fzlt _ hf)
  ·exact Nat.lt_irrefl _ (h.rel.live_lt hl)
  ·have := h.rel.loc_lt hc; simp only at e; omega
  ·rcases List.mem_append.1 hu with hu | hu
   ·exact h1 u hu
   ·exact h2 u hu
  ·rw [List.getElem?_toArray, Nat.zero_add, List.getElem?_append_left (List.getElem?_eq_some_iff.1 hu).1]
   exact hu
  ·rw [Nat.zero_add, hl]; exact Nat.mul_le_mul_right _ hcap
  ·rw [hsz]; exact Nat.le_refl _
 ·simp only [vr, Cx.addRow, if_true]
  exact ⟨by omega, cap, by simp, hcap, (fun k hk => by cases hk), (by simp), (fun _ => by simp)⟩
theorem qx0 (h : SR X0 T0 w0 X lam env L T a w) {t tx ty : TypeId} {esz bytes : Nat} (ht : AppT P t tx esz bytes) {x y : AV} {u v : Value} (hx : vr X w x u) (hy : vr X w y v) {K : AV -> Tab -> Prop}
  (H : q1k esz bytes T x y K) : ∃ q w' X' T' r, (Builtin.append_ #[t, tx] ty #[u, v]).run P w = .ok q w' /\ K r T' /\ SR X0 T0 w0 X' lam env L T' a w' /\ vr X' w' r q := by
 obtain ⟨e, i, z, d, t1, t2, t3, t4, t5, t6, t7, t8, t9⟩ := ht.ok
 subst t3; subst t4
 unfold q1k at H
 cases hs : Z4 T i.size y with
 | none => simp [hs] at H
 | some news =>
 simp only [hs] at H
 obtain ⟨nv, n1, n2, n3, n4, n5⟩ := q3w (P := P) (w' := w) h.rel hy hs rfl
 obtain ⟨nv', n1', n2', n3', n4', _⟩ := q3w (P := P) (w' := w.drew) h.rel hy hs rfl
 have hnl : news.length = q0a y * i.size := by rw [<- n1.length, n3]
 cases x <;> simp only at H <;> first
  | (exact H.elim)
  | skip
 ·rename_i n cells cap
  by_cases hm : q0a y = 0
  ·rw [if_pos hm] at H
   rw [hm] at n4 n5
   have hnv : nv = [] := List.eq_nil_of_length_eq_zero (by rw [n3, hm, Nat.zero_mul])
   subst hnv
   have hx0 := hx
   simp only [vr] at hx
   obtain ⟨us, h1, hf⟩ := hx
   rcases hf with ⟨rfl, rfl, rfl, h4⟩ | ⟨ad, c, rfl, h2, h3, h4, h5⟩
   ·exact ⟨_, w, X, T, _, qjw t1 t2 t8 t9 n5 n4, H, h, hx0⟩
   ·have := qau (ty := ty) (ad := ad) (sLen := n) (sCap := c) t1 t2 t8 t9 n5 n4 (w' := w) rfl (by omega)
    exact ⟨_, w, X, T, _, this, H, h, hx0⟩
  ·rw [if_neg hm] at H
   cases cap with
   | none => exact H.elim
   | some c =>
   obtain ⟨g1, g2, g3, g4, g5⟩ := H
   have hsx : Z4 T i.size (.fz n cells (some c)) = some cells := by simp [Z4, g1]
   obtain ⟨ov, o1, o2, o3, o4, _⟩ := q3w (P := P) (w' := w.drew) h.rel hx hsx rfl
   have hu : ∃ base, u = .slice base n c := by
    simp only [vr] at hx
    obtain ⟨us, h1, hf⟩ := hx
    rcases hf with ⟨rfl, rfl, rfl, h4⟩ | ⟨ad, c', rfl, h2, h3, h4, h5⟩
    ·exact ⟨none, by rw [h4 c rfl]⟩
    ·exact ⟨some ad, by rw [h4 c rfl]⟩
   obtain ⟨base, rfl⟩ := hu
   have hr := qe8 (ty := ty) (sLen := n) (sCap := c) t1 t2 t5 t8 t9 n5 o4 n4' g2 (by omega) g3
   have hg := h.grown (e := e) (z := z) (esz := i.size) (need := n + q0a y) (cap := grownCap w (n + q0a y) c e) o1 n1' o2 n2' t6 (by rw [List.length_append, g1, hnl, Nat.add_mul]) (grownCap_ge w _ c e)
   exact ⟨_, _, _, _, _, hr, g5 X.N (h.rel.fresh _ (Nat.le_refl _)), hg.1, hg.2⟩
 ·rename_i id o n cap
  cases hT : T id with
  | unused => simp [hT] at H
  | mapo es => simp [hT] at H
  | row zz cells =>
  simp only [hT] at H
  obtain ⟨hzz, H⟩ := H
  subst hzz
  have hid : T id ≠ .unused := by simp [hT]
  have hx0 := hx
  simp only [vr] at hx
  obtain ⟨b1, c, rfl, b2, b3, b4, b5⟩ := hx
  obtain ⟨cur, e', us, r1, r2, r3, r4, r5, r6, r7⟩ := h.rel.row id i.size cells hT
  rw [r7] at b4 b5
  have e2 := r2.length
  have GROW : ∀ (olds : List Value) (oc : List AV) , Z4 T i.size (.sl id o n cap) = some oc -> c < n + q0a y -> (n + q0a y) * i.bytes <= 140737488355328 -> n + q0a y <= 9223372036854775807 ->
    ∃ q w' X', (Builtin.append_ #[t, tx] ty #[.slice (some ⟨(X.β id).blk, (X.β id).base + o, none⟩) n c, v]).run P w = .ok q w' /\
     SR X0 T0 w0 X' lam env L (T.put X.N (.row i.size (oc ++ news))) a w' /\ vr X' w' (.sl X.N 0 (n + q0a y) none) q := by
   intro _ oc hsx g2 g3 g4
   obtain ⟨ov, o1, o2, o3, o4, _⟩ := q3w (P := P) (w' := w.drew) h.rel hx0 hsx rfl
   have hr := qe8 (ty := ty) (sLen := n) (sCap := c) t1 t2 t5 t8 t9 n5 o4 n4' g2 (by omega) g3
   have hg := h.grown (e := e) (z := z) (esz := i.size) (need := n + q0a y) (cap := grownCap w (n + q0a y) c e) o1 n1' o2 n2' t6 (by rw [List.length_append, <- o1.length, o3, hnl, Nat.add_mul]; rfl) (grownCap_ge w _ c e)
   exact ⟨_, _, _, hr, hg.1, hg.2⟩
  have IN : o + (n + q0a y) * i.size <= cells.length -> n + q0a y <= c ->
    ∃ q w', (Builtin.append_ #[t, tx] ty #[.slice (some ⟨(X.β id).blk, (X.β id).base + o, none⟩) n c, v]).run P w = .ok q w' /\
     SR X0 T0 w0 X lam env L (T.put id (.row i.size (q07 cells (o + n * i.size) news))) a w' /\ vr X w' (.sl id o (n + q0a y) cap) q := by
   intro g1 g2
   rw [Nat.add_mul] at g1
   obtain ⟨w', hst, hsr⟩ := h.storeRow (P := P) hT (o := o + n * i.size) (by omega) n1 n2
   have := qau (ty := ty) (ad := ⟨(X.β id).blk, (X.β id).base + o, none⟩) (sLen := n) (sCap := c) t1 t2 t8 t9 n5 n4 (w' := w') (by rw [Addr.add_none, Nat.add_assoc]; exact hst) g2
   refine ⟨_, w', this, hsr, ?_⟩
   simp only [vr, r7]
   exact ⟨b1, c, rfl, g2, b3, b4, b5⟩
  cases cap with
  | none =>
   simp only at H
   have b5 := b5 rfl
   split at H
   ·rename_i hend
    obtain ⟨g3, g4, g5⟩ := H
    have hfresh := h.rel.fresh X.N (Nat.le_refl _)
    by_cases hc : n + q0a y <= c
    ·-- in place, behind the known cells
     have hadd : (X.β id).base + o + n * i.size = (X.β id).base + cells.length := by omega
     have hfit : (X.β id).base + cells.length + nv.length <= cur.size := by
      rw [n3]
      have : (n + q0a y) * i.size <= c * i.size := Nat.mul_le_mul_right _ hc
      rw [Nat.add_mul] at this
      omega
     have hst := run_storeCells_at P (X.β id).blk ((X.β id).base + cells.length) e' nv 0 cur w r1 (by omega) n2
     simp only [Nat.add_zero] at hst
     have hrun := qau (ty := ty) (ad := ⟨(X.β id).blk, (X.β id).base + o, none⟩) (sLen := n) (sCap := c) t1 t2 t8 t9 n5 n4 (by rw [Addr.add_none, hadd]; exact hst) hc
     have hg := q9n w (X.β id).blk (cur.toList.take ((X.β id).base + cells.length) ++ nv ++ cur.toList.drop ((X.β id).base + cells.length + nv.length)).toArray
     have hk := h.rel.fzKept_row hid hg
     have hheap := setRow_heap w (X.β id).blk cur (cur.toList.take ((X.β id).base + cells.length) ++ nv ++ cur.toList.drop ((X.β id).base + cells.length + nv.length)).toArray e' (0, 0) r1
     have hspl := getElem?_splice cur.toList nv ((X.β id).base + cells.length) (by simpa using hfit)
     have hsize : (cur.toList.take ((X.β id).base + cells.length) ++ nv ++ cur.toList.drop ((X.β id).base + cells.length + nv.length)).length = cur.size := by
      simp; omega
     have s1 : SR X0 T0 w0 X lam env L (T.put id (.row i.size cells)) a _ := h.setRow hid hg ⟨_, e', us, hheap, vrs.mono (.refl X) hk _ _ r2, r3, fun j u hu => by
      rw [List.getElem?_toArray, hspl, if_pos (by have := (List.getElem?_eq_some_iff.1 hu).1; omega)]
      simpa using r4 j u hu, r5, by rw [List.size_toArray, hsize]; exact r6, r7⟩
     have s2 := s1.delRow id
     have hTT : (T.put id (.row i.size cells)).put id .unused = T.put id .unused := by funext j; simp [Tab.put]; split <;> rfl
     rw [hTT] at s2
     have s3 := s2.addRow ⟨(X.β id).blk, (X.β id).base + o, (X.β id).lim, i.size⟩ (cells := cells.drop o ++ news) ?_ ?_ ?_ ?_
      ⟨_, e', us.drop o ++ nv, hheap, vrs.mono (.refl X) hk _ _ ((r2.drop o).append n1), fun u hu => ?_, fun j u hu => ?_, ?_, by rw [List.size_toArray, hsize]; exact r6⟩
     ·refine ⟨_, _, _, _, _, hrun, g5 X.N hfresh, s3, ?_⟩
      simp only [vr, Cx.addRow, if_true, Nat.add_zero]
      exact ⟨by omega, c, rfl, hc, (fun k hk => by cases hk), (by omega), (fun _ => by omega)⟩
     ·exact fun h0 => h.step.livenew _ h0 ⟨id, hid, rfl⟩
     ·exact h.rel.live_fz id hid
     ·rintro ⟨j, hj, hjb⟩
      by_cases ej : j = id
      ·subst ej; rw [Tab.put_same] at hj; exact hj rfl
      ·rw [Tab.put_ne _ _ ej] at hj
       exact ej (h.rel.live_inj j id hj hid hjb)
     ·intro l cc hcc hl
      exact h.rel.loc_live l cc hcc ⟨id, hid, hl.symm⟩
     ·rcases List.mem_append.1 hu with hu | hu
      ·exact r3 u (List.mem_of_mem_drop hu)
      ·exact n2 u hu
     ·have hdl : (us.drop o).length = us.length - o := List.length_drop
      have hoc : o <= cells.length := by omega
      simp only
      rw [List.getElem?_toArray, hspl]
      by_cases hj : j < us.length - o
      ·rw [List.getElem?_append_left (by omega), List.getElem?_drop] at hu
       rw [if_pos (by omega), Nat.add_assoc]
       simpa using r4 _ u hu
      ·rw [List.getElem?_append_right (by omega), hdl] at hu
       have := (List.getElem?_eq_some_iff.1 hu).1
       rw [if_neg (by omega), if_pos (by omega), <- hu]
       congr 1
       omega
     ·simp only [List.length_append, List.length_drop]
      rw [hnl]
      have : (n + q0a y) * i.size <= c * i.size := Nat.mul_le_mul_right _ hc
      rw [Nat.add_mul] at this
      omega
    ·have hsx : Z4 T i.size (.sl id o n none) = some (cells.drop o) := by
      simp only [Z4, hT, hend, Nat.le_refl, and_self, if_true]
      rw [List.take_of_length_le (by rw [List.length_drop]; omega)]
     obtain ⟨q, w', X', hr, hsr, hv⟩ := GROW [] _ hsx (by omega) g3 g4
     have s2 := hsr.delRow id
     have hne : X.N ≠ id := qwz hid hfresh
     have hTT : (T.put X.N (.row i.size (cells.drop o ++ news))).put id .unused = (T.put id .unused).put X.N (.row i.size (cells.drop o ++ news)) := by
      funext j; simp only [Tab.put]; split
      ·rename_i e; subst e; rw [if_neg (Ne.symm hne)]
      ·rfl
     rw [hTT] at s2
     exact ⟨q, w', X', _, _, hr, g5 X.N hfresh, s2, hv⟩
   ·obtain ⟨g1, g2⟩ := H
    have hc : n + q0a y <= c := by
     have : (n + q0a y) * i.size <= c * i.size := by omega
     exact Nat.le_of_mul_le_mul_right this t7
    obtain ⟨q, w', hr, hsr, hv⟩ := IN g1 hc
    exact ⟨q, w', X, _, _, hr, g2, hsr, hv⟩
  | some cc =>
   have hcc := b3 cc rfl
   subst hcc
   simp only at H
   split at H
   ·rename_i hlt
    obtain ⟨g1, g3, g4, g5⟩ := H
    have hsx : Z4 T i.size (.sl id o n (some c)) = some ((cells.drop o).take (n * i.size)) := by
     simp only [Z4, hT, g1, and_self, if_true]
    obtain ⟨q, w', X', hr, hsr, hv⟩ := GROW [] _ hsx hlt g3 g4
    exact ⟨q, w', X', _, _, hr, g5 X.N (h.rel.fresh _ (Nat.le_refl _)), hsr, hv⟩
   ·rename_i hlt
    obtain ⟨g1, g2⟩ := H
    obtain ⟨q, w', hr, hsr, hv⟩ := IN g1 (by omega)
    exact ⟨q, w', X, _, _, hr, g2, hsr, hv⟩
end
end Go.Aw
namespace Go.Aw
open Go
variable [Glob]
set_option linter.all false
section
variable {P : Program} {X0 : Cx} {T0 : Tab} {w0 : World} {X : Cx} {lam : Nat -> Nat} {env : Env} {L : Loc} {T : Tab} {a : Act} {w w' : World}
theorem SR.addMap (h : SR X0 T0 w0 X lam env L T a w) (k : Blk) {clock : Nat} (h0 : k.blk < w0.heap.size -> qfl X0 T0 k.blk) (hf : ¬ X.fz k.blk)
  (hl : ¬ qfl X T k.blk) (hloc : ∀ l c, q10 L l = some c -> lam l ≠ k.blk) (hmap : w.heap[k.blk]? = some (.map #[] clock)) :
  SR X0 T0 w0 (X.addRow k) lam env L (T.put X.N (.mapo [])) a w := by
 have hk : q5e X w w := fun _ _ => rfl
 have hx := X.le_addRow k
 have hN : (X.addRow k).β X.N = k := by simp [Cx.addRow]
 have hold : ∀ id, T id ≠ .unused -> (X.addRow k).β id = X.β id := fun id hid => by simp [Cx.addRow, Nat.ne_of_lt (h.rel.id_lt hid)]
 refine ⟨⟨fun id hid => ?_, h.rel.fzlt, fun id esz cs hT => ?_, fun id es hT => ?_, fun id hid => ?_, fun id id' h1 h2 h3 => ?_, fun l c hc => ?_, h.rel.loc_fz, h.rel.loc_inj, fun l c hc hlv => ?_, (by first | exact h.rel.glob | exact q19 hx hk h.rel.glob | exact q19 (Cx.Le.refl _) hk h.rel.glob)⟩,
  ⟨h.step.le.trans hx, h.step.os, h.step.tape, h.step.output, h.step.size, h.step.kept, h.step.fznew, fun c hc hlv => ?_, fun id hid hT => ?_⟩, h.locnew, fun s x hs => ?_, h.defers⟩
 ·have : X.N + 1 <= id := hid
  rw [Tab.put_ne _ _ (by omega)]
  exact h.rel.fresh id (by omega)
 ·by_cases e : id = X.N
  ·subst e; rw [Tab.put_same] at hT; cases hT
  ·rw [Tab.put_ne _ _ e] at hT
   exact (h.rel.row id esz cs hT).mono hx hk (h.rel.id_lt (by simp [hT])) rfl
 ·by_cases e : id = X.N
  ·subst e
   rw [Tab.put_same] at hT
   cases hT
   unfold MapAt
   rw [hN]
   exact ⟨#[], clock, hmap, by simp [vrs], by simp [vrs]⟩
  ·rw [Tab.put_ne _ _ e] at hT
   exact (h.rel.map id es hT).mono hx hk (h.rel.id_lt (by simp [hT])) rfl
 ·by_cases e : id = X.N
  ·subst e; rw [hN]; exact hf
  ·rw [Tab.put_ne _ _ e] at hid
   rw [hold id hid]; exact h.rel.live_fz id hid
 ·by_cases e : id = X.N <;> by_cases e' : id' = X.N
  ·omega
  ·subst e
   rw [Tab.put_ne _ _ e'] at h2
   rw [hN, hold id' h2] at h3
   exact absurd ⟨id', h2, h3.symm⟩ hl
  ·subst e'
   rw [Tab.put_ne _ _ e] at h1
   rw [hN, hold id h1] at h3
   exact absurd ⟨id, h1, h3⟩ hl
  ·rw [Tab.put_ne _ _ e] at h1
   rw [Tab.put_ne _ _ e'] at h2
   rw [hold id h1, hold id' h2] at h3
   exact h.rel.live_inj id id' h1 h2 h3
 ·exact (h.rel.loc l c hc).mono hx hk rfl
 ·rcases qas hlv with h1 | h1
  ·exact h.rel.loc_live l c hc h1
  ·exact hloc l c hc h1
 ·rcases qas hlv with h1 | h1
  ·exact h.step.livenew c hc h1
  ·subst h1; exact h0 hc
 ·have : X0.N <= X.N := h.step.le.n
  rw [Tab.put_ne _ _ (by omega)]
  exact h.step.idnew id hid hT
 ·obtain ⟨v, hv, hr⟩ := h.env s x hs
  exact ⟨v, hv, hr.mono hx hk (fun _ _ _ => rfl)⟩
theorem SR.allocMap (h : SR X0 T0 w0 X lam env L T a w) :
  SR X0 T0 w0 (X.addRow ⟨w.heap.size, 0, 0, 0⟩) lam env L (T.put X.N (.mapo [])) a (w.alloc (.map #[] 0)) := by
 have hg := World.grownBy_alloc w (.map #[] 0) none
 have h' := h.grow hg
 refine h'.addMap ⟨w.heap.size, 0, 0, 0⟩ (clock := 0) (fun h0 => absurd h.step.size (by simp only at h0; omega)) (fun hf => ?_) (fun hl => ?_) (fun l c hc e => ?_) (heap_alloc_new w _)
 ·exact Nat.lt_irrefl _ (h.rel.fzlt _ hf)
 ·exact Nat.lt_irrefl _ (h.rel.live_lt hl)
 ·have := h.rel.loc_lt hc; simp only at e; omega
theorem SR.setMap (h : SR X0 T0 w0 X lam env L T a w) {id : Nat} (hid : T id ≠ .unused) (hg : w.grownBy w' (some (X.β id).blk)) {es : List (AV × AV)}
  (hmap : MapAt X w' id es) : SR X0 T0 w0 X lam env L (T.put id (.mapo es)) a w' := by
 have hx := Cx.Le.refl X
 have hk := h.rel.fzKept_row hid hg
 have hne : ∀ j, T.put id (.mapo es) j ≠ .unused -> T j ≠ .unused := fun j hj => by
  by_cases e : j = id
  ·subst e; exact hid
  ·rw [Tab.put_ne _ _ e] at hj; exact hj
 have hlv : ∀ b, qfl X (T.put id (.mapo es)) b -> qfl X T b := fun b ⟨j, hj, hb⟩ => ⟨j, hne j hj, hb⟩
 have hblk : ∀ j, T j ≠ .unused -> j ≠ id -> w'.heap[(X.β j).blk]? = w.heap[(X.β j).blk]? := fun j hj hji => by
  refine hg.block _ (h.rel.live_lt ⟨j, hj, rfl⟩) ?_
  intro e
  injection e with e
  exact hji (h.rel.live_inj j id hj hid e)
 refine ⟨⟨fun j hj => ?_, fun b hf => Nat.lt_of_lt_of_le (h.rel.fzlt b hf) hg.size, fun j esz' cs hT => ?_, fun j es' hT => ?_, fun j hj => h.rel.live_fz j (hne j hj), fun j j' h1 h2 h3 => h.rel.live_inj j j' (hne j h1) (hne j' h2) h3, fun l c hc => ?_, h.rel.loc_fz, h.rel.loc_inj, fun l c hc hl => h.rel.loc_live l c hc (hlv _ hl), (by first | exact h.rel.glob | exact q19 hx hk h.rel.glob | exact q19 (Cx.Le.refl _) hk h.rel.glob)⟩,
  h.step.trans ⟨hx, hg.os, hg.tape, hg.output, hg.size, fun b hb hl => ?_, fun _ _ hf => .inl hf, fun b _ hl => hlv b hl, fun j hj hT => ?_⟩, h.locnew, fun s x hs => ?_, h.defers⟩
 ·have := h.rel.id_lt hid
  rw [Tab.put_ne _ _ (by omega)]; exact h.rel.fresh j hj
 ·by_cases e : j = id
  ·subst e; rw [Tab.put_same] at hT; cases hT
  ·rw [Tab.put_ne _ _ e] at hT
   exact (h.rel.row j esz' cs hT).mono hx hk (h.rel.id_lt (by simp [hT])) (hblk j (by simp [hT]) e)
 ·by_cases e : j = id
  ·subst e; rw [Tab.put_same] at hT; cases hT; exact hmap
  ·rw [Tab.put_ne _ _ e] at hT
   exact (h.rel.map j es' hT).mono hx hk (h.rel.id_lt (by simp [hT])) (hblk j (by simp [hT]) e)
 ·refine (h.rel.loc l c hc).mono hx hk (hg.block _ (h.rel.loc_lt hc) ?_)
  intro e
  injection e with e
  exact h.rel.loc_live l c hc ⟨id, hid, e.symm⟩
 ·exact hg.block b hb (fun e => by injection e with e; exact hl ⟨id, hid, e.symm⟩)
 ·by_cases e : j = id
  ·subst e; exact absurd hT hid
  ·rw [Tab.put_ne _ _ e]; exact hT
 ·obtain ⟨v, hv, hr⟩ := h.env s x hs
  exact ⟨v, hv, hr.mono hx hk (fun _ _ _ => rfl)⟩
inductive MK where
 | i (k : IntKind)
 | s
 deriving DecidableEq
def MK.ofDesc : TypeDesc -> Option MK
 | .int k => some (.i k)
 | .string => some .s
 | _ => none
def q1l : MK -> AV -> Bool
 | .i k, .i j _ => decide (j = k)
 | .s, .s _ => true
 | _, _ => false
def qjx : AV -> AV -> Bool
 | .i _ a, .i _ b => decide (a = b)
 | .s a, .s b => decide (a = b)
 | _, _ => false
def qm3 (m : MK) (k : AV) : List (AV × AV) -> Option (Option AV)
 | [] => some none
 | (a, v) :: es => if q1l m a = true then (if qjx k a = true then some (some v) else qm3 m k es) else none
def qno (k y : AV) : List (AV × AV) -> List (AV × AV)
 | [] => [(k, y)]
 | (a, v) :: es => if qjx k a = true then (k, y) :: es else (a, v) :: qno k y es
def qm4 : AV -> Value
 | .i k n => .int k n
 | .s l => .string ⟨l.toArray⟩
 | _ => .nilFunc
theorem qu1 {m : MK} {k : AV} {v : Value} (hk : q1l m k = true) (h : vr X w k v) : v = qm4 k := by
 cases m <;> cases k <;> simp [q1l] at hk <;> simp only [vr] at h <;> exact h
theorem qmu {d : TypeDesc} {m : MK} {k : AV} (hd : MK.ofDesc d = some m) (hk : q1l m k = true) : MapKept.IsKey d (qm4 k) := by
 cases d <;> simp [MK.ofDesc] at hd <;> subst hd <;> cases k <;> simp [q1l] at hk <;> simp [MapKept.IsKey, qm4, hk]
theorem qfm {m : MK} {k a : AV} (hk : q1l m k = true) (ha : q1l m a = true) : qjx k a = true ↔ qm4 k = qm4 a := by
 cases m <;> cases k <;> simp [q1l] at hk <;> cases a <;> simp [q1l] at ha <;> simp [qjx, qm4, hk, ha]
theorem qfn {d : TypeDesc} {m : MK} {k : AV} (hd : MK.ofDesc d = some m) (hk : q1l m k = true) : ∀ (es : List (AV × AV)) (ms : List MapEntry) (i : Nat) (r : Option AV),
  vrs X w (es.map (·.1)) (ms.map (·.key)) -> vrs X w (es.map (·.2)) (ms.map (·.val)) -> qm3 m k es = some r ->
  (r = none /\ Instr.findNow d (qm4 k) ms i = some none) \/ ∃ j v u e, r = some v /\ vr X w v u /\ Instr.findNow d (qm4 k) ms i = some (some (i + j, u)) /\ ms[j]? = some e /\ e.key = qm4 k
 | [], ms, i, r, h1, h2, hg => by
  simp only [List.map_nil, vrs, List.map_eq_nil_iff] at h1
  subst h1
  simp only [qm3, Option.some.injEq] at hg
  exact .inl ⟨hg.symm, rfl⟩
 | (a, v) :: es, ms, i, r, h1, h2, hg => by
  simp only [List.map_cons, vrs] at h1 h2
  obtain ⟨u1, us1, e1, k1, k2⟩ := h1
  obtain ⟨u2, us2, e2, k3, k4⟩ := h2
  cases ms with
  | nil => simp at e1
  | cons e ms =>
   simp only [List.map_cons, List.cons.injEq] at e1 e2
   obtain ⟨rfl, rfl⟩ := e1
   obtain ⟨rfl, rfl⟩ := e2
   simp only [qm3] at hg
   split at hg
   ·rename_i ha
    have hke := qu1 ha k1
    obtain ⟨q, hq, hiff⟩ := MapKept.sameNow_of_keys (qmu hd hk) (qmu hd ha)
    split at hg
    ·rename_i he
     have hkk := (qfm hk ha).1 he
     have hqt : q = true := hiff.2 hkk
     injection hg with hg
     refine .inr ⟨0, v, e.val, e, hg.symm, k3, ?_, rfl, by rw [hke, hkk]⟩
     simp [Instr.findNow, hke, hq, hqt]
    ·rename_i he
     have hqf : q = false := by
      cases q with
      | false => rfl
      | true => exact absurd ((qfm hk ha).2 (hiff.1 rfl)) he
     rcases qfn hd hk es ms (i + 1) r k2 k4 hg with ⟨r1, r2⟩ | ⟨j, v', u, e', r1, r2, r3, r4, r5⟩
     ·exact .inl ⟨r1, by simp [Instr.findNow, hke, hq, hqf, r2]⟩
     ·refine .inr ⟨j + 1, v', u, e', r1, r2, ?_, by simpa using r4, r5⟩
      simp [Instr.findNow, hke, hq, hqf, r3]; omega
   ·cases hg
theorem qmv {d : TypeDesc} {m : MK} {k y : AV} {val : Value} (hd : MK.ofDesc d = some m) (hk : q1l m k = true) (hy : vr X w y val) : ∀ (es : List (AV × AV)) (ms : List MapEntry) (r : Option AV) (i j : Nat) (u : Value),
  vrs X w (es.map (·.1)) (ms.map (·.key)) -> vrs X w (es.map (·.2)) (ms.map (·.val)) -> qm3 m k es = some r -> Instr.findNow d (qm4 k) ms i = some (some (i + j, u)) ->
  vrs X w ((qno k y es).map (·.1)) ((ms.modify j fun e => { e with key := qm4 k, val := val }).map (·.key)) /\ vrs X w ((qno k y es).map (·.2)) ((ms.modify j fun e => { e with key := qm4 k, val := val }).map (·.val))
 | [], ms, r, i, j, u, h1, h2, hg, hf => by
  simp only [List.map_nil, vrs, List.map_eq_nil_iff] at h1
  subst h1
  simp [Instr.findNow] at hf
 | (a, v) :: es, ms, r, i, j, u, h1, h2, hg, hf => by
  simp only [List.map_cons, vrs] at h1 h2
  obtain ⟨u1, us1, e1, k1, k2⟩ := h1
  obtain ⟨u2, us2, e2, k3, k4⟩ := h2
  cases ms with
  | nil => simp at e1
  | cons e ms =>
   simp only [List.map_cons, List.cons.injEq] at e1 e2
   obtain ⟨rfl, rfl⟩ := e1
   obtain ⟨rfl, rfl⟩ := e2
   simp only [qm3] at hg
   split at hg
   ·rename_i ha
    have hke := qu1 ha k1
    obtain ⟨q, hq, hiff⟩ := MapKept.sameNow_of_keys (qmu hd hk) (qmu hd ha)
    have hkv : vr X w k (qm4 k) := by
     cases m <;> cases k <;> simp [q1l] at hk <;> simp [vr, qm4]
    by_cases he : qjx k a = true
    ·have hkk := (qfm hk ha).1 he
     have hqt : q = true := hiff.2 hkk
     simp [Instr.findNow, hke, hq, hqt] at hf
     obtain ⟨hf, _⟩ := hf
     subst hf
     simp only [qno, he, if_true, List.modify_zero_cons, List.map_cons, vrs]
     exact ⟨⟨_, _, rfl, hkv, k2⟩, ⟨_, _, rfl, hy, k4⟩⟩
    ·rw [if_neg he] at hg
     have hqf : q = false := by
      cases q with
      | false => rfl
      | true => exact absurd ((qfm hk ha).2 (hiff.1 rfl)) he
     simp [Instr.findNow, hke, hq, hqf] at hf
     cases j with
     | zero =>
      exfalso
      rcases qfn hd hk es ms (i + 1) r k2 k4 hg with ⟨_, r2⟩ | ⟨j', _, _, _, _, _, r3, _⟩
      ·rw [hf] at r2; cases r2
      ·rw [hf] at r3; injection r3 with r3; injection r3 with r3; injection r3 with r3; omega
     | succ j =>
      have ih := qmv hd hk hy es ms r (i + 1) j u k2 k4 hg (by rw [hf]; congr 3; omega)
      simp only [qno, he, if_false, List.modify_succ_cons, List.map_cons, vrs]
      exact ⟨⟨_, _, rfl, k1, ih.1⟩, ⟨_, _, rfl, k3, ih.2⟩⟩
   ·cases hg
theorem qu2 {m : MK} {k y : AV} {val : Value} (hk : q1l m k = true) (hy : vr X w y val) : ∀ (es : List (AV × AV)) (ms : List MapEntry) (born : Nat),
  vrs X w (es.map (·.1)) (ms.map (·.key)) -> vrs X w (es.map (·.2)) (ms.map (·.val)) -> qm3 m k es = some none ->
  vrs X w ((qno k y es).map (·.1)) ((ms ++ [({ key := qm4 k, val := val, born := born } : MapEntry)]).map (·.key)) /\ vrs X w ((qno k y es).map (·.2)) ((ms ++ [({ key := qm4 k, val := val, born := born } : MapEntry)]).map (·.val))
 | [], ms, born, h1, h2, hg => by
  have hkv : vr X w k (qm4 k) := by
   cases m <;> cases k <;> simp [q1l] at hk <;> simp [vr, qm4]
  simp only [List.map_nil, vrs, List.map_eq_nil_iff] at h1
  subst h1
  simp [qno, vrs, hkv, hy]
 | (a, v) :: es, ms, born, h1, h2, hg => by
  simp only [List.map_cons, vrs] at h1 h2
  obtain ⟨u1, us1, e1, k1, k2⟩ := h1
  obtain ⟨u2, us2, e2, k3, k4⟩ := h2
  cases ms with
  | nil => simp at e1
  | cons e ms =>
   simp only [List.map_cons, List.cons.injEq] at e1 e2
   obtain ⟨rfl, rfl⟩ := e1
   obtain ⟨rfl, rfl⟩ := e2
   simp only [qm3] at hg
   split at hg
   ·split at hg
    ·cases hg
    ·rename_i he
     have ih := qu2 hk hy es ms born k2 k4 hg
     simp only [qno, he, if_false, List.map_cons, vrs, List.cons_append]
     exact ⟨⟨_, _, rfl, k1, ih.1⟩, ⟨_, _, rfl, k3, ih.2⟩⟩
   ·cases hg
end
end Go.Aw
namespace Go.Aw
open Go
set_option linter.all false
variable [Glob]
def z76 (X : Cx) (T : Tab) (w : World) (Q : AV -> Tab -> Prop) (e : Ending) (w' : World) : Prop :=
 ∃ v x T' X' lam', e = .returned v /\ Q x T' /\ vr X' w' x v /\ Rel X' T' [] lam' w' /\ Step X T w X' T' w'
def ACalls (P : Program) (f : FuncId) (args : List AV) (T : Tab) (Q : AV -> Tab -> Prop) : Prop :=
 ∀ X lam w cargs, Rel X T [] lam w -> vrs X w args cargs -> Calls P f cargs.toArray w (z76 X T w Q)
theorem ACalls.mono {P : Program} {f : FuncId} {args : List AV} {T : Tab} {Q Q' : AV -> Tab -> Prop} (h : ACalls P f args T Q) (hq : ∀ v T', Q v T' -> Q' v T') : ACalls P f args T Q' :=
 fun X lam w cargs hr hv => (h X lam w cargs hr hv).mono fun _ _ ⟨v, x, T', X', lam', h1, h2, h3, h4, h5⟩ => ⟨v, x, T', X', lam', h1, hq _ _ h2, h3, h4, h5⟩
def PCalls (P : Program) (f : FuncId) (args : List AV) (r : AV) : Prop := ∀ T, ACalls P f args T fun v T' => v = r /\ T' = T
def qc6 (T : Tab) (S : List Nat) : AV -> AV
 | .sl id o n cap => if id ∈ S then match T id with
   | .row z cells => if o + n * z <= cells.length then .fz n ((cells.drop o).take (n * z)) cap else .sl id o n cap
   | _ => .sl id o n cap
  else .sl id o n cap
 | .ptr id o => if id ∈ S then match T id with
   | .row _ cells => .fptr (cells.drop o)
   | _ => .ptr id o
  else .ptr id o
 | x => x
def q99 (T : Tab) (S : List Nat) : AV -> AV
 | .agg l => .agg (l.map (qc6 T S))
 | .ifc t x => .ifc t (qc6 T S x)
 | x => qc6 T S x
def qm5 (T : Tab) (S : List Nat) : AV -> AV
 | .tup l => .tup (l.map (q99 T S))
 | x => q99 T S x
def qfo (T : Tab) : List Nat -> Tab
 | [] => T
 | id :: S => (qfo T S).put id .unused
def Cx.addFzs (X : Cx) : List Nat -> Cx
 | [] => X
 | id :: S => (X.addFzs S).addFz (X.β id).blk
theorem Cx.addFzs_β (X : Cx) : ∀ S, (X.addFzs S).β = X.β
 | [] => rfl
 | _ :: S => Cx.addFzs_β X S
theorem Cx.le_addFzs (X : Cx) : ∀ S, X.Le (X.addFzs S)
 | [] => .refl X
 | _ :: S => (Cx.le_addFzs X S).trans (Cx.le_addFz _ _)
theorem Cx.addFzs_fz (X : Cx) {id : Nat} : ∀ {S : List Nat}, id ∈ S -> (X.addFzs S).fz (X.β id).blk
 | j :: S, h => by
  rcases List.mem_cons.1 h with rfl | h
  ·exact .inr rfl
  ·exact .inl (Cx.addFzs_fz X h)
theorem qei {T : Tab} {id : Nat} : ∀ {S : List Nat}, id ∉ S -> qfo T S id = T id
 | [], _ => rfl
 | j :: S, h => by
  simp only [List.mem_cons, not_or] at h
  simp only [qfo]
  rw [Tab.put_ne _ _ h.1]
  exact qei h.2
section
variable {P : Program} {X0 : Cx} {T0 : Tab} {w0 : World} {X : Cx} {lam : Nat -> Nat} {env : Env} {L : Loc} {T : Tab} {a : Act} {w w' : World}
theorem SR.freezes (h : SR X0 T0 w0 X lam env L T a w) : ∀ (S : List Nat), S.Nodup -> (∀ id ∈ S, T id ≠ .unused) -> SR X0 T0 w0 (X.addFzs S) lam env L (qfo T S) a w
 | [], _, _ => h
 | id :: S, hn, hl => by
  have hn' := List.nodup_cons.1 hn
  have h1 := SR.freezes h S hn'.2 (fun j hj => hl j (List.mem_cons_of_mem _ hj))
  have hid : qfo T S id ≠ .unused := by rw [qei hn'.1]; exact hl id (List.mem_cons_self ..)
  have := h1.freeze hid
  rw [Cx.addFzs_β] at this
  exact this
theorem qa0 (hr : Rel X T L lam w) {S : List Nat} {x : AV} {v : Value} (h : vr X w x v) : vr (X.addFzs S) w (qc6 T S x) v := by
 have hm : ∀ y u, vr X w y u -> vr (X.addFzs S) w y u := fun y u => vr.mono (X.le_addFzs S) (fun _ _ => rfl) y u
 cases x <;> simp only [qc6] <;> first
  | (exact hm _ _ h)
  | skip
 ·rename_i id o
  split
  ·rename_i hS
   split
   ·rename_i z cells hT
    simp only [vr] at h ⊢
    obtain ⟨h1, rfl⟩ := h
    obtain ⟨us, r1, r2, r3⟩ := (hr.row id z cells hT).lies
    refine ⟨us.drop o, _, vrs.mono (X.le_addFzs S) (fun _ _ => rfl) _ _ (r1.drop o), rfl, .inr rfl, .inr ⟨Cx.addFzs_fz X hS, fun u hu => r2 u (List.mem_of_mem_drop hu), fun j u hu => ?_⟩⟩
    rw [List.getElem?_drop] at hu
    have := r3.cell hu
    simpa [Nat.add_assoc] using this
   ·exact hm _ _ h
  ·exact hm _ _ h
 ·rename_i id o n cap
  split
  ·rename_i hS
   split
   ·rename_i z cells hT
    split
    ·rename_i hle
     simp only [vr] at h ⊢
     obtain ⟨h1, c, rfl, h3, h4, h5⟩ := h
     obtain ⟨us, r1, r2, r3⟩ := (hr.row id z cells hT).lies
     refine ⟨(us.drop o).take (n * z), vrs.mono (X.le_addFzs S) (fun _ _ => rfl) _ _ ((r1.drop o).take _), .inr ⟨_, c, rfl, .inr rfl, h3, h4, ?_⟩⟩
     refine FzRow.take (.inr ⟨Cx.addFzs_fz X hS, fun u hu => r2 u (List.mem_of_mem_drop hu), fun j u hu => ?_⟩) _
     rw [List.getElem?_drop] at hu
     have := r3.cell hu
     simpa [Nat.add_assoc] using this
    ·exact hm _ _ h
   ·exact hm _ _ h
  ·exact hm _ _ h
theorem vrs.map {X' : Cx} {w' : World} {f : AV -> AV} (hf : ∀ x v, vr X w x v -> vr X' w' (f x) v) : ∀ {l : List AV} {us : List Value}, vrs X w l us -> vrs X' w' (l.map f) us
 | [], us, h => by simpa [vrs] using h
 | x :: l, us, h => by
  simp only [vrs] at h
  obtain ⟨u, us', rfl, h2, h3⟩ := h
  exact ⟨u, us', rfl, hf _ _ h2, vrs.map hf h3⟩
theorem qa1 (hr : Rel X T L lam w) {S : List Nat} {x : AV} {v : Value} (h : vr X w x v) : vr (X.addFzs S) w (q99 T S x) v := by
 cases x <;> simp only [q99] <;> first
  | (exact qa0 hr h)
  | skip
 ·simp only [vr] at h ⊢
  obtain ⟨u, h1, rfl⟩ := h
  exact ⟨u, qa0 hr h1, rfl⟩
 ·simp only [vr] at h ⊢
  obtain ⟨us, h1, h2, rfl⟩ := h
  exact ⟨us, h1.map (fun x v hv => qa0 hr hv), h2, rfl⟩
theorem qmw (hr : Rel X T L lam w) {S : List Nat} {x : AV} {v : Value} (h : vr X w x v) : vr (X.addFzs S) w (qm5 T S x) v := by
 cases x <;> simp only [qm5] <;> first
  | (exact qa1 hr h)
  | skip
 simp only [vr] at h ⊢
 obtain ⟨us, h1, rfl⟩ := h
 exact ⟨us, h1.map (fun x v hv => qa1 hr hv), rfl⟩
end
end Go.Aw
