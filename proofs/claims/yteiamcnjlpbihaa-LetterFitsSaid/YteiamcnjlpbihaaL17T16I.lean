import Derived.Test.YteiamcnjlpbihaaM17A
namespace Go.Aw
open Go
open Go.Proofs.Try (prog)
set_option linter.all false
set_option maxHeartbeats 4000000

theorem ixF_lt {v : Int} : ∀ {l : List Int} {k j : Nat}, ixF v l k = some j → k ≤ j ∧ j < k + l.length
  | [], k, j, h => by simp [ixF] at h
  | y :: l, k, j, h => by
    simp only [ixF] at h
    split at h
    · injection h with h; subst h; simp
    · have := ixF_lt h
      simp only [List.length_cons]
      omega
theorem ixI_lt (v : Int) (l : List Int) : -1 ≤ ixI v l ∧ ixI v l < l.length := by
  unfold ixI
  cases h : ixF v l 0 with
  | none => simp; omega
  | some j => have := ixF_lt h; simp; omega

def Cf.place (c : Cf) (n : Int) : Int := if c.right then ixI n c.ch else -1
def Cf.at (c : Cf) (k : Int) : Int := if c.right = true ∧ 0 ≤ k ∧ k < c.ch.length then (c.ch[k.toNat]?).getD 0 else -1

theorem Cf.place_lt (c : Cf) (n : Int) : -1 ≤ c.place n ∧ c.place n < c.ch.length := by
  unfold Cf.place
  have := ixI_lt n c.ch
  split <;> omega

def Cf.next (c : Cf) (n : Int) : Int := if c.place n < 0 then -1 else c.at (c.place n + 1)

def Cf.has (c : Cf) (n : Int) : Bool := c.right && decide (0 ≤ n) && (decide (n = c.ln) || ctn c.ch n)

end Go.Aw

namespace Go.Aw
open Go
open Go.Proofs.Try (prog)
set_option linter.all false
set_option maxHeartbeats 4000000

end Go.Aw

namespace Go.Aw
open Go
open Go.Proofs.Try (prog)
set_option linter.all false
set_option maxHeartbeats 4000000

theorem del_cells (xs : List AV) (i n : Nat) (hn : xs.length = n) (hi : i < n) : (stCells xs (0 + i * 1) (xs.drop (i + 1))).length = n ∧ (stCells xs (0 + i * 1) (xs.drop (i + 1))).take (n - 1) = xs.eraseIdx i := by
  unfold stCells
  have e1 : (xs.drop (i + 1)).length = n - (i + 1) := by rw [List.length_drop, hn]
  constructor
  · simp only [List.length_append, List.length_take, List.length_drop, hn]; omega
  · rw [List.eraseIdx_eq_take_drop_succ, List.take_append_of_le_length (by simp only [List.length_append, List.length_take, List.length_drop, hn]; omega), Nat.zero_add, Nat.mul_one]
    exact List.take_of_length_le (by simp only [List.length_append, List.length_take, List.length_drop, hn]; omega)

theorem del_app {T : Tab} {id n i b : Nat} {xs : List AV} (hT : T id = .row 1 xs) (hx : xs.length = n) (hi : i < n) {y : AV} {K : AV → Tab → Prop} (h1 : slCells T 1 y = some (xs.drop (i + 1))) (h2 : slLen y = n - (i + 1))
    (hk : ∀ c2, c2.length = n → c2.take (n - 1) = xs.eraseIdx i → K (.sl id 0 (n - 1) none) (T.put id (.row 1 c2))) : appStep 1 b T (.sl id 0 i none) y K := by
  unfold appStep
  obtain ⟨d1, d2⟩ := del_cells xs i n hx hi
  rw [h1]
  simp only [hT, h2]
  refine ⟨trivial, ?_⟩
  rw [if_neg (by omega)]
  have e : i + (n - (i + 1)) = n - 1 := by omega
  rw [e]
  exact ⟨by omega, hk _ d1 d2⟩

theorem take_st {c : List AV} {n : Nat} {z : AV} (h : c.length = n) (hn : 0 < n) : (stCells c (0 + (n - 1)) [z]).take (n - 1) = c.take (n - 1) := by
  unfold stCells
  rw [Nat.zero_add, List.append_assoc, List.take_append_of_le_length (by rw [List.length_take]; omega), List.take_take, Nat.min_self]

theorem clS_row {T : Tab} {id o n z : Nat} {zero cells : List AV} {k : AV → Tab → Prop} {h : Hold k} {cap : Option Nat} (hT : T id = .row z cells) (h1 : zero.length = z) (h2 : o + n * z ≤ cells.length)
    (hk : k (.tup []) (T.put id (.row z (stCells cells o (rep zero n))))) : clS z zero (some (.sl id o n cap)) T h := by
  unfold clS
  cases n with
  | zero => simp only [hT]; exact ⟨trivial, h1, h2, hk⟩
  | succ n => simp only [hT]; exact ⟨trivial, h1, h2, hk⟩
theorem rep_one (z : List AV) : rep z 1 = z := by simp [rep]

theorem slot_put {T : Tab} {id z k : Nat} {c d : List AV} (h : c.take k = d) : ∀ j, SlotLe ((T.put id (.row z d)) j) ((T.put id (.row z c)) j) := fun j => by
  simp only [Tab.put]
  split
  · exact .inr (.inr ⟨z, c, k, rfl, by rw [h]⟩)
  · exact .inr (.inl rfl)

end Go.Aw

namespace Go.Aw
open Go
open Go.Proofs.Try (prog)
set_option linter.all false
set_option maxHeartbeats 4000000

/-- What is owned may be changed in place, and made shorter. -/
theorem Owns.upd {T T' : Tab} {z n : Nat} {v : AV} {xs : List AV} {l : List Ow} (h : Owns T (⟨z, v, n, xs⟩ :: l) T') (hn : 0 < n) :
    ∃ id, v = .sl id 0 n none ∧ T' id = .row z xs ∧ xs.length = n * z ∧ ∀ m ys, ys.length = m * z → Owns T (⟨z, .sl id 0 m none, m, ys⟩ :: l) (T'.put id (.row z ys)) := by
  obtain ⟨T1, h1, hx, h2⟩ := h
  rcases h2 with ⟨_, e, _⟩ | ⟨id, e1, e2, rfl⟩
  · simp only at e; omega
  · refine ⟨id, e1, T1.put_same id _, hx, fun m ys hy => ⟨T1, h1, hy, .inr ⟨id, rfl, e2, ?_⟩⟩⟩
    simp only [Tab.put_put]

def cf0 : Cf := ⟨0, 0, [], [], 0⟩
def Cf.may (c : Cf) (n ep : Int) : Bool := c.right && srv n && !decide (ep ≤ c.ep)

theorem Cf.right_len {c : Cf} (h : c.right = true) : 0 < c.ch.length ∧ c.ch.length ≤ 8 ∧ c.fu.length = c.ch.length := by
  simp only [Cf.right, Bool.and_eq_true, Bool.not_eq_true', decide_eq_false_iff_not, Bool.not_eq_false', decide_eq_true_eq] at h
  omega

def turnedQ (c : Cf) (n ep : Int) (T : Tab) (v : AV) (T' : Tab) : Prop :=
  (c.may n ep = false ∧ v = .tup [.agg (cf0.cells (some 0) (some 0)), .i .i64 1] ∧ T' = T) ∨
  (c.may n ep = true ∧ ∃ v1 v2, v = .tup [.agg [.i .u64 ep, .i .i64 c.sh, v1, v2, .i .i64 c.ln], .i .i64 0] ∧ Owns T [⟨1, v2, c.ch.length, bools c.fu⟩, ⟨1, v1, c.ch.length, ints c.ch⟩] T')

end Go.Aw

namespace Go.Aw
open Go
open Go.Proofs.Try (prog)
set_option linter.all false
set_option maxHeartbeats 4000000

theorem finL_wk {T : Tab} {r r' : AV} (h : Wk r r') : finL r (fun v T' => v = r' ∧ T' = T) T :=
  ⟨[], T, r', List.nodup_nil, by simp, fun _ => .inr (.inl rfl), by rw [frzt_nil]; exact h, rfl, rfl⟩

/-- A configuration and a number, as a function returns them. -/
def Cf.ret (r : Cf × Int) : AV := .tup [.agg (r.1.cells none none), .i .i64 r.2]
theorem wk_ret0 (e : Int) : Wk (.tup [.agg (cf0.cells (some 0) (some 0)), .i .i64 e]) (Cf.ret (cf0, e)) :=
  Wk.tup ⟨Wk.agg Wks.cf, .refl _, trivial⟩
theorem fin_ret0 {T T' : Tab} {l : List Ow} (h : Owns T l T') (e : Int) : finL (.tup [.agg (cf0.cells (some 0) (some 0)), .i .i64 e]) (fun v T' => v = Cf.ret (cf0, e) ∧ T' = T) T' :=
  finL_owns h fun S _ => wk_ret0 e
theorem fin_ret {T T' : Tab} {v1 v2 : AV} {l : List Ow} {r : Cf × Int} {ep sh ln e : Int} {ch : List Int} {fu : List Bool} {n m : Nat} (h : Owns T l T') (hr : r = (⟨ep, sh, ch, fu, ln⟩, e)) (h1 : ⟨1, v1, n, ints ch⟩ ∈ l) (h2 : ⟨1, v2, m, bools fu⟩ ∈ l)
    (hn : ch.length = n) (hm : fu.length = m) : finL (.tup [.agg [.i .u64 ep, .i .i64 sh, v1, v2, .i .i64 ln], .i .i64 e]) (fun v T' => v = Cf.ret r ∧ T' = T) T' := by
  subst hn; subst hm; subst hr
  refine finL_owns h fun S hS => ?_
  obtain ⟨c1, e1⟩ := hS _ h1
  obtain ⟨c2, e2⟩ := hS _ h2
  simp only at e1 e2
  simp only [frzt, frzv, List.map_cons, List.map_nil, e1, e2, frz1_i]
  exact Wk.tup ⟨Wk.agg Wks.cf, .refl _, trivial⟩

def Cf.remove (c : Cf) (n ep : Int) : Cf × Int :=
  if c.may n ep = false then (cf0, 1) else
  if n = c.ln then (⟨ep, c.sh, c.ch, c.fu, -1⟩, 0) else
  if c.place n < 0 then (cf0, 6) else
  if c.ch.length = 1 ∨ (c.place n = 0 ∧ c.fu[1]? = some false) then (cf0, 10) else
  (⟨ep, c.sh, c.ch.eraseIdx (c.place n).toNat, c.fu.eraseIdx (c.place n).toNat, c.ln⟩, 0)

theorem erase_map {α β : Type} (f : α → β) : ∀ (l : List α) (k : Nat), (l.map f).eraseIdx k = (l.eraseIdx k).map f
  | [], _ => rfl
  | _ :: _, 0 => rfl
  | x :: l, k + 1 => by simp only [List.map_cons, List.eraseIdx_cons_succ]; rw [erase_map f l k]
theorem ints_erase (l : List Int) (k : Nat) : (ints l).eraseIdx k = ints (l.eraseIdx k) := erase_map _ l k
theorem bools_erase (l : List Bool) (k : Nat) : (bools l).eraseIdx k = bools (l.eraseIdx k) := erase_map _ l k

end Go.Aw
