/-
  More on lists, calls and owned slices.
-/
import Derived.Test.YtchkfbfbhaldfaaAwOwn
namespace Go.Aw
open Go
set_option linter.all false

/-- Where one stands, as a walk through a list says. -/
theorem drop_lt {α : Type} {xs ys : List α} {y : α} {k : Nat} (hk : xs.drop k = y :: ys) : k < xs.length ∧ xs[k]? = some y ∧ xs.drop (k + 1) = ys := by
  refine ⟨?_, ?_, by rw [← List.drop_drop, hk]; rfl⟩
  · have : (xs.drop k).length = ys.length + 1 := by rw [hk]; rfl
    rw [List.length_drop] at this; omega
  · have : (xs.drop k)[0]? = some y := by rw [hk]; rfl
    simpa using this
theorem drop_nil {α : Type} {xs : List α} {k : Nat} (hk : xs.drop k = []) (hle : k ≤ xs.length) : xs.length = k := by have := List.drop_eq_nil_iff.1 hk; omega
theorem take_succ_eq {α : Type} {xs : List α} {k : Nat} {y : α} (h : xs[k]? = some y) : xs.take (k + 1) = xs.take k ++ [y] := by
  rw [List.take_add_one, h]; rfl
theorem Own.fin {T T' : Tab} {z n : Nat} {v : AV} {xs : List AV} {Q : AV → Tab → Prop} (h : Own T z v n xs T') (hQ : ∀ v T', Own T z v n xs T' → Q v T') : finL v Q T' :=
  finL_of T' (fun _ => .inr (.inl rfl)) (hQ v T' h)
theorem CallK.as {P : Program} {f : FuncId} {avs : List AV} {T T1 : Tab} {k : AV → Tab → Prop} {r : AV} (h : ACalls P f avs T (fun v T' => v = r ∧ T' = T1)) (hk : k r T1) : CallK P f avs T k :=
  .of h fun v T' h => by rw [h.1, h.2]; exact hk
theorem fin_as {T T1 : Tab} {r r' : AV} (h : Wk r r') (hT : T = T1) : finL r (fun v T' => v = r' ∧ T' = T1) T := by
  subst hT
  exact ⟨[], T, r', List.nodup_nil, by simp, fun _ => .inr (.inl rfl), by rw [frzt_nil]; exact h, rfl, rfl⟩
theorem g_gdc {P : Program} {d : Option Nat} {f : FuncId} {args : List Operand} {k : Nat} {want : Bool} {rc : RC} {K : Env → Loc → Tab → Prop} {e : Env} {L : Loc} {T : Tab} : gstep P ⟨d, .call f args, some (k, want), rc⟩ K e L T =
    gst e k want (Hold.mk (a := gstep P ⟨d, .call f args, none, rc⟩ K e L T)) (Hold.mk (a := rcOk (eset e d (.tup [])) L T rc ∧ K (eset e d (.tup [])) L T)) := by
  rw [g_gdrc _ rfl, gst_eq]
theorem Owns.base_get {T : Tab} {id : Nat} (hid : T id ≠ .unused) : ∀ {l : List Ow} {T' : Tab}, Owns T l T' → T' id = T id
  | [], T', h => by rw [show T' = T from h]
  | a :: l, T', ⟨T1, h1, hx, h2⟩ => by
    have ih := Owns.base_get hid h1
    rcases h2 with ⟨_, _, rfl⟩ | ⟨j, _, hj, rfl⟩
    · exact ih
    · have hne : id ≠ j := fun e => by subst e; rw [ih] at hj; exact hid hj
      rw [Tab.put_ne _ _ hne]; exact ih
theorem Owns.base_put {T : Tab} {id : Nat} {s : Slot} (hid : T id ≠ .unused) : ∀ {l : List Ow} {T' : Tab}, Owns T l T' → Owns (T.put id s) l (T'.put id s)
  | [], T', h => by rw [show T' = T from h]; rfl
  | a :: l, T', ⟨T1, h1, hx, h2⟩ => by
    have ih := Owns.base_put (s := s) hid h1
    have hg := Owns.base_get hid h1
    rcases h2 with ⟨e1, e2, rfl⟩ | ⟨j, e1, hj, rfl⟩
    · exact ⟨_, ih, hx, .inl ⟨e1, e2, rfl⟩⟩
    · have hne : j ≠ id := fun e => by subst e; rw [hg] at hj; exact hid hj
      refine ⟨_, ih, hx, .inr ⟨j, e1, by rw [Tab.put_ne _ _ hne]; exact hj, ?_⟩⟩
      exact (Tab.put_comm _ hne _ _)
theorem Owns.le {T : Tab} : ∀ {l : List Ow} {T' : Tab}, Owns T l T' → ∀ j, SlotLe (T j) (T' j)
  | [], T', h, j => by rw [show T' = T from h]; exact .inr (.inl rfl)
  | a :: l, T', ⟨T1, h1, hx, h2⟩, j => by
    have ih := Owns.le h1 j
    rcases h2 with ⟨_, _, rfl⟩ | ⟨i, _, hi, rfl⟩
    · exact ih
    · by_cases e : j = i
      · subst e
        rw [hi] at ih
        rcases ih with h | h | ⟨_, _, _, h, _⟩
        · exact .inl h
        · exact .inl h
        · cases h
      · rw [Tab.put_ne _ _ e]; exact ih
theorem Owns.perm {T : Tab} {l m : List Ow} (h : l.Perm m) : ∀ {T' : Tab}, Owns T l T' → Owns T m T' := by
  induction h with
  | nil => exact fun h => h
  | cons x _ ih => exact fun ⟨T1, h1, h2⟩ => ⟨T1, ih h1, h2⟩
  | swap x y l => exact fun h => Owns.swap h
  | trans _ _ ih1 ih2 => exact fun h => ih2 (ih1 h)
theorem Owns.get {T : Tab} {a : Ow} : ∀ {l : List Ow} {T' : Tab}, Owns T l T' → a ∈ l → 0 < a.n → ∃ id, a.v = .sl id 0 a.n none ∧ T' id = .row a.z a.xs ∧ T id = .unused
  | b :: l, T', ⟨T1, h1, hx, h2⟩, hm, hn => by
    rcases List.mem_cons.1 hm with rfl | hm
    · rcases h2 with ⟨_, e, _⟩ | ⟨i, e1, hi, rfl⟩
      · omega
      · refine ⟨i, e1, Tab.put_same .., ?_⟩
        have hle := h1.le i
        rw [hi] at hle
        rcases hle with h | h | ⟨_, _, _, h, _⟩
        · exact h
        · exact h
        · cases h
    · obtain ⟨id, e1, e2, e3⟩ := Owns.get h1 hm hn
      rcases h2 with ⟨_, _, rfl⟩ | ⟨i, _, hi, rfl⟩
      · exact ⟨id, e1, e2, e3⟩
      · refine ⟨id, e1, ?_, e3⟩
        have hne : id ≠ i := fun e => by subst e; rw [hi] at e2; cases e2
        rw [Tab.put_ne _ _ hne]; exact e2
theorem SlotLe.refl (s : Slot) : SlotLe s s := .inr (.inl rfl)
theorem flat_length {α : Type} {f : α → List AV} {z : Nat} (hf : ∀ x, (f x).length = z) (l : List α) : (l.flatMap f).length = l.length * z := by
  induction l with
  | nil => simp
  | cons c l ih => simp only [List.flatMap_cons, List.length_append, List.length_cons, ih, hf, Nat.add_mul]; omega
theorem flat_at {α : Type} {f : α → List AV} {z : Nat} (hf : ∀ x, (f x).length = z) {l : List α} {k : Nat} {x : α} (h : l[k]? = some x) : (l.flatMap f).drop (k * z) = f x ++ (l.drop (k + 1)).flatMap f := by
  induction l generalizing k with
  | nil => simp at h
  | cons a l ih =>
    cases k with
    | zero => simp at h; subst h; simp
    | succ k =>
      have := ih (k := k) (by simpa using h)
      rw [List.flatMap_cons, List.drop_succ_cons, ← this, show (k + 1) * z = (f a).length + k * z by rw [hf, Nat.add_mul]; omega, List.drop_length_add_append]
/-- One's own slice is handed on for good. -/
theorem Own.fzn {T T' : Tab} {z n : Nat} {v : AV} {xs : List AV} (h : Own T z v n xs T') : finL v (fun x T'' => x = .fz n xs none ∧ T'' = T) T' := by
  have h' := h
  refine finL_owns (Owns.one h) fun S hS => ?_
  obtain ⟨c, e⟩ := hS _ (List.mem_cons_self ..)
  simp only at e
  rcases h'.2 with ⟨rfl, _⟩ | ⟨id, rfl, _⟩ <;>
  · simp only [frzt, frzv, e]
    exact Wk.fz
/-- Values in which no row is named. -/
def flatAv : AV → Bool
  | .b _ | .i _ _ | .s _ | .nilptr | .fz _ _ _ | .nilmap | .nilfn | .nilifc => true
  | .agg l => l.all fun x => match x with
    | .b _ | .i _ _ | .s _ | .nilptr | .fz _ _ _ | .nilmap | .nilfn | .nilifc => true
    | _ => false
  | _ => false
theorem flat_frz {T : Tab} {S : List Nat} {x : AV} (h : flatAv x = true) : frzv T S x = x := by
  cases x <;> simp only [flatAv] at h <;> first
    | (cases h; done)
    | rfl
    | skip
  rename_i l
  have : l.map (frz1 T S) = l := by
    induction l with
    | nil => rfl
    | cons a l ih =>
      simp only [List.all_cons, Bool.and_eq_true] at h
      rw [List.map_cons, ih h.2]
      congr 1
      cases a <;> first | rfl | (simp at h; done)
  simp only [frzv, this]
theorem flats_frz {T : Tab} {S : List Nat} : ∀ {l : List AV}, l.all flatAv = true → l.map (frzv T S) = l
  | [], _ => rfl
  | a :: l, h => by
    simp only [List.all_cons, Bool.and_eq_true] at h
    rw [List.map_cons, flat_frz h.1, flats_frz h.2]
/-- One's own slice is handed to a function for good. -/
theorem CallK.give {P : Program} {f : FuncId} {T T' : Tab} {z n : Nat} {v : AV} {xs : List AV} {pre post : List AV} {R k : AV → Tab → Prop} (h : Own T z v n xs T') (h1 : pre.all flatAv = true) (h2 : post.all flatAv = true)
    (hc : ∀ q, ACalls P f (pre ++ .fz n xs q :: post) T R) (hk : ∀ v T', R v T' → k v T') : CallK P f (pre ++ v :: post) T' k := by
  obtain ⟨hx, h⟩ := h
  rcases h with ⟨rfl, rfl, rfl⟩ | ⟨id, rfl, hid, rfl⟩
  · have : xs = [] := by simpa using hx
    subst this
    exact .of (hc (some 0)) hk
  · unfold CallK; refine ⟨[id], R, by simp, by simp [Tab.put_same], ?_, hk⟩
    have e : ((pre ++ AV.sl id 0 n none :: post).map (frzv (T.put id (.row z xs)) [id])) = pre ++ .fz n xs none :: post := by
      rw [List.map_append, List.map_cons, flats_frz h1, flats_frz h2]
      simp only [frzv, frz1, List.mem_singleton, if_true, Tab.put_same, Nat.zero_add, List.drop_zero]
      rw [if_pos (by omega), List.take_of_length_le (by omega)]
    rw [e]
    have : kill (T.put id (.row z xs)) [id] = T := by
      simp only [kill]; rw [Tab.put_put, Tab.put_self hid]
    rw [this]
    exact hc none
theorem CallK.give0 {P : Program} {f : FuncId} {T T' : Tab} {z n : Nat} {v : AV} {xs : List AV} {post : List AV} {R k : AV → Tab → Prop} (h : Own T z v n xs T') (h2 : post.all flatAv = true)
    (hc : ∀ q, ACalls P f (.fz n xs q :: post) T R) (hk : ∀ v T', R v T' → k v T') : CallK P f (v :: post) T' k := CallK.give (pre := []) h rfl h2 hc hk
theorem CallK.give1 {P : Program} {f : FuncId} {T T' : Tab} {z n : Nat} {v a : AV} {xs : List AV} {post : List AV} {R k : AV → Tab → Prop} (h : Own T z v n xs T') (h1 : flatAv a = true) (h2 : post.all flatAv = true)
    (hc : ∀ q, ACalls P f (a :: .fz n xs q :: post) T R) (hk : ∀ v T', R v T' → k v T') : CallK P f (a :: v :: post) T' k := CallK.give (pre := [a]) h (by simp [h1]) h2 hc hk
/-- A slice that is full grows into a row of its own. -/
theorem app_full {T : Tab} {z b n m : Nat} {cells news : List AV} {y : AV} {K : AV → Tab → Prop} (hy : slCells T z y = some news) (hm : slLen y = m) (h0 : 0 < m) (hn : cells.length = n * z)
    (h1 : (n + m) * b ≤ 140737488355328) (h2 : n + m ≤ 9223372036854775807) (hk : ∀ v T2, Own T z v (n + m) (cells ++ news) T2 → K v T2) : appStep z b T (.fz n cells (some n)) y K := by
  have hlen := slCells_len hy
  rw [hm] at hlen
  unfold appStep
  rw [hy]
  simp only [hm]
  rw [if_neg (by omega)]
  refine ⟨hn, by omega, h1, h2, fun id hid => hk _ _ ⟨?_, .inr ⟨id, rfl, hid, rfl⟩⟩⟩
  rw [List.length_append, hn, hlen, Nat.add_mul]
/-- A slice that may be appended to: one's own, or a full one. -/
def Gr (T : Tab) (z : Nat) (v : AV) (n : Nat) (xs : List AV) (T' : Tab) : Prop := Own T z v n xs T' ∨ (v = .fz n xs (some n) ∧ xs.length = n * z ∧ T' = T)
theorem Gr.form {T T1 : Tab} {z n : Nat} {v : AV} {xs : List AV} (h : Gr T z v n xs T1) : v.plain = true ∧ v.isOne = true ∧ v.sto = true ∧ v.cells = [v] ∧ v.isLp = false ∧ ∀ k, v.offLp k = v := by
  rcases h with h | ⟨rfl, _⟩
  · exact h.form
  · exact ⟨rfl, rfl, rfl, rfl, rfl, fun _ => rfl⟩
theorem Gr.app {T T1 : Tab} {z b n m : Nat} {v y : AV} {xs news : List AV} {K : AV → Tab → Prop} (h : Gr T z v n xs T1) (hy : slCells T1 z y = some news) (hm : slLen y = m) (h0 : 0 < m)
    (h1 : (n + m) * b ≤ 140737488355328) (h2 : n + m ≤ 9223372036854775807) (hk : ∀ v' T2, Own T z v' (n + m) (xs ++ news) T2 → K v' T2) : appStep z b T1 v y K := by
  rcases h with h | ⟨rfl, hx, rfl⟩
  · exact h.app hy hm h1 h2 hk
  · exact app_full hy hm h0 hx h1 h2 hk
theorem Gr.fzn {T T' : Tab} {z n : Nat} {v : AV} {xs : List AV} (h : Gr T z v n xs T') : finL v (fun x T'' => x = .fz n xs none ∧ T'' = T) T' := by
  rcases h with h | ⟨rfl, hx, rfl⟩
  · exact h.fzn
  · exact fin_as .fz rfl
theorem Gr.fin {T T' : Tab} {z n : Nat} {v : AV} {xs : List AV} {Q : AV → Tab → Prop} (h : Gr T z v n xs T') (hQ : ∀ v T', Gr T z v n xs T' → Q v T') : finL v Q T' :=
  finL_of T' (fun _ => .inr (.inl rfl)) (hQ v T' h)
theorem Gr.sl {T T' : Tab} {z n : Nat} {v : AV} {xs : List AV} (h : Gr T z v n xs T') : slCells T' z v = some xs ∧ slLen v = n := by
  rcases h with ⟨hx, h⟩ | ⟨rfl, hx, rfl⟩
  · rcases h with ⟨rfl, rfl, rfl⟩ | ⟨id, rfl, hid, rfl⟩
    · have : xs = [] := by simpa using hx
      subst this
      simp [slCells, slLen]
    · simp only [slCells, Tab.put_same, slLen, Nat.zero_add, List.drop_zero, true_and, and_true]
      rw [if_pos (by omega), List.take_of_length_le (by omega)]
  · simp only [slCells, slLen]
    rw [if_pos hx]; exact ⟨rfl, trivial⟩
theorem Gr.app0 {T T1 : Tab} {z b n m : Nat} {v y : AV} {xs news : List AV} {K : AV → Tab → Prop} (h : Gr T z v n xs T1) (hy : slCells T1 z y = some news) (hm : slLen y = m)
    (h1 : (n + m) * b ≤ 140737488355328) (h2 : n + m ≤ 9223372036854775807) (hk : ∀ v' T2, Gr T z v' (n + m) (xs ++ news) T2 → K v' T2) : appStep z b T1 v y K := by
  by_cases h0 : 0 < m
  · exact h.app hy hm h0 h1 h2 fun v' T2 h => hk v' T2 (.inl h)
  · have hm0 : m = 0 := by omega
    subst hm0
    have hl := slCells_len hy
    rw [hm, Nat.zero_mul] at hl
    have : news = [] := List.length_eq_zero_iff.1 hl
    subst this
    rcases h with h | ⟨rfl, hx, rfl⟩
    · exact h.app hy hm h1 h2 fun v' T2 h => hk v' T2 (.inl h)
    · unfold appStep
      rw [hy]
      simp only [hm, if_true]
      exact hk _ _ (.inr ⟨by simp, by simpa using hx, rfl⟩)
end Go.Aw
