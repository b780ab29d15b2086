/-
  Slices that a function makes for itself.
-/
import Derived.Test.YtchkfbfbhaldfaaAwLib
namespace Go.Aw
set_option linter.all false
open Go

/-- A slice that is nil, or the only one on a row of its own. -/
def Own (T : Tab) (z : Nat) (v : AV) (n : Nat) (xs : List AV) (T' : Tab) : Prop :=
  xs.length = n * z ∧ ((v = .fz 0 [] (some 0) ∧ n = 0 ∧ T' = T) ∨ ∃ id, v = .sl id 0 n none ∧ T id = .unused ∧ T' = T.put id (.row z xs))

theorem Tab.put_put (T : Tab) (id : Nat) (a b : Slot) : (T.put id a).put id b = T.put id b := by
  funext j; simp only [Tab.put]; split <;> rfl
theorem Tab.put_comm (T : Tab) {id id' : Nat} (h : id ≠ id') (a b : Slot) : (T.put id a).put id' b = (T.put id' b).put id a := by
  funext j; simp only [Tab.put]; split
  · rename_i e; subst e; rw [if_neg (Ne.symm h)]
  · rfl
theorem Tab.put_self {T : Tab} {id : Nat} {a : Slot} (h : T id = a) : T.put id a = T := by
  funext j; simp only [Tab.put]; split
  · rename_i e; subst e; exact h.symm
  · rfl
theorem Tab.put_get (T : Tab) (id j : Nat) (s : Slot) : T.put id s j = if j = id then s else T j := rfl
theorem Tab.unused_put {T : Tab} {id j z : Nat} {c : List AV} (h : T.put id (.row z c) j = .unused) : j ≠ id ∧ T j = .unused := by
  simp only [Tab.put] at h
  split at h
  · cases h
  · rename_i e; exact ⟨e, h⟩

theorem Own.nil (T : Tab) (z : Nat) : Own T z (.fz 0 [] (some 0)) 0 [] T := ⟨by simp, .inl ⟨rfl, rfl, rfl⟩⟩

theorem slCells_len {T : Tab} {z : Nat} {y : AV} {news : List AV} (h : slCells T z y = some news) : news.length = slLen y * z := by
  cases y <;> simp only [slCells] at h <;> first
    | (cases h; done)
    | skip
  · split at h
    · rename_i e; subst e; injection h with h; subst h; simp [slLen]
    · cases h
  · split at h
    · injection h with h; subst h; assumption
    · cases h
  · split at h
    · split at h
      · rename_i hle; injection h with h; subst h; rw [List.length_take, List.length_drop]; simp only [slLen]; omega
      · cases h
    · cases h

theorem Own.app {T T1 : Tab} {z b n m : Nat} {v y : AV} {xs news : List AV} {K : AV → Tab → Prop} (h : Own T z v n xs T1) (hy : slCells T1 z y = some news) (hm : slLen y = m)
    (h1 : (n + m) * b ≤ 140737488355328) (h2 : n + m ≤ 9223372036854775807) (hk : ∀ v' T2, Own T z v' (n + m) (xs ++ news) T2 → K v' T2) : appStep z b T1 v y K := by
  have hlen := slCells_len hy
  rw [hm] at hlen
  obtain ⟨hx, h⟩ := h
  have hsum : (xs ++ news).length = (n + m) * z := by rw [List.length_append, hx, hlen, Nat.add_mul]
  unfold appStep
  rw [hy]
  simp only
  rcases h with ⟨rfl, rfl, rfl⟩ | ⟨id, rfl, hid, rfl⟩
  · have : xs = [] := by simpa using hx
    subst this
    simp only [hm]
    split
    · rename_i e
      subst e
      have : news = [] := by simpa using hlen
      subst this
      exact hk _ _ ⟨by simp, .inl ⟨rfl, rfl, rfl⟩⟩
    · refine ⟨by simp, by omega, h1, h2, fun id hid => ?_⟩
      exact hk _ _ ⟨hsum, .inr ⟨id, by simp, hid, rfl⟩⟩
  · simp only [Tab.put_same, hm, true_and]
    rw [if_pos (by omega)]
    refine ⟨h1, h2, fun id' hid' => ?_⟩
    obtain ⟨_, hid'⟩ := Tab.unused_put hid'
    rw [Tab.put_put, Tab.put_self hid, List.drop_zero]
    exact hk _ _ ⟨hsum, .inr ⟨id', rfl, hid', rfl⟩⟩

theorem Own.form {T T1 : Tab} {z n : Nat} {v : AV} {xs : List AV} (h : Own T z v n xs T1) : v.plain = true ∧ v.isOne = true ∧ v.sto = true ∧ v.cells = [v] ∧ v.isLp = false ∧ ∀ k, v.offLp k = v := by
  rcases h.2 with ⟨rfl, _⟩ | ⟨id, rfl, _⟩ <;> exact ⟨rfl, rfl, rfl, rfl, rfl, fun _ => rfl⟩

section
variable {T : Tab} {S : List Nat}
theorem frz1_i {k : IntKind} {n : Int} : frz1 T S (.i k n) = .i k n := rfl
theorem frz1_b {x : Bool} : frz1 T S (.b x) = .b x := rfl
theorem frz1_s {l : List UInt8} : frz1 T S (.s l) = .s l := rfl
theorem frz1_fz {n : Nat} {c : List AV} {k : Option Nat} : frz1 T S (.fz n c k) = .fz n c k := rfl
theorem frz1_np : frz1 T S .nilptr = .nilptr := rfl
theorem frz1_ni : frz1 T S .nilifc = .nilifc := rfl
theorem frz1_if {t : TypeId} {x : AV} : frz1 T S (.ifc t x) = .ifc t x := rfl
theorem frz1_fp {c : List AV} : frz1 T S (.fptr c) = .fptr c := rfl
end

/-- Several. -/
structure Ow where
  z : Nat
  v : AV
  n : Nat
  xs : List AV

def Owns (T : Tab) : List Ow → Tab → Prop
  | [], T' => T' = T
  | a :: l, T' => ∃ T1, Owns T l T1 ∧ Own T1 a.z a.v a.n a.xs T'

theorem Owns.swap {T T' : Tab} {a b : Ow} {l : List Ow} (h : Owns T (a :: b :: l) T') : Owns T (b :: a :: l) T' := by
  obtain ⟨T2, ⟨T1, h1, hb, hb'⟩, ha, ha'⟩ := h
  rcases hb' with ⟨e1, e2, rfl⟩ | ⟨id, e1, e2, rfl⟩ <;> rcases ha' with ⟨e3, e4, rfl⟩ | ⟨id', e3, e4, rfl⟩
  · exact ⟨_, ⟨_, h1, ha, .inl ⟨e3, e4, rfl⟩⟩, hb, .inl ⟨e1, e2, rfl⟩⟩
  · exact ⟨_, ⟨_, h1, ha, .inr ⟨id', e3, e4, rfl⟩⟩, hb, .inl ⟨e1, e2, rfl⟩⟩
  · exact ⟨_, ⟨_, h1, ha, .inl ⟨e3, e4, rfl⟩⟩, hb, .inr ⟨id, e1, e2, rfl⟩⟩
  · obtain ⟨hne, hu⟩ := Tab.unused_put e4
    refine ⟨_, ⟨_, h1, ha, .inr ⟨id', e3, hu, rfl⟩⟩, hb, .inr ⟨id, e1, ?_, ?_⟩⟩
    · rw [Tab.put_ne _ _ (Ne.symm hne)]; exact e2
    · exact Tab.put_comm _ (Ne.symm hne) _ _

/-- The last one made may be any. -/
theorem Owns.bring {T T' : Tab} {a : Ow} : ∀ {l m : List Ow}, Owns T (l ++ a :: m) T' → Owns T (a :: (l ++ m)) T'
  | [], _, h => h
  | b :: l, m, h => by
    obtain ⟨T1, h1, h2⟩ := h
    exact Owns.swap ⟨T1, Owns.bring h1, h2⟩

theorem Owns.app {T T1 : Tab} {a : Ow} {l : List Ow} {b m : Nat} {y : AV} {news : List AV} {K : AV → Tab → Prop} (h : Owns T (a :: l) T1) (hy : slCells T1 a.z y = some news) (hm : slLen y = m)
    (h1 : (a.n + m) * b ≤ 140737488355328) (h2 : a.n + m ≤ 9223372036854775807) (hk : ∀ v' T2, Owns T (⟨a.z, v', a.n + m, a.xs ++ news⟩ :: l) T2 → K v' T2) : appStep a.z b T1 a.v y K := by
  obtain ⟨T0, h0, ho⟩ := h
  exact ho.app hy hm h1 h2 fun v' T2 h' => hk v' T2 ⟨T0, h0, h'⟩

theorem Owns.form {T : Tab} {a : Ow} : ∀ {l : List Ow} {T1 : Tab}, Owns T l T1 → a ∈ l → a.v.plain = true ∧ a.v.isOne = true ∧ a.v.sto = true ∧ a.v.cells = [a.v] ∧ a.v.isLp = false ∧ ∀ k, a.v.offLp k = a.v
  | b :: l, T1, ⟨T0, h0, ho⟩, hm => by
    rcases List.mem_cons.1 hm with rfl | hm
    · exact ho.form
    · exact Owns.form h0 hm

theorem Owns.one {T T' : Tab} {z n : Nat} {v : AV} {xs : List AV} (h : Own T z v n xs T') : Owns T [⟨z, v, n, xs⟩] T' := ⟨T, rfl, h⟩

theorem frz1_other {T : Tab} {S S' : List Nat} (x : AV) (h : ∀ id o n cap, x = .sl id o n cap → (id ∈ S ↔ id ∈ S')) (h' : ∀ id o, x = .ptr id o → (id ∈ S ↔ id ∈ S')) : frz1 T S x = frz1 T S' x := by
  cases x <;> simp only [frz1]
  · rename_i id o
    have := h' id o rfl
    by_cases hs : id ∈ S
    · rw [if_pos hs, if_pos (this.1 hs)]
    · rw [if_neg hs, if_neg (fun e => hs (this.2 e))]
  · rename_i id o n cap
    have := h id o n cap rfl
    by_cases hs : id ∈ S
    · rw [if_pos hs, if_pos (this.1 hs)]
    · rw [if_neg hs, if_neg (fun e => hs (this.2 e))]

/-- All are handed on for good. -/
theorem Owns.fin {T : Tab} : ∀ {l : List Ow} {T' : Tab}, Owns T l T' → ∃ S, S.Nodup ∧ (∀ id ∈ S, T' id ≠ .unused ∧ T id = .unused) ∧ kill T' S = T ∧ ∀ a ∈ l, ∃ cap, frz1 T' S a.v = .fz a.n a.xs cap
  | [], T', h => ⟨[], List.nodup_nil, by simp, h, by simp⟩
  | a :: l, T', h => by
    obtain ⟨T1, h1, hx, h2⟩ := h
    obtain ⟨S, k1, k2, k3, k4⟩ := Owns.fin h1
    rcases h2 with ⟨e1, e2, rfl⟩ | ⟨id, e1, e2, rfl⟩
    · refine ⟨S, k1, k2, k3, fun b hb => ?_⟩
      rcases List.mem_cons.1 hb with rfl | hb
      · have : b.xs = [] := by rw [e2] at hx; simpa using hx
        rw [e1, e2, this]; exact ⟨some 0, rfl⟩
      · exact k4 b hb
    · have hid : id ∉ S := fun e => (k2 id e).1 e2
      have hkill : ∀ (S' : List Nat) (T2 : Tab), id ∉ S' → kill (T2.put id (.row a.z a.xs)) S' = (kill T2 S').put id (.row a.z a.xs) := by
        intro S'
        induction S' with
        | nil => intro T2 _; rfl
        | cons j S' ih =>
          intro T2 hj
          simp only [List.mem_cons, not_or] at hj
          simp only [kill]
          rw [ih T2 hj.2, Tab.put_comm _ hj.1]
      have hTid : T id = .unused := by
        rw [← k3, kill_of_not hid]; exact e2
      refine ⟨id :: S, List.nodup_cons.2 ⟨hid, k1⟩, fun j hj => ?_, ?_, fun b hb => ?_⟩
      · rcases List.mem_cons.1 hj with rfl | hj
        · exact ⟨by rw [Tab.put_same]; simp, hTid⟩
        · refine ⟨?_, (k2 j hj).2⟩
          rw [Tab.put_ne _ _ (fun e => hid (by rw [← e]; exact hj))]; exact (k2 j hj).1
      · simp only [kill]
        rw [hkill S T1 hid, Tab.put_put, k3, Tab.put_self hTid]
      · rcases List.mem_cons.1 hb with rfl | hb
        · refine ⟨none, ?_⟩
          rw [e1]
          simp only [frz1, List.mem_cons, true_or, if_true, Tab.put_same, Nat.zero_add, List.drop_zero]
          rw [if_pos (by omega), List.take_of_length_le (by omega)]
        · obtain ⟨cap, hc⟩ := k4 b hb
          refine ⟨cap, ?_⟩
          rw [← hc]
          cases hv : b.v with
          | sl id' o n cap' =>
            have hne : id' ≠ id := by
              rintro rfl
              rw [hv] at hc
              simp only [frz1] at hc
              rw [if_neg hid] at hc
              cases hc
            simp only [frz1, List.mem_cons, hne, false_or, Tab.put_ne _ _ hne]
          | ptr id' o => rw [hv] at hc; simp only [frz1] at hc; split at hc <;> (try split at hc) <;> cases hc
          | _ => rfl

theorem finL_owns {T T' : Tab} {l : List Ow} {r r' : AV} (h : Owns T l T') (hr : ∀ S, (∀ a ∈ l, ∃ cap, frz1 T' S a.v = .fz a.n a.xs cap) → Wk (frzt T' S r) r') : finL r (fun v T'' => v = r' ∧ T'' = T) T' := by
  obtain ⟨S, k1, k2, k3, k4⟩ := h.fin
  unfold finL
  exact ⟨S, T, r', k1, fun id hid => (k2 id hid).1, fun id => .inr (.inl (by rw [k3])), hr S k4, rfl, rfl⟩

end Go.Aw
