import Derived.Test.YteiamcnjlpbihaaGreatDoorAwC
import Derived.IntWalk
import Derived.ProofKit
import Derived.OpenShut
namespace Go.Aw
open Go
set_option linter.all false
variable [Glob]
def qg1 (l : List Int) : List AV := l.map (.i .i64)
def qez (l : List Bool) : List AV := l.map .b
theorem qoz (l : List Int) (k : Nat) : ((qg1 l).drop k)[0]? = (l[k]?).map (.i .i64) := by simp [qg1]
theorem qvg (l : List Bool) (k : Nat) : ((qez l).drop k)[0]? = (l[k]?).map .b := by simp [qez]
theorem z5s (l : List Int) (k : Nat) : (qg1 l).take k = qg1 (l.take k) := by simp [qg1, List.map_take]
theorem qzo (l m : List Int) : qg1 l ++ qg1 m = qg1 (l ++ m) := by simp [qg1]
theorem qxd (l m : List Bool) : qez l ++ qez m = qez (l ++ m) := by simp [qez]
def I64 (n : Int) : Prop := -9223372036854775808 <= n /\ n <= 9223372036854775807
instance (n : Int) : Decidable (I64 n) := inferInstanceAs (Decidable (_ /\ _))
theorem q32 {n : Int} (h : I64 n) : IntKind.i64.wrap n = n := IntWalk.i64_in n h
def Len (n : Nat) : Prop := n < 9223372036854775808
theorem N3 {k : Nat} (h : k < 9223372036854775807) : IntKind.i64.wrap ((k : Int) + 1) = ((k + 1 : Nat) : Int) := by
 rw [q32 (by unfold I64; omega)]; simp
end Go.Aw
namespace Go.Aw
open Go
set_option linter.all false
variable [Glob]
def Own (T : Tab) (z : Nat) (v : AV) (n : Nat) (xs : List AV) (T' : Tab) : Prop :=
 xs.length = n * z /\ ((v = .fz 0 [] (some 0) /\ n = 0 /\ T' = T) \/ ∃ id, v = .sl id 0 n none /\ T id = .unused /\ T' = T.put id (.row z xs))
theorem Tab.put_put (T : Tab) (id : Nat) (a b : Slot) : (T.put id a).put id b = T.put id b := by
 funext j; simp only [Tab.put]; split <;> rfl
theorem Tab.put_comm (T : Tab) {id id' : Nat} (h : id ≠ id') (a b : Slot) : (T.put id a).put id' b = (T.put id' b).put id a := by
 funext j; simp only [Tab.put]; split
 ·rename_i e; subst e; rw [if_neg (Ne.symm h)]
 ·rfl
theorem Tab.put_self {T : Tab} {id : Nat} {a : Slot} (h : T id = a) : T.put id a = T := by
 funext j; simp only [Tab.put]; split
 ·rename_i e; subst e; exact h.symm
 ·rfl
theorem Tab.unused_put {T : Tab} {id j z : Nat} {c : List AV} (h : T.put id (.row z c) j = .unused) : j ≠ id /\ T j = .unused := by
 simp only [Tab.put] at h
 split at h
 ·cases h
 ·rename_i e; exact ⟨e, h⟩
theorem Own.nil (T : Tab) (z : Nat) : Own T z (.fz 0 [] (some 0)) 0 [] T := ⟨by simp, .inl ⟨rfl, rfl, rfl⟩⟩
theorem ql4 {T : Tab} {z : Nat} {y : AV} {news : List AV} (h : G4 T z y = some news) : news.length = q1d y * z := by
 cases y <;> simp only [G4] at h <;> first
  | (cases h; done)
  | skip
 ·split at h
  ·rename_i e; subst e; injection h with h; subst h; simp [q1d]
  ·cases h
 ·split at h
  ·injection h with h; subst h; assumption
  ·cases h
 ·split at h
  ·split at h
   ·rename_i hle; injection h with h; subst h; rw [List.length_take, List.length_drop]; simp only [q1d]; omega
   ·cases h
  ·cases h
theorem Own.app {T T1 : Tab} {z b n m : Nat} {v y : AV} {xs news : List AV} {K : AV -> Tab -> Prop} (h : Own T z v n xs T1) (hy : G4 T1 z y = some news) (hm : q1d y = m)
  (h1 : (n + m) * b <= 140737488355328) (h2 : n + m <= 9223372036854775807) (hk : ∀ v' T2, Own T z v' (n + m) (xs ++ news) T2 -> K v' T2) : q1o z b T1 v y K := by
 have hlen := ql4 hy
 rw [hm] at hlen
 obtain ⟨hx, h⟩ := h
 have hsum : (xs ++ news).length = (n + m) * z := by rw [List.length_append, hx, hlen, Nat.add_mul]
 unfold q1o
 rw [hy]
 simp only
 rcases h with ⟨rfl, rfl, rfl⟩ | ⟨id, rfl, hid, rfl⟩
 ·have : xs = [] := by simpa using hx
  subst this
  simp only [hm]
  split
  ·rename_i e
   subst e
   have : news = [] := by simpa using hlen
   subst this
   exact hk _ _ ⟨by simp, .inl ⟨rfl, rfl, rfl⟩⟩
  ·refine ⟨by simp, by omega, h1, h2, fun id hid => ?_⟩
   exact hk _ _ ⟨hsum, .inr ⟨id, by simp, hid, rfl⟩⟩
 ·simp only [Tab.put_same, hm, true_and]
  rw [if_pos (by omega)]
  refine ⟨h1, h2, fun id' hid' => ?_⟩
  obtain ⟨_, hid'⟩ := Tab.unused_put hid'
  rw [Tab.put_put, Tab.put_self hid, List.drop_zero]
  exact hk _ _ ⟨hsum, .inr ⟨id', rfl, hid', rfl⟩⟩
theorem Own.form {T T1 : Tab} {z n : Nat} {v : AV} {xs : List AV} (h : Own T z v n xs T1) : v.plain = true /\ v.isOne = true /\ v.sto = true /\ v.cells = [v] /\ v.isLp = false /\ ∀ k, v.offLp k = v := by
 rcases h.2 with ⟨rfl, _⟩ | ⟨id, rfl, _⟩ <;> exact ⟨rfl, rfl, rfl, rfl, rfl, fun _ => rfl⟩
section
variable {T : Tab} {S : List Nat}
theorem qcw {k : IntKind} {n : Int} : qiy T S (.i k n) = .i k n := rfl
theorem qf0 {x : Bool} : qiy T S (.b x) = .b x := rfl
theorem qxe {l : List UInt8} : qiy T S (.s l) = .s l := rfl
theorem ql5 {n : Nat} {c : List AV} {k : Option Nat} : qiy T S (.fz n c k) = .fz n c k := rfl
theorem z5t : qiy T S .nilifc = .nilifc := rfl
theorem z5u {t : TypeId} {x : AV} : qiy T S (.ifc t x) = .ifc t x := rfl
theorem z5v {c : List AV} : qiy T S (.fptr c) = .fptr c := rfl
end
structure Ow where
 z : Nat
 v : AV
 n : Nat
 xs : List AV
def Owns (T : Tab) : List Ow -> Tab -> Prop
 | [], T' => T' = T
 | a :: l, T' => ∃ T1, Owns T l T1 /\ Own T1 a.z a.v a.n a.xs T'
theorem Owns.swap {T T' : Tab} {a b : Ow} {l : List Ow} (h : Owns T (a :: b :: l) T') : Owns T (b :: a :: l) T' := by
 obtain ⟨T2, ⟨T1, h1, hb, hb'⟩, ha, ha'⟩ := h
 rcases hb' with ⟨e1, e2, rfl⟩ | ⟨id, e1, e2, rfl⟩ <;> rcases ha' with ⟨e3, e4, rfl⟩ | ⟨id', e3, e4, rfl⟩
 ·exact ⟨_, ⟨_, h1, ha, .inl ⟨e3, e4, rfl⟩⟩, hb, .inl ⟨e1, e2, rfl⟩⟩
 ·exact ⟨_, ⟨_, h1, ha, .inr ⟨id', e3, e4, rfl⟩⟩, hb, .inl ⟨e1, e2, rfl⟩⟩
 ·exact ⟨_, ⟨_, h1, ha, .inl ⟨e3, e4, rfl⟩⟩, hb, .inr ⟨id, e1, e2, rfl⟩⟩
 ·obtain ⟨hne, hu⟩ := Tab.unused_put e4
  refine ⟨_, ⟨_, h1, ha, .inr ⟨id', e3, hu, rfl⟩⟩, hb, .inr ⟨id, e1, ?_, ?_⟩⟩
  ·rw [Tab.put_ne _ _ (Ne.symm hne)]; exact e2
  ·exact Tab.put_comm _ (Ne.symm hne) _ _
theorem Owns.bring {T T' : Tab} {a : Ow} : ∀ {l m : List Ow}, Owns T (l ++ a :: m) T' -> Owns T (a :: (l ++ m)) T'
 | [], _, h => h
 | b :: l, m, h => by
  obtain ⟨T1, h1, h2⟩ := h
  exact Owns.swap ⟨T1, Owns.bring h1, h2⟩
theorem Owns.app {T T1 : Tab} {a : Ow} {l : List Ow} {b m : Nat} {y : AV} {news : List AV} {K : AV -> Tab -> Prop} (h : Owns T (a :: l) T1) (hy : G4 T1 a.z y = some news) (hm : q1d y = m)
  (h1 : (a.n + m) * b <= 140737488355328) (h2 : a.n + m <= 9223372036854775807) (hk : ∀ v' T2, Owns T (⟨a.z, v', a.n + m, a.xs ++ news⟩ :: l) T2 -> K v' T2) : q1o a.z b T1 a.v y K := by
 obtain ⟨T0, h0, ho⟩ := h
 exact ho.app hy hm h1 h2 fun v' T2 h' => hk v' T2 ⟨T0, h0, h'⟩
theorem Owns.form {T : Tab} {a : Ow} : ∀ {l : List Ow} {T1 : Tab}, Owns T l T1 -> a ∈ l -> a.v.plain = true /\ a.v.isOne = true /\ a.v.sto = true /\ a.v.cells = [a.v] /\ a.v.isLp = false /\ ∀ k, a.v.offLp k = a.v
 | b :: l, T1, ⟨T0, h0, ho⟩, hm => by
  rcases List.mem_cons.1 hm with rfl | hm
  ·exact ho.form
  ·exact Owns.form h0 hm
theorem Owns.one {T T' : Tab} {z n : Nat} {v : AV} {xs : List AV} (h : Own T z v n xs T') : Owns T [⟨z, v, n, xs⟩] T' := ⟨T, rfl, h⟩
theorem Owns.fin {T : Tab} : ∀ {l : List Ow} {T' : Tab}, Owns T l T' -> ∃ S, S.Nodup /\ (∀ id ∈ S, T' id ≠ .unused /\ T id = .unused) /\ qor T' S = T /\ ∀ a ∈ l, ∃ cap, qiy T' S a.v = .fz a.n a.xs cap
 | [], T', h => ⟨[], List.nodup_nil, by simp, h, by simp⟩
 | a :: l, T', h => by
  obtain ⟨T1, h1, hx, h2⟩ := h
  obtain ⟨S, k1, k2, k3, k4⟩ := Owns.fin h1
  rcases h2 with ⟨e1, e2, rfl⟩ | ⟨id, e1, e2, rfl⟩
  ·refine ⟨S, k1, k2, k3, fun b hb => ?_⟩
   rcases List.mem_cons.1 hb with rfl | hb
   ·have : b.xs = [] := by rw [e2] at hx; simpa using hx
    rw [e1, e2, this]; exact ⟨some 0, rfl⟩
   ·exact k4 b hb
  ·have hid : id ∉ S := fun e => (k2 id e).1 e2
   have hkill : ∀ (S' : List Nat) (T2 : Tab), id ∉ S' -> qor (T2.put id (.row a.z a.xs)) S' = (qor T2 S').put id (.row a.z a.xs) := by
    intro S'
    induction S' with
    | nil => intro T2 _; rfl
    | cons j S' ih =>
     intro T2 hj
     simp only [List.mem_cons, not_or] at hj
     simp only [qor]
     rw [ih T2 hj.2, Tab.put_comm _ hj.1]
   have hTid : T id = .unused := by
    rw [<- k3, ql0 hid]; exact e2
   refine ⟨id :: S, List.nodup_cons.2 ⟨hid, k1⟩, fun j hj => ?_, ?_, fun b hb => ?_⟩
   ·rcases List.mem_cons.1 hj with rfl | hj
    ·exact ⟨by rw [Tab.put_same]; simp, hTid⟩
    ·refine ⟨?_, (k2 j hj).2⟩
     rw [Tab.put_ne _ _ (fun e => hid (by rw [<- e]; exact hj))]; exact (k2 j hj).1
   ·simp only [qor]
    rw [hkill S T1 hid, Tab.put_put, k3, Tab.put_self hTid]
   ·rcases List.mem_cons.1 hb with rfl | hb
    ·refine ⟨none, ?_⟩
     rw [e1]
     simp only [qiy, List.mem_cons, true_or, if_true, Tab.put_same, Nat.zero_add, List.drop_zero]
     rw [if_pos (by omega), List.take_of_length_le (by omega)]
    ·obtain ⟨cap, hc⟩ := k4 b hb
     refine ⟨cap, ?_⟩
     rw [<- hc]
     cases hv : b.v with
     | sl id' o n cap' =>
      have hne : id' ≠ id := by
       rintro rfl
       rw [hv] at hc
       simp only [qiy] at hc
       rw [if_neg hid] at hc
       cases hc
      simp only [qiy, List.mem_cons, hne, false_or, Tab.put_ne _ _ hne]
     | ptr id' o => rw [hv] at hc; simp only [qiy] at hc; split at hc <;> (try split at hc) <;> cases hc
     | _ => rfl
theorem q1e {T T' : Tab} {l : List Ow} {r r' : AV} (h : Owns T l T') (hr : ∀ S, (∀ a ∈ l, ∃ cap, qiy T' S a.v = .fz a.n a.xs cap) -> Wk (qoq T' S r) r') : qtj r (fun v T'' => v = r' /\ T'' = T) T' := by
 obtain ⟨S, k1, k2, k3, k4⟩ := h.fin
 unfold qtj
 exact ⟨S, T, r', k1, fun id hid => (k2 id hid).1, fun id => .inr (.inl (by rw [k3])), hr S k4, rfl, rfl⟩
end Go.Aw
namespace Go.Aw
open Go
variable [Glob]
set_option linter.all false
theorem U1 {α : Type} {xs ys : List α} {y : α} {k : Nat} (hk : xs.drop k = y :: ys) : k < xs.length /\ xs[k]? = some y /\ xs.drop (k + 1) = ys := by
 refine ⟨?_, ?_, by rw [<- List.drop_drop, hk]; rfl⟩
 ·have : (xs.drop k).length = ys.length + 1 := by rw [hk]; rfl
  rw [List.length_drop] at this; omega
 ·have : (xs.drop k)[0]? = some y := by rw [hk]; rfl
  simpa using this
theorem Q2 {α : Type} {xs : List α} {k : Nat} (hk : xs.drop k = []) (hle : k <= xs.length) : xs.length = k := by have := List.drop_eq_nil_iff.1 hk; omega
theorem q04 {α : Type} {xs : List α} {k : Nat} {y : α} (h : xs[k]? = some y) : xs.take (k + 1) = xs.take k ++ [y] := by
 rw [List.take_add_one, h]; rfl
theorem Own.fin {T T' : Tab} {z n : Nat} {v : AV} {xs : List AV} {Q : AV -> Tab -> Prop} (h : Own T z v n xs T') (hQ : ∀ v T', Own T z v n xs T' -> Q v T') : qtj v Q T' :=
 q12 T' (fun _ => .inr (.inl rfl)) (hQ v T' h)
theorem CallK.as {P : Program} {f : FuncId} {avs : List AV} {T T1 : Tab} {k : AV -> Tab -> Prop} {r : AV} (h : ACalls P f avs T (fun v T' => v = r /\ T' = T1)) (hk : k r T1) : CallK P f avs T k :=
 .of h fun v T' h => by rw [h.1, h.2]; exact hk
theorem qf1 {T T1 : Tab} {r r' : AV} (h : Wk r r') (hT : T = T1) : qtj r (fun v T' => v = r' /\ T' = T1) T := by
 subst hT
 exact ⟨[], T, r', List.nodup_nil, by simp, fun _ => .inr (.inl rfl), by rw [qj6]; exact h, rfl, rfl⟩
theorem O8 {P : Program} {d : Option Nat} {f : FuncId} {args : List Operand} {k : Nat} {want : Bool} {rc : RC} {K : Env -> Loc -> Tab -> Prop} {e : Env} {L : Loc} {T : Tab} : G8 P ⟨d, .call f args, some (k, want), rc⟩ K e L T =
  gst e k want (Hold.mk (a := G8 P ⟨d, .call f args, none, rc⟩ K e L T)) (Hold.mk (a := G0 (q0y e d (.tup [])) L T rc /\ K (q0y e d (.tup [])) L T)) := by
 rw [zfm _ rfl, zb2]
theorem Owns.base_get {T : Tab} {id : Nat} (hid : T id ≠ .unused) : ∀ {l : List Ow} {T' : Tab}, Owns T l T' -> T' id = T id
 | [], T', h => by rw [show T' = T from h]
 | a :: l, T', ⟨T1, h1, hx, h2⟩ => by
  have ih := Owns.base_get hid h1
  rcases h2 with ⟨_, _, rfl⟩ | ⟨j, _, hj, rfl⟩
  ·exact ih
  ·have hne : id ≠ j := fun e => by subst e; rw [ih] at hj; exact hid hj
   rw [Tab.put_ne _ _ hne]; exact ih
theorem Owns.base_put {T : Tab} {id : Nat} {s : Slot} (hid : T id ≠ .unused) : ∀ {l : List Ow} {T' : Tab}, Owns T l T' -> Owns (T.put id s) l (T'.put id s)
 | [], T', h => by rw [show T' = T from h]; rfl
 | a :: l, T', ⟨T1, h1, hx, h2⟩ => by
  have ih := Owns.base_put (s := s) hid h1
  have hg := Owns.base_get hid h1
  rcases h2 with ⟨e1, e2, rfl⟩ | ⟨j, e1, hj, rfl⟩
  ·exact ⟨_, ih, hx, .inl ⟨e1, e2, rfl⟩⟩
  ·have hne : j ≠ id := fun e => by subst e; rw [hg] at hj; exact hid hj
   refine ⟨_, ih, hx, .inr ⟨j, e1, by rw [Tab.put_ne _ _ hne]; exact hj, ?_⟩⟩
   exact (Tab.put_comm _ hne _ _)
theorem Owns.le {T : Tab} : ∀ {l : List Ow} {T' : Tab}, Owns T l T' -> ∀ j, SlotLe (T j) (T' j)
 | [], T', h, j => by rw [show T' = T from h]; exact .inr (.inl rfl)
 | a :: l, T', ⟨T1, h1, hx, h2⟩, j => by
  have ih := Owns.le h1 j
  rcases h2 with ⟨_, _, rfl⟩ | ⟨i, _, hi, rfl⟩
  ·exact ih
  ·by_cases e : j = i
   ·subst e
    rw [hi] at ih
    rcases ih with h | h | ⟨_, _, _, h, _⟩
    ·exact .inl h
    ·exact .inl h
    ·cases h
   ·rw [Tab.put_ne _ _ e]; exact ih
theorem Owns.get {T : Tab} {a : Ow} : ∀ {l : List Ow} {T' : Tab}, Owns T l T' -> a ∈ l -> 0 < a.n -> ∃ id, a.v = .sl id 0 a.n none /\ T' id = .row a.z a.xs /\ T id = .unused
 | b :: l, T', ⟨T1, h1, hx, h2⟩, hm, hn => by
  rcases List.mem_cons.1 hm with rfl | hm
  ·rcases h2 with ⟨_, e, _⟩ | ⟨i, e1, hi, rfl⟩
   ·omega
   ·refine ⟨i, e1, Tab.put_same .., ?_⟩
    have hle := h1.le i
    rw [hi] at hle
    rcases hle with h | h | ⟨_, _, _, h, _⟩
    ·exact h
    ·exact h
    ·cases h
  ·obtain ⟨id, e1, e2, e3⟩ := Owns.get h1 hm hn
   rcases h2 with ⟨_, _, rfl⟩ | ⟨i, _, hi, rfl⟩
   ·exact ⟨id, e1, e2, e3⟩
   ·refine ⟨id, e1, ?_, e3⟩
    have hne : id ≠ i := fun e => by subst e; rw [hi] at e2; cases e2
    rw [Tab.put_ne _ _ hne]; exact e2
theorem SlotLe.refl (s : Slot) : SlotLe s s := .inr (.inl rfl)
theorem N5 {α : Type} {f : α -> List AV} {z : Nat} (hf : ∀ x, (f x).length = z) (l : List α) : (l.flatMap f).length = l.length * z := by
 induction l with
 | nil => simp
 | cons c l ih => simp only [List.flatMap_cons, List.length_append, List.length_cons, ih, hf, Nat.add_mul]; omega
theorem Y6 {α : Type} {f : α -> List AV} {z : Nat} (hf : ∀ x, (f x).length = z) {l : List α} {k : Nat} {x : α} (h : l[k]? = some x) : (l.flatMap f).drop (k * z) = f x ++ (l.drop (k + 1)).flatMap f := by
 induction l generalizing k with
 | nil => simp at h
 | cons a l ih =>
  cases k with
  | zero => simp at h; subst h; simp
  | succ k =>
   have := ih (k := k) (by simpa using h)
   rw [List.flatMap_cons, List.drop_succ_cons, <- this, show (k + 1) * z = (f a).length + k * z by rw [hf, Nat.add_mul]; omega, List.drop_length_add_append]
theorem Own.fzn {T T' : Tab} {z n : Nat} {v : AV} {xs : List AV} (h : Own T z v n xs T') : qtj v (fun x T'' => x = .fz n xs none /\ T'' = T) T' := by
 have h' := h
 refine q1e (Owns.one h) fun S hS => ?_
 obtain ⟨c, e⟩ := hS _ (List.mem_cons_self ..)
 simp only at e
 rcases h'.2 with ⟨rfl, _⟩ | ⟨id, rfl, _⟩ <;>
 ·simp only [qoq, qfy, e]
  exact Wk.fz
theorem qvh {T : Tab} {z b n m : Nat} {cells news : List AV} {y : AV} {K : AV -> Tab -> Prop} (hy : G4 T z y = some news) (hm : q1d y = m) (h0 : 0 < m) (hn : cells.length = n * z)
  (h1 : (n + m) * b <= 140737488355328) (h2 : n + m <= 9223372036854775807) (hk : ∀ v T2, Own T z v (n + m) (cells ++ news) T2 -> K v T2) : q1o z b T (.fz n cells (some n)) y K := by
 have hlen := ql4 hy
 rw [hm] at hlen
 unfold q1o
 rw [hy]
 simp only [hm]
 rw [if_neg (by omega)]
 refine ⟨hn, by omega, h1, h2, fun id hid => hk _ _ ⟨?_, .inr ⟨id, rfl, hid, rfl⟩⟩⟩
 rw [List.length_append, hn, hlen, Nat.add_mul]
def Gr (T : Tab) (z : Nat) (v : AV) (n : Nat) (xs : List AV) (T' : Tab) : Prop := Own T z v n xs T' \/ (v = .fz n xs (some n) /\ xs.length = n * z /\ T' = T)
theorem Gr.form {T T1 : Tab} {z n : Nat} {v : AV} {xs : List AV} (h : Gr T z v n xs T1) : v.plain = true /\ v.isOne = true /\ v.sto = true /\ v.cells = [v] /\ v.isLp = false /\ ∀ k, v.offLp k = v := by
 rcases h with h | ⟨rfl, _⟩
 ·exact h.form
 ·exact ⟨rfl, rfl, rfl, rfl, rfl, fun _ => rfl⟩
theorem Gr.app {T T1 : Tab} {z b n m : Nat} {v y : AV} {xs news : List AV} {K : AV -> Tab -> Prop} (h : Gr T z v n xs T1) (hy : G4 T1 z y = some news) (hm : q1d y = m) (h0 : 0 < m)
  (h1 : (n + m) * b <= 140737488355328) (h2 : n + m <= 9223372036854775807) (hk : ∀ v' T2, Own T z v' (n + m) (xs ++ news) T2 -> K v' T2) : q1o z b T1 v y K := by
 rcases h with h | ⟨rfl, hx, rfl⟩
 ·exact h.app hy hm h1 h2 hk
 ·exact qvh hy hm h0 hx h1 h2 hk
theorem Gr.fzn {T T' : Tab} {z n : Nat} {v : AV} {xs : List AV} (h : Gr T z v n xs T') : qtj v (fun x T'' => x = .fz n xs none /\ T'' = T) T' := by
 rcases h with h | ⟨rfl, hx, rfl⟩
 ·exact h.fzn
 ·exact qf1 .fz rfl
theorem Gr.fin {T T' : Tab} {z n : Nat} {v : AV} {xs : List AV} {Q : AV -> Tab -> Prop} (h : Gr T z v n xs T') (hQ : ∀ v T', Gr T z v n xs T' -> Q v T') : qtj v Q T' :=
 q12 T' (fun _ => .inr (.inl rfl)) (hQ v T' h)
theorem Gr.sl {T T' : Tab} {z n : Nat} {v : AV} {xs : List AV} (h : Gr T z v n xs T') : G4 T' z v = some xs /\ q1d v = n := by
 rcases h with ⟨hx, h⟩ | ⟨rfl, hx, rfl⟩
 ·rcases h with ⟨rfl, rfl, rfl⟩ | ⟨id, rfl, hid, rfl⟩
  ·have : xs = [] := by simpa using hx
   subst this
   simp [G4, q1d]
  ·simp only [G4, Tab.put_same, q1d, Nat.zero_add, List.drop_zero, true_and, and_true]
   rw [if_pos (by omega), List.take_of_length_le (by omega)]
 ·simp only [G4, q1d]
  rw [if_pos hx]; exact ⟨rfl, trivial⟩
theorem Gr.app0 {T T1 : Tab} {z b n m : Nat} {v y : AV} {xs news : List AV} {K : AV -> Tab -> Prop} (h : Gr T z v n xs T1) (hy : G4 T1 z y = some news) (hm : q1d y = m)
  (h1 : (n + m) * b <= 140737488355328) (h2 : n + m <= 9223372036854775807) (hk : ∀ v' T2, Gr T z v' (n + m) (xs ++ news) T2 -> K v' T2) : q1o z b T1 v y K := by
 by_cases h0 : 0 < m
 ·exact h.app hy hm h0 h1 h2 fun v' T2 h => hk v' T2 (.inl h)
 ·have hm0 : m = 0 := by omega
  subst hm0
  have hl := ql4 hy
  rw [hm, Nat.zero_mul] at hl
  have : news = [] := List.length_eq_zero_iff.1 hl
  subst this
  rcases h with h | ⟨rfl, hx, rfl⟩
  ·exact h.app hy hm h1 h2 fun v' T2 h => hk v' T2 (.inl h)
  ·unfold q1o
   rw [hy]
   simp only [hm, if_true]
   exact hk _ _ (.inr ⟨by simp, by simpa using hx, rfl⟩)
end Go.Aw
namespace Go.Aw
open Go
variable [Glob]
set_option linter.all false
theorem CallK.owns {P : Program} {f : FuncId} {avs : List AV} {T T' : Tab} {l : List Ow} {R k : AV -> Tab -> Prop} (h : Owns T l T')
  (hc : ∀ S, (∀ a ∈ l, ∃ cap, qiy T' S a.v = .fz a.n a.xs cap) -> ACalls P f (avs.map (qfy T' S)) T R) (hk : ∀ v T', R v T' -> k v T') : CallK P f avs T' k := by
 obtain ⟨S, k1, k2, k3, k4⟩ := h.fin
 unfold CallK
 exact ⟨S, R, k1, fun id hid => (k2 id hid).1, by rw [k3]; exact hc S k4, hk⟩
theorem Own.frzv {T T1 T2 : Tab} {S : List Nat} {z n : Nat} {v : AV} {xs : List AV} (h : Own T z v n xs T1) : Aw.qfy T2 S v = qiy T2 S v := by
 rcases h.2 with ⟨rfl, _⟩ | ⟨id, rfl, _⟩ <;> rfl
theorem SlotLe.trans {a b c : Slot} (h : SlotLe a b) (k : SlotLe b c) : SlotLe a c := by
 rcases h with rfl | rfl | ⟨z, cs, m, rfl, rfl⟩
 ·exact .inl rfl
 ·exact k
 ·rcases k with k | k | ⟨z', cs', m', rfl, k⟩
  ·cases k
  ·subst k; exact .inr (.inr ⟨z, cs, m, rfl, rfl⟩)
  ·injection k with k1 k2
   subst k1; subst k2
   exact .inr (.inr ⟨z, cs', min m m', rfl, by rw [List.take_take]⟩)
def TabLe (T T' : Tab) : Prop := ∀ j, SlotLe (T j) (T' j)
theorem TabLe.refl (T : Tab) : TabLe T T := fun _ => .inr (.inl rfl)
theorem TabLe.trans {T T1 T2 : Tab} (h : TabLe T T1) (k : TabLe T1 T2) : TabLe T T2 := fun j => (h j).trans (k j)
theorem TabLe.put {T T1 : Tab} {id : Nat} {s : Slot} (h : TabLe T T1) (hid : T id = .unused) : TabLe T (T1.put id s) := fun j => by
 by_cases e : j = id
 ·subst e; rw [hid]; exact .inl rfl
 ·rw [Tab.put_ne _ _ e]; exact h j
theorem TabLe.unused {T T' : Tab} {id : Nat} (h : TabLe T T') (hid : T' id = .unused) : T id = .unused := by
 rcases h id with e | e | ⟨z, cs, m, e, _⟩
 ·exact e
 ·rw [e, hid]
 ·rw [hid] at e; cases e
theorem TabLe.fin {T T' : Tab} {r : AV} (h : TabLe T T') : qtj r (fun v T'' => v = r /\ T'' = T) T' := q12 T h ⟨rfl, rfl⟩
theorem Own.sl {T T' : Tab} {z n : Nat} {v : AV} {xs : List AV} (h : Own T z v n xs T') : G4 T' z v = some xs /\ q1d v = n := Gr.sl (.inl h)
theorem Own.ne {T T' : Tab} {z n : Nat} {v : AV} {xs : List AV} (h : Own T z v n xs T') (hn : 0 < n) : ∃ id, v = .sl id 0 n none /\ T id = .unused /\ T' = T.put id (.row z xs) := by
 rcases h.2 with ⟨_, e, _⟩ | h
 ·omega
 ·exact h
end Go.Aw
namespace Go.Aw
open Go
variable [Glob]
set_option linter.all false
def Indep (r : AV) : Prop := ∀ X X' w w' v, vr X w r v -> vr X' w' r v
theorem Indep.b {x : Bool} : Indep (.b x) := fun _ _ _ _ _ h => by simp only [vr] at h ⊢; exact h
theorem Indep.i {k : IntKind} {n : Int} : Indep (.i k n) := fun _ _ _ _ _ h => by simp only [vr] at h ⊢; exact h
theorem Indep.s {l : List UInt8} : Indep (.s l) := fun _ _ _ _ _ h => by simp only [vr] at h ⊢; exact h
theorem Indep.tup {l : List AV} (h : ∀ x ∈ l, Indep x) : Indep (.tup l) := fun X X' w w' v hv => by
 simp only [vr] at hv ⊢
 obtain ⟨us, h1, h2⟩ := hv
 refine ⟨us, ?_, h2⟩
 clear h2
 induction l generalizing us with
 | nil => simpa [vrs] using h1
 | cons x l ih =>
  simp only [vrs] at h1 ⊢
  obtain ⟨u, us', e, k1, k2⟩ := h1
  exact ⟨u, us', e, h x (List.mem_cons_self ..) _ _ _ _ _ k1, ih (fun y hy => h y (List.mem_cons_of_mem _ hy)) us' k2⟩
theorem ACalls.borrow {P : Program} {f : FuncId} {avs : List AV} {T : Tab} {S : List Nat} {r : AV} (hn : S.Nodup) (hS : ∀ id ∈ S, T id ≠ .unused) (h : PCalls P f (avs.map (qfy T S)) r) (hr : Indep r) :
  ACalls P f avs T (fun v T' => v = r /\ T' = T) := by
 intro X lam w cargs hrel hv
 have h0 : SR X T w X lam [] [] T { tmps := #[], defers := [] } w := ⟨hrel, .refl X T w, fun l c hc => by simp [q2a] at hc, fun s x hs => by simp [q2a] at hs, rfl⟩
 have h1 := h0.freezes S hn hS
 have h2 := h1.sub (T' := Tab.nil) (fun id => .inl rfl)
 have hv' : vrs (X.addFzs S) w (avs.map (qfy T S)) cargs := hv.map fun x v hx => qj0 hrel hx
 have hc := h Tab.nil (X.addFzs S) lam w cargs h2.rel hv'
 refine hc.mono fun e w' ⟨v, x, T', X', lam', he, ⟨hx, hT⟩, hvr, hrel', hst⟩ => ?_
 subst hx; subst hT
 have hk : ∀ b, b < w.heap.size -> w'.heap[b]? = w.heap[b]? := fun b hb => hst.kept b hb fun ⟨id, hid, _⟩ => hid rfl
 have hfz : q9p X w w' := fun b hb => hk b (hrel.fzlt b hb)
 have hlt : ∀ id, T id ≠ .unused -> (X.β id).blk < w.heap.size := fun id hid => hrel.live_lt ⟨id, hid, rfl⟩
 refine ⟨v, x, T, X, lam, he, ⟨rfl, rfl⟩, hr _ _ _ _ _ hvr, ⟨hrel.fresh, fun b hb => Nat.lt_of_lt_of_le (hrel.fzlt b hb) hst.size, fun id esz cells hT => ?_, fun id es hT => ?_, hrel.live_fz, hrel.live_inj, fun l c hc => by simp [q2a] at hc, fun l c hc => by simp [q2a] at hc, fun l l' c c' hc => by simp [q2a] at hc, fun l c hc => by simp [q2a] at hc, q2r (.refl X) hfz hrel.glob⟩,
  ⟨.refl X, hst.os, hst.tape, hst.output, hst.size, fun b hb _ => hk b hb, fun _ _ hf => .inl hf, fun _ _ hl => hl, fun _ _ hT => hT⟩⟩
 ·exact (hrel.row id esz cells hT).mono (.refl X) hfz (hrel.id_lt (by simp [hT])) (hk _ (hlt id (by simp [hT])))
 ·exact (hrel.map id es hT).mono (.refl X) hfz (hrel.id_lt (by simp [hT])) (hk _ (hlt id (by simp [hT])))
theorem CallK.borrow {P : Program} {f : FuncId} {avs : List AV} {T T' : Tab} {l : List Ow} {r : AV} {k : AV -> Tab -> Prop} (h : Owns T l T')
  (hc : ∀ S, (∀ a ∈ l, ∃ cap, qiy T' S a.v = .fz a.n a.xs cap) -> PCalls P f (avs.map (qfy T' S)) r) (hr : Indep r) (hk : k r T') : CallK P f avs T' k := by
 obtain ⟨S, k1, k2, k3, k4⟩ := h.fin
 exact CallK.as (ACalls.borrow k1 (fun id hid => (k2 id hid).1) (hc S k4) hr) hk
end Go.Aw
namespace Go.Aw
open Go
variable [Glob]
set_option linter.all false
theorem Wk.fzs {n : Nat} {cells cells' : List AV} {cap : Option Nat} (h : Wks cells cells') : Wk (.fz n cells cap) (.fz n cells' none) := fun X w v hv => by
 have h1 := Wk.fz (n := n) (cells := cells) (cap := cap) X w v hv
 simp only [vr] at h1 ⊢
 obtain ⟨us, h2, h3⟩ := h1
 exact ⟨us, h.vrs h2, h3⟩
theorem Wks.append : ∀ {a b c d : List AV}, Wks a b -> Wks c d -> Wks (a ++ c) (b ++ d)
 | [], [], _, _, _, h => h
 | _ :: _, _ :: _, _, _, h, k => ⟨h.1, Wks.append h.2 k⟩
section
variable {T : Tab} {S : List Nat}
theorem Own.frX {T0 T1 : Tab} {z n : Nat} {v : AV} {xs : List AV} (h : Own T0 z v n xs T1) : Aw.frX T S v = qiy T S v := by
 rcases h.2 with ⟨rfl, _⟩ | ⟨id, rfl, _⟩ <;> rfl
end
theorem Own.lenAv {T0 T1 : Tab} {z n : Nat} {v : AV} {xs : List AV} (h : Own T0 z v n xs T1) : Aw.qqh false v = some (.i .i64 (n : Nat)) := by
 rcases h.2 with ⟨rfl, rfl, _⟩ | ⟨id, rfl, _⟩ <;> rfl
theorem Owns.lenAv {T T' : Tab} {a : Ow} {l : List Ow} (h : Owns T (a :: l) T') : Aw.qqh false a.v = some (.i .i64 (a.n : Nat)) := by
 obtain ⟨T0, _, ho⟩ := h
 exact ho.lenAv
end Go.Aw
namespace Go.Aw
open Go
set_option linter.all false
def enc (n : Nat) : List UInt8 := if h : n < 128 then [UInt8.ofNat n] else UInt8.ofNat (n % 128 + 128) :: enc (n / 128)
termination_by n
decreasing_by omega
theorem q05 {n : Nat} (h : n < 128) : enc n = [UInt8.ofNat n] := by rw [enc, dif_pos h]
theorem ql6 {n : Nat} (h : ¬ n < 128) : enc n = UInt8.ofNat (n % 128 + 128) :: enc (n / 128) := by rw [enc, dif_neg h]
theorem zkz : ∀ m : Fin 256, (BitVec.ofInt 8 (m.val : Int) ||| BitVec.ofInt 8 128).toNat = m.val % 128 + 128 := by decide +kernel
theorem zhm : ∀ m : Fin 256, (BitVec.ofInt 8 (m.val : Int) &&& BitVec.ofInt 8 127).toNat = m.val % 128 := by decide +kernel
theorem qcx (n : Int) : IntKind.u8.wrap n = n % 256 := by
 simp [IntKind.wrap, IntKind.signed, IntKind.bits]
theorem zcc (n : Nat) : IntKind.u8.wrap ((BitVec.ofInt 8 (IntKind.u8.wrap (n : Int)) ||| BitVec.ofInt 8 128).toNat : Nat) = ((n % 128 + 128 : Nat) : Int) := by
 have h := zkz ⟨n % 256, Nat.mod_lt _ (by decide)⟩
 simp only at h
 rw [qcx (n : Int), show (n : Int) % 256 = ((n % 256 : Nat) : Int) by omega, h, qcx]
 omega
end Go.Aw
namespace Go.Aw
open Go
set_option linter.all false
def dec : Nat -> Nat -> List UInt8 -> Option (Nat × Nat)
 | _, _, [] => none
 | i, a, c :: cs => if 9 < i \/ (i = 9 /\ 1 < c.toNat) then none else
   if c.toNat < 128 then (if c.toNat = 0 /\ 0 < i then none else some (a + c.toNat % 128 * 128 ^ i, i + 1)) else dec (i + 1) (a + c.toNat % 128 * 128 ^ i) cs
theorem zb3 (i : Nat) : 128 ^ i = 2 ^ (7 * i) := by rw [show 128 = 2 ^ 7 from rfl, <- Nat.pow_mul]
theorem z25 (m : Nat) : enc m ≠ [] := by rw [enc]; split <;> simp
theorem z5w : ∀ (k m : Nat), m < 128 ^ (k + 1) -> (enc m).length <= k + 1
 | 0, m, h => by rw [q05 (by omega)]; simp
 | k + 1, m, h => by
  by_cases h1 : m < 128
  ·rw [q05 h1]; simp
  ·rw [ql6 h1]
   have := z5w k (m / 128) (by rw [Nat.div_lt_iff_lt_mul (by decide)]; rw [Nat.pow_succ] at h; omega)
   simp; omega
theorem K6 {m : Nat} (h : m < 18446744073709551616) : (enc m).length <= 10 := z5w 9 m (by omega)
theorem z5x : ∀ (k n i a : Nat) (rest : List UInt8), i + k = 9 -> n < 128 ^ (k + 1) -> n * 128 ^ i < 18446744073709551616 -> (0 < i -> 0 < n) -> dec i a (enc n ++ rest) = some (a + n * 128 ^ i, i + (enc n).length)
 | k, n, i, a, rest, hk, hn, hb, h0 => by
  by_cases hs : n < 128
  ·rw [q05 hs]
   have e : (UInt8.ofNat n).toNat = n := by rw [UInt8.toNat_ofNat_of_lt' (by show n < 256; omega)]
   simp only [List.cons_append, List.nil_append, dec, e, List.length_cons, List.length_nil, Nat.zero_add]
   rw [if_neg, if_pos hs, if_neg, Nat.mod_eq_of_lt hs]
   ·rintro ⟨h1, h2⟩; have := h0 h2; omega
   ·rintro (h | ⟨rfl, h⟩)
    ·omega
    ·have : (128 : Nat) ^ 9 = 9223372036854775808 := by decide
     rw [this] at hb
     omega
  ·rw [ql6 hs]
   have e : (UInt8.ofNat (n % 128 + 128)).toNat = n % 128 + 128 := by rw [UInt8.toNat_ofNat_of_lt' (by show n % 128 + 128 < 256; omega)]
   have hk0 : k ≠ 0 := by rintro rfl; simp at hn; omega
   obtain ⟨j, rfl⟩ := Nat.exists_eq_succ_of_ne_zero hk0
   have hp : 0 < 128 ^ i := Nat.pow_pos (by decide)
   have hdiv : n / 128 * 128 + n % 128 = n := by omega
   have hsplit : n * 128 ^ i = n % 128 * 128 ^ i + n / 128 * 128 ^ (i + 1) := by
    rw [Nat.pow_succ]
    calc n * 128 ^ i = (n / 128 * 128 + n % 128) * 128 ^ i := by rw [hdiv]
     _ = n % 128 * 128 ^ i + n / 128 * (128 ^ i * 128) := by rw [Nat.add_mul, Nat.add_comm, Nat.mul_assoc, Nat.mul_comm 128]
   simp only [List.cons_append, dec, e, List.length_cons]
   rw [if_neg (by omega), if_neg (by omega), z5x j (n / 128) (i + 1) _ rest (by omega) (by rw [Nat.div_lt_iff_lt_mul (by decide)]; rw [Nat.pow_succ] at hn; omega) (by omega) (by intro _; omega)]
   rw [show (n % 128 + 128) % 128 = n % 128 by omega, hsplit]
   congr 2
   ·omega
   ·omega
theorem zcd {n : Nat} (h : n < 18446744073709551616) (rest : List UInt8) : dec 0 0 (enc n ++ rest) = some (n, (enc n).length) := by
 rw [z5x 9 n 0 0 rest rfl (by omega) (by simpa using h) (by omega)]; simp
theorem z5y : ∀ (bs : List UInt8) (i a n z : Nat), i <= 10 -> a < 128 ^ i -> dec i a bs = some (n, z) -> ∃ m, n = a + m * 128 ^ i /\ z = i + (enc m).length /\ (enc m).length <= bs.length /\ bs.take (enc m).length = enc m /\ n < 18446744073709551616 /\ (0 < i -> 0 < m)
 | [], _, _, _, _, _, _, h => by simp [dec] at h
 | c :: cs, i, a, n, z, hi, ha, h => by
  simp only [dec] at h
  have hc := c.toNat_lt
  split at h
  ·cases h
  ·rename_i hn
   have hi9 : i <= 9 := by omega
   have hp : 0 < 128 ^ i := Nat.pow_pos (by decide)
   split at h
   ·rename_i hs
    split at h
    ·cases h
    ·rename_i hz
     injection h with h; injection h with h1 h2
     subst h1; subst h2
     have e : UInt8.ofNat c.toNat = c := by simp
     refine ⟨c.toNat, by rw [Nat.mod_eq_of_lt hs], by rw [q05 hs]; rfl, by rw [q05 hs]; simp, by rw [q05 hs]; simp, ?_, by omega⟩
     rw [Nat.mod_eq_of_lt hs]
     by_cases h9 : i = 9
     ·subst h9
      have : (128 : Nat) ^ 9 = 9223372036854775808 := by decide
      rw [this] at ha ⊢
      have : c.toNat <= 1 := by omega
      omega
     ·have h8 : 128 ^ i <= 128 ^ 8 := Nat.pow_le_pow_right (by decide) (by omega)
      have h88 : (128 : Nat) ^ 8 = 72057594037927936 := by decide
      have : c.toNat * 128 ^ i <= 127 * 128 ^ i := Nat.mul_le_mul_right _ (by omega)
      omega
   ·rename_i hs
    have hn9 : i ≠ 9 := by omega
    have ha' : a + c.toNat % 128 * 128 ^ i < 128 ^ (i + 1) := by
     have : c.toNat % 128 * 128 ^ i <= 127 * 128 ^ i := Nat.mul_le_mul_right _ (by omega)
     rw [Nat.pow_succ]; omega
    obtain ⟨m, h1, h2, h3, h4, h5, h6⟩ := z5y cs (i + 1) _ n z (by omega) ha' h
    have hm := h6 (by omega)
    have hbig : ¬ (m * 128 + c.toNat % 128 < 128) := by omega
    have e1 : (m * 128 + c.toNat % 128) % 128 = c.toNat % 128 := by omega
    have e2 : (m * 128 + c.toNat % 128) / 128 = m := by omega
    have e3 : UInt8.ofNat (c.toNat % 128 + 128) = c := by
     apply UInt8.toNat_inj.1
     rw [UInt8.toNat_ofNat_of_lt' (by show c.toNat % 128 + 128 < 256; omega)]; omega
    have henc : enc (m * 128 + c.toNat % 128) = c :: enc m := by rw [ql6 hbig, e1, e2, e3]
    refine ⟨m * 128 + c.toNat % 128, ?_, by rw [henc, h2, List.length_cons]; omega, by rw [henc, List.length_cons, List.length_cons]; omega, by rw [henc, List.length_cons, List.take_succ_cons, h4], h5, by omega⟩
    rw [h1, Nat.pow_succ, Nat.add_mul, Nat.mul_assoc, Nat.mul_comm 128 (128 ^ i)]; omega
theorem z26 {bs : List UInt8} {n z : Nat} (h : dec 0 0 bs = some (n, z)) : z = (enc n).length /\ z <= bs.length /\ bs = enc n ++ bs.drop z /\ n < 18446744073709551616 := by
 obtain ⟨m, h1, h2, h3, h4, h5, _⟩ := z5y bs 0 0 n z (by omega) (by decide) h
 have e : n = m := by omega
 subst e
 have hz : z = (enc n).length := by omega
 refine ⟨hz, by omega, ?_, h5⟩
 have h6 := (List.take_append_drop z bs).symm
 rw [hz, h4] at h6
 rw [hz]
 exact h6
abbrev RS := List UInt8 × Bool
def K4 (k : Nat) (s : RS) : Nat × RS :=
 if s.2 = true then (0, s) else match dec 0 0 s.1 with
  | some (n, z) => if n <= k then (n, (s.1.drop z, false)) else (0, (s.1, true))
  | none => (0, (s.1, true))
def q33 (k : Nat) (s : RS) : List UInt8 × RS :=
 if (K4 k s).2.2 = true \/ (K4 k s).2.1.length < (K4 k s).1 then ([], ((K4 k s).2.1, true)) else ((K4 k s).2.1.take (K4 k s).1, ((K4 k s).2.1.drop (K4 k s).1, false))
theorem z5z {k : Nat} {s : RS} (h : s.2 = true) : K4 k s = (0, s) := by simp [K4, h]
theorem q3c (k : Nat) (s : RS) : (K4 k s).1 <= k := by
 unfold K4
 split
 ·exact Nat.zero_le _
 ·split
  ·split
   ·assumption
   ·exact Nat.zero_le _
  ·exact Nat.zero_le _
theorem U3 (k : Nat) (s : RS) : (K4 k s).2.1.length <= s.1.length := by
 unfold K4
 split
 ·exact Nat.le_refl _
 ·split
  ·split
   ·simp
   ·exact Nat.le_refl _
  ·exact Nat.le_refl _
theorem qa8 (k : Nat) (s : RS) : (q33 k s).2.1.length <= s.1.length := by
 unfold q33
 have := U3 k s
 split
 ·exact this
 ·simp only [List.length_drop]; omega
theorem qn3 (k : Nat) (s : RS) : (q33 k s).1.length <= k := by
 unfold q33
 have := q3c k s
 split
 ·exact Nat.zero_le _
 ·simp only [List.length_take]; omega
theorem V5 {k n : Nat} (h : n <= k) (hk : n < 18446744073709551616) (rest : List UInt8) : K4 k (enc n ++ rest, false) = (n, (rest, false)) := by
 simp only [K4, Bool.false_eq_true, if_false, zcd hk, if_pos h]
 rw [List.drop_left' rfl]
theorem qf2 {k : Nat} {s : List UInt8} (h : s.length <= k) (hk : s.length < 18446744073709551616) (rest : List UInt8) : q33 k (enc s.length ++ s ++ rest, false) = (s, (rest, false)) := by
 rw [List.append_assoc]
 simp only [q33, V5 h hk]
 rw [if_neg (by simp)]
 simp
end Go.Aw
namespace Go.Aw
open Go
variable [Glob]
set_option linter.all false
theorem q23 {a b : Nat} (h : a <= b) (hb : Len b) : Len a := by unfold Len at *; omega
def qji (b : Bool) : UInt8 := if b = true then 1 else 0
theorem ql7 (b : Bool) : [qji b] = enc (if b = true then 1 else 0) := by cases b <;> (rw [q05 (by decide)]; rfl)
theorem enc_bit' (b : Bool) : enc (if b = true then (1 : Nat) else 0) = [qji b] := (ql7 b).symm
def G1 {α : Type} (f : RS -> α × RS) : Nat -> RS -> List α × RS
 | 0, s => ([], s)
 | n + 1, s => if s.2 = true then ([], s) else ((f s).1 :: (G1 f n (f s).2).1, (G1 f n (f s).2).2)
theorem qhv {α : Type} {f : RS -> α × RS} {g : α -> List UInt8} {ok : α -> Prop} (hf : ∀ x rest, ok x -> f (g x ++ rest, false) = (x, (rest, false))) : ∀ (l : List α) (rest : List UInt8), (∀ x ∈ l, ok x) -> G1 f l.length (l.flatMap g ++ rest, false) = (l, (rest, false))
 | [], rest, _ => rfl
 | x :: l, rest, h => by
  have e : (x :: l).flatMap g ++ rest = g x ++ (l.flatMap g ++ rest) := by simp
  simp only [List.length_cons, G1, Bool.false_eq_true, if_false]
  rw [e, hf x _ (h x (List.mem_cons_self ..)), qhv hf l rest fun y hy => h y (List.mem_cons_of_mem _ hy)]
theorem qa9 {α : Type} {f : RS -> α × RS} (hf : ∀ s, (f s).2.1.length <= s.1.length) : ∀ (n : Nat) (s : RS), (G1 f n s).2.1.length <= s.1.length
 | 0, s => Nat.le_refl _
 | n + 1, s => by
  simp only [G1]
  split
  ·exact Nat.le_refl _
  ·exact Nat.le_trans (qa9 hf n _) (hf s)
theorem qj7 {α : Type} {f : RS -> α × RS} : ∀ (n : Nat) (s : RS), (G1 f n s).1.length <= n
 | 0, s => Nat.le_refl _
 | n + 1, s => by
  simp only [G1]
  split
  ·exact Nat.zero_le _
  ·have := qj7 (f := f) n (f s).2; simp only [List.length_cons]; omega
theorem qcy {α : Type} {f : RS -> α × RS} {p : α -> Prop} (h : ∀ s, p (f s).1) : ∀ (n : Nat) (s : RS), ∀ x ∈ (G1 f n s).1, p x
 | 0, s, x, hx => by simp [G1] at hx
 | n + 1, s, x, hx => by
  simp only [G1] at hx
  split at hx
  ·cases hx
  ·simp only [List.mem_cons] at hx
   rcases hx with rfl | hx
   ·exact h s
   ·exact qcy h n _ x hx
theorem q2u {α : Type} {g : α -> List UInt8} {m : Nat} : ∀ (l : List α), (∀ x ∈ l, (g x).length <= m) -> (l.flatMap g).length <= l.length * m
 | [], _ => by simp
 | x :: l, h => by
  have h1 := q2u l fun y hy => h y (List.mem_cons_of_mem _ hy)
  have h2 := h x (List.mem_cons_self ..)
  rw [List.flatMap_cons, List.length_append, List.length_cons, Nat.add_mul]; omega
theorem qf3 {n : Nat} (h : n < 1000000000) : IntKind.i64.wrap (((n + 1 : Nat) : Int) - 1) = (n : Int) := by rw [q32 (by unfold I64; omega)]; omega
theorem Own.at {B T1 : Tab} {id z n : Nat} {v : AV} {xs : List AV} (h : Own B z v n xs T1) (hB : B id ≠ .unused) : T1 id = B id := Owns.base_get hB (Owns.one h)
end Go.Aw
namespace Go.Aw
open Go Go.ChangeShapes Go.WideShapes Go.ChangeAt Go.RowKit
variable [Glob]
set_option linter.all false
inductive Ty where
 | int (k : IntKind)
 | bool
 | str
 | sl (e : Ty)
 | st (fs : List Ty)
 | ar (n : Nat) (e : Ty)
mutual
def qbw : Ty -> List AV -> Prop
 | .int k, cs => ∃ n, cs = [.i k n] /\ (Lit.int k n).wf = true
 | .bool, cs => ∃ b, cs = [.b b]
 | .str, cs => ∃ l : List UInt8, cs = [.s l] /\ l.length <= maxLen
 | .sl e, cs => ∃ ps : List (List AV), ps.length <= maxLen /\ (∀ p ∈ ps, qbw e p) /\ ∃ k, cs = [.fz ps.length ps.flatten k]
 | .st fs, cs => q6j fs cs
 | .ar n e, cs => ∃ ps : List (List AV), ps.length = n /\ (∀ p ∈ ps, qbw e p) /\ cs = ps.flatten
def q6j : List Ty -> List AV -> Prop
 | [], cs => cs = []
 | f :: fs, cs => ∃ a b, cs = a ++ b /\ qbw f a /\ q6j fs b
end
mutual
def qwq (P : Program) : Ty -> TypeId -> Bool
 | .int k, t => match P.underlying t with
  | some (.int k') => decide (k' = k)
  | _ => false
 | .bool, t => match P.underlying t with
  | some .bool => true
  | _ => false
 | .str, t => match P.underlying t with
  | some .string => true
  | _ => false
 | .sl e, t => match P.underlying t with
  | some (.slice e') => qwq P e e'
  | _ => false
 | .st fs, t => match P.underlying t with
  | some (.struct gs) => qzp P fs gs.toList 0 (P.cellsOf t)
  | _ => false
 | .ar n e, t => match P.underlying t with
  | some (.array m e') => decide (m = n) && qwq P e e' && decide (P.cellsOf t = n * P.cellsOf e')
  | _ => false
def qzp (P : Program) : List Ty -> List Field -> Nat -> Nat -> Bool
 | [], [], o, n => decide (o = n)
 | f :: fs, g :: gs, o, n => decide (g.offset = o) && qwq P f g.type && qzp P fs gs (o + P.cellsOf g.type) n
 | _, _, _, _ => false
end
section
variable {P : Program} {X : Cx} {W : World} {H : Type} {enc : TypeId × Value -> H} {base : Nat} {sp : Nat -> Bool} {held : Bool}
theorem z91 {a : Addr} {j : Nat} {u : Value} (h : W.cell? (a.add j) = some u) : W.cell? ⟨a.block, a.off + j, none⟩ = some u := by
 by_cases hj : j = 0
 ·subst hj
  have e : a.add 0 = a := by simp [Addr.add]
  rw [e] at h
  have hs : a.spot = none := by
   unfold World.cell? at h
   split at h
   ·split at h
    ·cases h
    ·rename_i hs; simpa using hs
   ·cases h
  rw [qix hs] at h
  simpa using h
 ·simpa [Addr.add, hj] using h
theorem add_add' (a : Addr) (i j : Nat) : (a.add i).add j = a.add (i + j) := by
 unfold Addr.add
 by_cases hi : i = 0 <;> by_cases hj : j = 0 <;> simp [hi, hj, Nat.add_assoc]
theorem z60 {a : Addr} {u : Value} (h : W.cell? a = some u) : a.block < W.heap.size := by
 unfold World.cell? at h
 split at h
 ·rename_i hb; exact (Array.getElem?_eq_some_iff.1 hb).1
 ·cases h
theorem z61 {a : Addr} {u : Value} (h : W.cell? a = some u) : a.spot = none := by
 unfold World.cell? at h
 split at h
 ·split at h
  ·cases h
  ·rename_i hs; simpa using hs
 ·cases h
theorem qzq {l m : List AV} {us vs : List Value} (h : vrs X W l us) (k : vrs X W m vs) : vrs X W (l ++ m) (us ++ vs) := by
 induction l generalizing us with
 | nil => simp only [vrs] at h; subst h; exact k
 | cons x l ih =>
  simp only [vrs] at h
  obtain ⟨u, us', rfl, h1, h2⟩ := h
  exact ⟨u, us' ++ vs, rfl, h1, ih h2⟩
theorem z92 {z : Nat} {e : Ty} {a : Addr} {len : Nat} (h : ∀ i, i < len -> ∃ cs ps, cs.length = z /\ (∀ r, r < z -> W.cell? ((a.add (i * z)).add r) = cs[r]?) /\ vrs X W ps cs /\ qbw e ps /\ ∀ u ∈ cs, u.oneCell' = true) :
  ∃ (us : List Value) (ps : List (List AV)), ps.length = len /\ us.length = len * z /\ vrs X W ps.flatten us /\ (∀ p ∈ ps, qbw e p) /\ (∀ u ∈ us, u.oneCell' = true) /\ ∀ (j : Nat) u, us[j]? = some u -> W.cell? (a.add j) = some u := by
 induction len with
 | zero => exact ⟨[], [], rfl, by simp, by simp [vrs], by simp, by simp, by simp⟩
 | succ n ih =>
  obtain ⟨us, ps, h1, h2, h3, h4, h5, h6⟩ := ih fun i hi => h i (Nat.lt_succ_of_lt hi)
  obtain ⟨cs, p, k1, k2, k3, k4, k5⟩ := h n (Nat.lt_succ_self n)
  refine ⟨us ++ cs, ps ++ [p], by simp [h1], by simp [h2, k1, Nat.succ_mul], ?_, ?_, ?_, ?_⟩
  ·rw [List.flatten_append]
   simpa using qzq h3 k3
  ·intro q hq
   rcases List.mem_append.1 hq with hq | hq
   ·exact h4 q hq
   ·rw [List.mem_singleton] at hq; subst hq; exact k4
  ·intro u hu
   rcases List.mem_append.1 hu with hu | hu
   ·exact h5 u hu
   ·exact k5 u hu
  ·intro j u hj
   by_cases hlt : j < us.length
   ·rw [List.getElem?_append_left hlt] at hj; exact h6 j u hj
   ·rw [List.getElem?_append_right (by omega)] at hj
    have hr : j - us.length < z := by rw [<- k1]; exact (List.getElem?_eq_some_iff.1 hj).1
    have := k2 (j - us.length) hr
    rw [hj, add_add', show n * z + (j - us.length) = j by omega] at this
    exact this
mutual
theorem qvi (hX : ∀ b, b < W.heap.size -> X.fz b) : ∀ (ty : Ty) {t : TypeId} {fuel : Nat} {cs : List Value} {x : DataW H × List MemPlace}, qwq P ty t = true -> DataW.trod enc P W base sp held fuel t cs = some x ->
  ∃ avs, vrs X W avs cs /\ qbw ty avs /\ ∀ u ∈ cs, u.oneCell' = true
 | .int k, t, fuel, cs, x, ht, h => by
  simp only [qwq] at ht
  split at ht
  ·rename_i k' hu
   have hk : k' = k := of_decide_eq_true ht
   subst hk
   obtain ⟨n, e1, _, hw⟩ := DataW.trod_int hu h
   subst e1
   exact ⟨[.i k' n], by simp [vrs, vr], by simp only [qbw]; exact ⟨n, rfl, hw⟩, by simp [Value.oneCell']⟩
  ·cases ht
 | .bool, t, fuel, cs, x, ht, h => by
  simp only [qwq] at ht
  split at ht
  ·rename_i hu
   cases fuel with
   | zero => simp [DataW.trod] at h
   | succ n =>
    unfold DataW.trod at h
    rw [hu] at h
    split at h <;> simp_all
    rename_i b
    exact ⟨[.b b], by simp [vrs, vr], by simp only [qbw]; exact ⟨b, rfl⟩, by simp [Value.oneCell']⟩
  ·cases ht
 | .str, t, fuel, cs, x, ht, h => by
  simp only [qwq] at ht
  split at ht
  ·rename_i hu
   cases fuel with
   | zero => simp [DataW.trod] at h
   | succ n =>
    unfold DataW.trod at h
    rw [hu] at h
    split at h <;> simp_all
    rename_i s
    exact ⟨[.s s.data.toList], by simp [vrs, vr], by simp only [qbw]; exact ⟨_, rfl, by have h1 := h.1; rw [Array.length_toList]; exact h1⟩, by simp [Value.oneCell']⟩
  ·cases ht
 | .sl e, t, fuel, cs, x, ht, h => by
  simp only [qwq] at ht
  split at ht
  ·rename_i e' hu
   rcases DataW.trod_slice hu h with ⟨rfl, _⟩ | ⟨a, len, cap, elems, rest, n, _, rfl, _, _, hl, hm, hlen, hel, _⟩
   ·exact ⟨[.fz 0 [] (some 0)], by simp [vrs, vr, fzSlice, qws], by simp only [qbw]; exact ⟨[], Nat.zero_le _, by simp, some 0, rfl⟩, by simp [Value.oneCell']⟩
   ·obtain ⟨us, ps, h1, h2, h3, h4, h5, h6⟩ := z92 (X := X) (W := W) (z := P.cellsOf e') (e := e) (a := a) (len := len) (fun i hi => by
     have k := hel i hi
     rw [List.getElem?_eq_getElem (by omega)] at k
     obtain ⟨cs', k1, k2⟩ := Option.bind_eq_some_iff.1 k
     obtain ⟨_, k3, k4⟩ := World.cells?_some k1
     obtain ⟨ps, k5, k6, k7⟩ := qvi hX e ht k2
     exact ⟨cs', ps, k3, k4, k5, k6, k7⟩)
    refine ⟨[.fz len ps.flatten none], ?_, ?_, by simp [Value.oneCell']⟩
    ·simp only [vrs, vr]
     refine ⟨_, [], rfl, ⟨us, h3, .inr ⟨a, cap, rfl, ?_, hl, (fun k hk => by cases hk), ?_⟩⟩, rfl⟩
     ·cases us with
      | nil => exact .inl rfl
      | cons u us =>
       have := h6 0 u rfl
       have e0 : a.add 0 = a := by simp [Addr.add]
       rw [e0] at this
       exact .inr (z61 this)
     ·cases us with
      | nil => exact .inl rfl
      | cons u us =>
       have := h6 0 u rfl
       have e0 : a.add 0 = a := by simp [Addr.add]
       rw [e0] at this
       exact .inr ⟨hX _ (z60 this), h5, fun j v hv => z91 (h6 j v hv)⟩
    ·simp only [qbw]
     exact ⟨ps, by omega, h4, none, by rw [h1]⟩
  ·cases ht
 | .st fs, t, fuel, cs, x, ht, h => by
  simp only [qwq] at ht
  split at ht
  ·rename_i gs hu
   obtain ⟨xs, n, _, _, hl, hlen, hf⟩ := DataW.trod_struct hu h
   obtain ⟨avs, h1, h2, h3⟩ := z27 hX fs (cs := cs) (o := 0) (n := P.cellsOf t) (m := n) (gs := gs.toList) ht (by omega) (fun g hg => by
    obtain ⟨i, hi, rfl⟩ := List.mem_iff_getElem.1 hg
    have hi' : i < gs.size := by simpa using hi
    have := hf i gs[i] (Array.getElem?_eq_getElem hi')
    rw [List.getElem?_eq_getElem (by omega)] at this
    exact ⟨_, by simpa using this⟩)
   refine ⟨avs, ?_, ?_, ?_⟩
   ·simpa using h1
   ·simp only [qbw]; exact h2
   ·simpa using h3
  ·cases ht
 | .ar n e, t, fuel, cs, x, ht, h => by
  simp only [qwq] at ht
  split at ht
  ·rename_i m e' hu
   simp only [Bool.and_eq_true, decide_eq_true_eq] at ht
   obtain ⟨⟨rfl, ht⟩, hc⟩ := ht
   obtain ⟨xs, q, _, _, hl, hlen, hf⟩ := DataW.trod_array hu h
   rw [hc] at hl
   have key : ∀ k, k <= m -> ∃ ps : List (List AV), ps.length = k /\ (∀ p ∈ ps, qbw e p) /\ vrs X W ps.flatten (cs.take (k * P.cellsOf e')) /\ ∀ u ∈ cs.take (k * P.cellsOf e'), u.oneCell' = true := by
    intro k
    induction k with
    | zero => intro _; exact ⟨[], rfl, by simp, by simp [vrs], by simp⟩
    | succ k ih =>
     intro hk
     obtain ⟨ps, h1, h2, h3, h4⟩ := ih (by omega)
     have hx := hf k (by omega)
     rw [List.getElem?_eq_getElem (by omega)] at hx
     obtain ⟨avs, a1, a2, a3⟩ := qvi hX e ht hx
     have e1 : cs.take ((k + 1) * P.cellsOf e') = cs.take (k * P.cellsOf e') ++ (cs.drop (k * P.cellsOf e')).take (P.cellsOf e') := by
      rw [Nat.add_mul, Nat.one_mul, List.take_add]
     rw [e1]
     refine ⟨ps ++ [avs], by simp [h1], ?_, ?_, ?_⟩
     ·intro p hp
      rcases List.mem_append.1 hp with hp | hp
      ·exact h2 p hp
      ·rw [List.mem_singleton] at hp; subst hp; exact a2
     ·rw [List.flatten_append]; simpa using qzq h3 a1
     ·intro u hu
      rcases List.mem_append.1 hu with hu | hu
      ·exact h4 u hu
      ·exact a3 u hu
   obtain ⟨ps, h1, h2, h3, h4⟩ := key m (Nat.le_refl _)
   rw [List.take_of_length_le (by omega)] at h3 h4
   exact ⟨ps.flatten, h3, by simp only [qbw]; exact ⟨ps, h1, h2, rfl⟩, h4⟩
  ·cases ht
theorem z27 (hX : ∀ b, b < W.heap.size -> X.fz b) : ∀ (fs : List Ty) {gs : List Field} {o n m : Nat} {cs : List Value}, qzp P fs gs o n = true -> cs.length = n ->
  (∀ g ∈ gs, ∃ x, DataW.trod enc P W base sp held m g.type ((cs.drop g.offset).take (P.cellsOf g.type)) = some x) ->
  ∃ avs, vrs X W avs (cs.drop o) /\ q6j fs avs /\ ∀ u ∈ cs.drop o, u.oneCell' = true
 | [], gs, o, n, m, cs, ht, hn, h => by
  cases gs with
  | cons g gs => simp [qzp] at ht
  | nil =>
   simp only [qzp] at ht
   have : o = n := of_decide_eq_true ht
   have e : cs.drop o = [] := List.drop_eq_nil_of_le (by omega)
   rw [e]
   exact ⟨[], by simp [vrs], by simp only [q6j], by simp⟩
 | f :: fs, gs, o, n, m, cs, ht, hn, h => by
  cases gs with
  | nil => simp [qzp] at ht
  | cons g gs =>
   simp only [qzp, Bool.and_eq_true] at ht
   obtain ⟨⟨h1, h2⟩, h3⟩ := ht
   have ho : g.offset = o := of_decide_eq_true h1
   obtain ⟨x, hx⟩ := h g (List.mem_cons_self ..)
   rw [ho] at hx
   obtain ⟨a, a1, a2, a3⟩ := qvi hX f h2 hx
   obtain ⟨b, b1, b2, b3⟩ := z27 hX fs h3 hn fun g' hg' => h g' (List.mem_cons_of_mem _ hg')
   have e : cs.drop o = (cs.drop o).take (P.cellsOf g.type) ++ cs.drop (o + P.cellsOf g.type) := by
    rw [<- List.drop_drop]; exact (List.take_append_drop _ _).symm
   rw [e]
   refine ⟨a ++ b, qzq a1 b1, ?_, ?_⟩
   ·simp only [q6j]; exact ⟨a, b, rfl, a2, b2⟩
   ·intro u hu
    rcases List.mem_append.1 hu with hu | hu
    ·exact a3 u hu
    ·exact b3 u hu
end
def zce : Ty -> AV -> Prop
 | .st fs, a => ∃ cells, a = .agg cells /\ q6j fs cells
 | .ar n e, a => ∃ cells, a = .agg cells /\ qbw (.ar n e) cells
 | ty, a => qbw ty [a]
def qrr : List Ty -> List AV -> Prop
 | [], as => as = []
 | t :: ts, as => ∃ a as', as = a :: as' /\ zce t a /\ qrr ts as'
def quj (P : Program) : List Ty -> List TypeId -> Bool
 | [], [] => true
 | ty :: tys, t :: ts => qwq P ty t && quj P tys ts
 | _, _ => false
theorem z28 {v : Value} {avs : List AV} {ty : Ty} (h : ∀ cs, v ≠ .agg cs) (h1 : vrs X W avs v.cells.toList) (h2 : qbw ty avs) : ∃ a, vr X W a v /\ qbw ty [a] := by
 have e : v.cells = #[v] := by
  cases v <;> first | rfl | exact absurd rfl (h _)
 rw [e] at h1
 match avs, h1 with
 | [a], h1 =>
  simp only [vrs] at h1
  obtain ⟨u, us', hu, h1, rfl⟩ := h1
  injection hu with hu; subst hu
  exact ⟨a, h1, h2⟩
 | [], h1 => simp [vrs] at h1
 | a :: b :: l, h1 =>
  simp only [vrs] at h1
  obtain ⟨u, us', hu, _, u2, us2, rfl, _⟩ := h1
  simp at hu
theorem zhn (hX : ∀ b, b < W.heap.size -> X.fz b) {ty : Ty} {t : TypeId} {v : Value} {d : DataW H} {ps : List MemPlace} {r : Reach} {b0 : Nat} (ht : qwq P ty t = true) (hval : Value.okWide P W r b0 t v) (hd : DataW.Trod enc P W base sp held t v d ps) :
  ∃ a, vr X W a v /\ zce ty a := by
 obtain ⟨fuel, h⟩ := hd
 obtain ⟨avs, h1, h2, h3⟩ := qvi hX ty ht h
 cases ty with
 | st fs =>
  simp only [qwq] at ht
  split at ht
  ·rename_i gs hu
   unfold Value.okWide at hval
   rw [hu] at hval
   obtain ⟨cs, rfl, _⟩ := hval
   exact ⟨.agg avs, by simp only [vr]; exact ⟨cs.toList, h1, h3, by simp⟩, avs, rfl, h2⟩
  ·cases ht
 | ar n e =>
  simp only [qwq] at ht
  split at ht
  ·rename_i m e' hu
   unfold Value.okWide at hval
   rw [hu] at hval
   obtain ⟨cs, rfl, _⟩ := hval
   exact ⟨.agg avs, by simp only [vr]; exact ⟨cs.toList, h1, h3, by simp⟩, avs, rfl, h2⟩
  ·cases ht
 | int k =>
  refine z28 (fun cs e => ?_) h1 h2
  subst e
  simp only [qwq] at ht
  split at ht
  ·rename_i k' hu
   unfold Value.okWide Cell.okWide Cell.ok at hval
   rw [hu] at hval
   exact hval
  ·cases ht
 | bool =>
  refine z28 (fun cs e => ?_) h1 h2
  subst e
  simp only [qwq] at ht
  split at ht
  ·rename_i hu
   unfold Value.okWide Cell.okWide Cell.ok at hval
   rw [hu] at hval
   exact hval
  ·cases ht
 | str =>
  refine z28 (fun cs e => ?_) h1 h2
  subst e
  simp only [qwq] at ht
  split at ht
  ·rename_i hu
   unfold Value.okWide Cell.okWide Cell.ok at hval
   rw [hu] at hval
   exact hval
  ·cases ht
 | sl e =>
  refine z28 (fun cs e => ?_) h1 h2
  subst e
  simp only [qwq] at ht
  split at ht
  ·rename_i e' hu
   unfold Value.okWide Cell.okWide Cell.ok at hval
   rw [hu] at hval
   exact hval
  ·cases ht
theorem z62 (hX : ∀ b, b < W.heap.size -> X.fz b) {r : Reach} {b0 : Nat} : ∀ {tys : List Ty} {ts : List TypeId} {vs : List Value} {ds : List (DataW H)} {ps : List MemPlace}, quj P tys ts = true ->
  (∀ (j : Nat) t v, ts[j]? = some t -> vs[j]? = some v -> Value.okWide P W r b0 t v) -> DataW.TrodAll enc P W base sp held ts vs ds ps -> ∃ as, vrs X W as vs /\ qrr tys as
 | [], [], vs, ds, ps, _, _, h => by
  obtain ⟨rfl, _, _⟩ := trodAll_nil h
  exact ⟨[], by simp [vrs], by simp only [qrr]⟩
 | ty :: tys, t :: ts, vs, ds, ps, ht, hv, h => by
  simp only [quj, Bool.and_eq_true] at ht
  obtain ⟨v, vs', d, ds', p, q, rfl, rfl, rfl, hd, hrest⟩ := trodAll_cons h
  obtain ⟨a, h1, h2⟩ := zhn hX ht.1 (hv 0 t v rfl rfl) hd
  obtain ⟨as, h3, h4⟩ := z62 hX ht.2 (fun j t v h5 h6 => hv (j + 1) t v (by simpa using h5) (by simpa using h6)) hrest
  exact ⟨a :: as, by simp only [vrs]; exact ⟨v, vs', rfl, h1, h3⟩, by simp only [qrr]; exact ⟨a, as, rfl, h2, h4⟩⟩
 | [], _ :: _, _, _, _, ht, _, _ => by simp [quj] at ht
 | _ :: _, [], _, _, _, ht, _, _ => by simp [quj] at ht
theorem qn4 (hl : laidOutB P = true) {W' : World} (hb : Below W.heap.size W W') : ∀ {ts : List TypeId} {vs : List Value} {ds : List (DataW H)} {ps : List MemPlace}, (∀ t ∈ ts, P.readableRec t = true /\ t < P.types.size) ->
  DataW.TrodAll enc P W 0 (fun _ => true) true ts vs ds ps -> (∀ x ∈ ps, x.block < W.heap.size) -> DataW.TrodAll enc P W' 0 (fun b => decide (b < W.heap.size)) true ts vs ds ps
 | [], vs, ds, ps, _, h, _ => by
  obtain ⟨rfl, rfl, rfl⟩ := trodAll_nil h
  simp [DataW.TrodAll]
 | t :: ts, vs, ds, ps, hp, h, hx => by
  obtain ⟨v, vs', d, ds', p, q, rfl, rfl, rfl, hd, hrest⟩ := trodAll_cons h
  have h1 := hp t (List.mem_cons_self ..)
  exact ⟨p, q, Below.trod hl h1.1 h1.2 hd hb (fun x hm => hx x (List.mem_append_left _ hm)), qn4 hl hb (fun t ht => hp t (List.mem_cons_of_mem _ ht)) hrest (fun x hm => hx x (List.mem_append_right _ hm)), rfl⟩
def cx0 (W : World) : Cx := ⟨fun b => b < W.heap.size, fun _ => default, 0⟩
theorem zn4 (W : World) (hg : ∀ p ∈ Glob.gl, W.cell? ⟨p.1, 0, none⟩ = some p.2) : Rel (cx0 W) Tab.nil [] (fun _ => 0) W := by
 have hn : ∀ id, Tab.nil id = .unused := fun _ => rfl
 refine ⟨fun _ _ => rfl, fun b h => h, fun id z c h => ?_, fun id es h => ?_, fun id h => absurd (hn id) h, fun id id' h => absurd (hn id) h, fun l c h => ?_, fun l c h => ?_, fun l l' c c' h => ?_, fun l c h => ?_, fun p hp => ⟨z60 (hg p hp), hg p hp⟩⟩
 ·rw [hn] at h; cases h
 ·rw [hn] at h; cases h
 ·simp [q2a] at h
 ·simp [q2a] at h
 ·simp [q2a] at h
 ·simp [q2a] at h
theorem zho {X' : Cx} {T' : Tab} {W' : World} (h : Step (cx0 W) Tab.nil W X' T' W') : Below W.heap.size W W' :=
 ⟨h.os, h.tape, h.output, h.size, fun k hk => h.kept k hk fun ⟨id, hid, _⟩ => hid rfl⟩
theorem zcf {f : FuncId} {fn : Func} {s : ChangeSpec} {tb : TypeId} {apart fresh : Bool} (tys : List Ty) (hty : quj P tys fn.params.toList = true) (hr : fn.resultTypes = #[tb]) (htb : P.underlying tb = some .bool) (hvars : s.vars = [])
  (hs : ∀ (ds : List (DataW H)), ds.length = fn.params.size -> s.fn H ds = { results := [.lit (.bool true)], args := ds }) (hl : laidOutB P = true) (hp : ∀ t ∈ fn.params.toList, P.readableRec t = true /\ t < P.types.size)
  (hcall : ∀ as, qrr tys as -> ACalls P f as Tab.nil (fun v T' => v = .b true /\ T' = Tab.nil)) (W : World) (hgl : ∀ p ∈ Glob.gl, W.cell? ⟨p.1, 0, none⟩ = some p.2) (base : Nat) (args : Array Value) (ds gs : List (DataW H)) (before : List MemPlace)
  (hval : ∀ (j : Nat) t v, fn.params[j]? = some t -> args[j]? = some v -> Value.okWide P W .any base t v) (hW : DataW.Whole enc P fn.params.toList s.vars apart W args.toList ds gs before) :
  Calls P f args W fun e W' => ∃ v, e = .returned v /\ s.post enc P fn apart fresh false false W args v W' := by
 have hlt : ∀ p ∈ before, p.block < W.heap.size := fun p hp => hW.lt p hp
 have hW' := hW
 obtain ⟨p, q, hA, hV, rfl, hfz, hnd⟩ := hW
 rw [hvars] at hV
 obtain ⟨rfl, rfl⟩ := trodVars_none hV
 obtain ⟨as, h1, h2⟩ := z62 (X := cx0 W) (fun b hb => hb) hty (fun j t v h3 h4 => hval j t v (by simpa using h3) (by simpa using h4)) hA
 have hc := hcall as h2 (cx0 W) _ W args.toList (zn4 W hgl) h1
 refine hc.mono fun e W' ⟨v, x, T', X', lam', he, ⟨hx, _⟩, hv, _, hst⟩ => ?_
 subst he; subst hx
 simp only [vr] at hv
 subst hv
 have hb := zho hst
 have hlen : ds.length = fn.params.size := by
  have key : ∀ {ts : List TypeId} {vs : List Value} {ds : List (DataW H)} {ps : List MemPlace}, DataW.TrodAll enc P W 0 (fun _ => true) true ts vs ds ps -> ds.length = ts.length := by
   intro ts
   induction ts with
   | nil => intro vs ds ps h; obtain ⟨_, rfl, _⟩ := trodAll_nil h; rfl
   | cons t ts ih => intro vs ds ps h; obtain ⟨v, vs', d, ds', p, q, rfl, rfl, rfl, hd, hrest⟩ := trodAll_cons h; simp [ih hrest]
  simpa using key hA
 simp only [List.append_nil] at hlt
 have hs' := hs ds hlen
 refine ⟨_, rfl, ds, [], p ++ [], [], p, [], hW', ?_, ?_, ?_, hb.frame _, fun h => nomatch h⟩
 ·rw [List.append_nil, hs', hr]
  exact trodAll_mk1 (RowKit.shut_bool htb true)
 ·rw [List.append_nil, hs']
  exact qn4 hl hb hp hA hlt
 ·rw [hvars, List.append_nil, hs']
  rfl
end
end Go.Aw
namespace Go.Aw
open Go
variable [Glob]
set_option linter.all false
theorem zhp {k : IntKind} {n : Int} (h : (Lit.int k n).wf = true) : k.min <= n /\ n <= k.max := by
 simp [Lit.wf, IntKind.has] at h
 exact h
theorem q8z {n : Int} (h : (Lit.int .i64 n).wf = true) : I64 n := by
 have := zhp h
 simp [IntKind.min, IntKind.max, IntKind.signed, IntKind.bits] at this
 unfold I64
 omega
theorem qkq {n : Int} (h : (Lit.int .u64 n).wf = true) : 0 <= n /\ n < 18446744073709551616 := by
 have := zhp h
 simp [IntKind.min, IntKind.max, IntKind.signed, IntKind.bits] at this
 omega
theorem z63 {α : Type} {e : Ty} {cells : α -> List AV} {ok : α -> Prop} (h : ∀ p, qbw e p -> ∃ x, p = cells x /\ ok x) : ∀ (ps : List (List AV)), (∀ p ∈ ps, qbw e p) -> ∃ l : List α, l.length = ps.length /\ ps.flatten = l.flatMap cells /\ ∀ x ∈ l, ok x
 | [], _ => ⟨[], rfl, rfl, by simp⟩
 | p :: ps, hp => by
  obtain ⟨l, h1, h2, h3⟩ := z63 h ps fun q hq => hp q (List.mem_cons_of_mem _ hq)
  obtain ⟨x, rfl, hx⟩ := h p (hp p (List.mem_cons_self ..))
  refine ⟨x :: l, by simp [h1], by simp [h2], ?_⟩
  intro y hy
  rcases List.mem_cons.1 hy with rfl | hy
  ·exact hx
  ·exact h3 y hy
theorem qj8 {α : Type} {e : Ty} {cells : α -> List AV} {ok : α -> Prop} (h : ∀ p, qbw e p -> ∃ x, p = cells x /\ ok x) {p : List AV} (hp : qbw (.sl e) p) :
  ∃ (l : List α) (k : Option Nat), p = [.fz l.length (l.flatMap cells) k] /\ Len l.length /\ ∀ x ∈ l, ok x := by
 simp only [qbw] at hp
 obtain ⟨ps, hps, hf, k, rfl⟩ := hp
 obtain ⟨l, h1, h2, h3⟩ := z63 h ps hf
 refine ⟨l, k, by rw [h1, h2], ?_, h3⟩
 unfold Len
 rw [h1]
 unfold maxLen at hps
 omega
theorem cpn {P : Program} {f : FuncId} {avs : List AV} {r : AV} {K : Env -> Loc -> Tab -> Prop} {e : Env} {L : Loc} {d : Option Nat} {T : Tab} (h : PCalls P f avs r) (hk : K (q0y e d r) L T) : CallK P f avs T (aft K e L d []) := CallK.pure h (J1 hk)
theorem can {P : Program} {f : FuncId} {avs : List AV} {r : AV} {K : Env -> Loc -> Tab -> Prop} {e : Env} {L : Loc} {d : Option Nat} {T T1 : Tab} (h : ACalls P f avs T (fun v T' => v = r /\ T' = T1)) (hk : K (q0y e d r) L T1) : CallK P f avs T (aft K e L d []) := CallK.as h (J1 hk)
end Go.Aw
