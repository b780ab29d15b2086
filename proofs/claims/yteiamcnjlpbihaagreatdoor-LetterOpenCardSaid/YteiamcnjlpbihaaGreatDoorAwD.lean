import Derived.Test.YteiamcnjlpbihaaGreatDoorAwC
import Derived.IntWalk
import Derived.ProofKit
import Derived.OpenShut
namespace Go.Aw
open Go
set_option linter.all false
variable [Glob]
def qfq (l : List Int) : List AV := l.map (.i .i64)
def qet (l : List Bool) : List AV := l.map .b
theorem qof (l : List Int) (k : Nat) : ((qfq l).drop k)[0]? = (l[k]?).map (.i .i64) := by simp [qfq]
theorem qv6 (l : List Bool) (k : Nat) : ((qet l).drop k)[0]? = (l[k]?).map .b := by simp [qet]
theorem z5d (l : List Int) (k : Nat) : (qfq l).take k = qfq (l.take k) := by simp [qfq, List.map_take]
theorem qzm (l m : List Int) : qfq l ++ qfq m = qfq (l ++ m) := by simp [qfq]
theorem qx5 (l m : List Bool) : qet l ++ qet m = qet (l ++ m) := by simp [qet]
def I64 (n : Int) : Prop := -9223372036854775808 <= n /\ n <= 9223372036854775807
instance (n : Int) : Decidable (I64 n) := inferInstanceAs (Decidable (_ /\ _))
theorem q2l {n : Int} (h : I64 n) : IntKind.i64.wrap n = n := IntWalk.i64_in n h
def Len (n : Nat) : Prop := n < 9223372036854775808
theorem N4 {k : Nat} (h : k < 9223372036854775807) : IntKind.i64.wrap ((k : Int) + 1) = ((k + 1 : Nat) : Int) := by
 rw [q2l (by unfold I64; omega)]; simp
end Go.Aw
namespace Go.Aw
open Go
set_option linter.all false
variable [Glob]
def Own (T : Tab) (z : Nat) (v : AV) (n : Nat) (xs : List AV) (T' : Tab) : Prop :=
 xs.length = n * z /\ ((v = .fz 0 [] (some 0) /\ n = 0 /\ T' = T) \/ ∃ id, v = .sl id 0 n none /\ T id = .unused /\ T' = T.put id (.row z xs))
theorem Tab.put_put (T : Tab) (id : Nat) (a b : Slot) : (T.put id a).put id b = T.put id b := by
 funext j; simp only [Tab.put]; split <;> rfl
theorem Tab.put_comm (T : Tab) {id id' : Nat} (h : id ≠ id') (a b : Slot) : (T.put id a).put id' b = (T.put id' b).put id a := by
 funext j; simp only [Tab.put]; split
 ·rename_i e; subst e; rw [if_neg (Ne.symm h)]
 ·rfl
theorem Tab.put_self {T : Tab} {id : Nat} {a : Slot} (h : T id = a) : T.put id a = T := by
 funext j; simp only [Tab.put]; split
 ·rename_i e; subst e; exact h.symm
 ·rfl
theorem Tab.unused_put {T : Tab} {id j z : Nat} {c : List AV} (h : T.put id (.row z c) j = .unused) : j ≠ id /\ T j = .unused := by
 simp only [Tab.put] at h
 split at h
 ·cases h
 ·rename_i e; exact ⟨e, h⟩
theorem Own.nil (T : Tab) (z : Nat) : Own T z (.fz 0 [] (some 0)) 0 [] T := ⟨by simp, .inl ⟨rfl, rfl, rfl⟩⟩
theorem qkv {T : Tab} {z : Nat} {y : AV} {news : List AV} (h : G4 T z y = some news) : news.length = q1e y * z := by
 cases y <;> simp only [G4] at h <;> first
  | (cases h; done)
  | skip
 ·split at h
  ·rename_i e; subst e; injection h with h; subst h; simp [q1e]
  ·cases h
 ·split at h
  ·injection h with h; subst h; assumption
  ·cases h
 ·split at h
  ·split at h
   ·rename_i hle; injection h with h; subst h; rw [List.length_take, List.length_drop]; simp only [q1e]; omega
   ·cases h
  ·cases h
theorem Own.app {T T1 : Tab} {z b n m : Nat} {v y : AV} {xs news : List AV} {K : AV -> Tab -> Prop} (h : Own T z v n xs T1) (hy : G4 T1 z y = some news) (hm : q1e y = m)
  (h1 : (n + m) * b <= 140737488355328) (h2 : n + m <= 9223372036854775807) (hk : ∀ v' T2, Own T z v' (n + m) (xs ++ news) T2 -> K v' T2) : q1q z b T1 v y K := by
 have hlen := qkv hy
 rw [hm] at hlen
 obtain ⟨hx, h⟩ := h
 have hsum : (xs ++ news).length = (n + m) * z := by rw [List.length_append, hx, hlen, Nat.add_mul]
 unfold q1q
 rw [hy]
 simp only
 rcases h with ⟨rfl, rfl, rfl⟩ | ⟨id, rfl, hid, rfl⟩
 ·have : xs = [] := by simpa using hx
  subst this
  simp only [hm]
  split
  ·rename_i e
   subst e
   have : news = [] := by simpa using hlen
   subst this
   exact hk _ _ ⟨by simp, .inl ⟨rfl, rfl, rfl⟩⟩
  ·refine ⟨by simp, by omega, h1, h2, fun id hid => ?_⟩
   exact hk _ _ ⟨hsum, .inr ⟨id, by simp, hid, rfl⟩⟩
 ·simp only [Tab.put_same, hm, true_and]
  rw [if_pos (by omega)]
  refine ⟨h1, h2, fun id' hid' => ?_⟩
  obtain ⟨_, hid'⟩ := Tab.unused_put hid'
  rw [Tab.put_put, Tab.put_self hid, List.drop_zero]
  exact hk _ _ ⟨hsum, .inr ⟨id', rfl, hid', rfl⟩⟩
theorem Own.form {T T1 : Tab} {z n : Nat} {v : AV} {xs : List AV} (h : Own T z v n xs T1) : v.plain = true /\ v.isOne = true /\ v.sto = true /\ v.cells = [v] /\ v.isLp = false /\ ∀ k, v.offLp k = v := by
 rcases h.2 with ⟨rfl, _⟩ | ⟨id, rfl, _⟩ <;> exact ⟨rfl, rfl, rfl, rfl, rfl, fun _ => rfl⟩
section
variable {T : Tab} {S : List Nat}
theorem qcj {k : IntKind} {n : Int} : qhg T S (.i k n) = .i k n := rfl
theorem qeu {x : Bool} : qhg T S (.b x) = .b x := rfl
theorem qx6 {l : List UInt8} : qhg T S (.s l) = .s l := rfl
theorem qkw {n : Nat} {c : List AV} {k : Option Nat} : qhg T S (.fz n c k) = .fz n c k := rfl
theorem z5e : qhg T S .nilifc = .nilifc := rfl
theorem z5f {t : TypeId} {x : AV} : qhg T S (.ifc t x) = .ifc t x := rfl
theorem z5g {c : List AV} : qhg T S (.fptr c) = .fptr c := rfl
end
structure Ow where
 z : Nat
 v : AV
 n : Nat
 xs : List AV
def Owns (T : Tab) : List Ow -> Tab -> Prop
 | [], T' => T' = T
 | a :: l, T' => ∃ T1, Owns T l T1 /\ Own T1 a.z a.v a.n a.xs T'
theorem Owns.swap {T T' : Tab} {a b : Ow} {l : List Ow} (h : Owns T (a :: b :: l) T') : Owns T (b :: a :: l) T' := by
 obtain ⟨T2, ⟨T1, h1, hb, hb'⟩, ha, ha'⟩ := h
 rcases hb' with ⟨e1, e2, rfl⟩ | ⟨id, e1, e2, rfl⟩ <;> rcases ha' with ⟨e3, e4, rfl⟩ | ⟨id', e3, e4, rfl⟩
 ·exact ⟨_, ⟨_, h1, ha, .inl ⟨e3, e4, rfl⟩⟩, hb, .inl ⟨e1, e2, rfl⟩⟩
 ·exact ⟨_, ⟨_, h1, ha, .inr ⟨id', e3, e4, rfl⟩⟩, hb, .inl ⟨e1, e2, rfl⟩⟩
 ·exact ⟨_, ⟨_, h1, ha, .inl ⟨e3, e4, rfl⟩⟩, hb, .inr ⟨id, e1, e2, rfl⟩⟩
 ·obtain ⟨hne, hu⟩ := Tab.unused_put e4
  refine ⟨_, ⟨_, h1, ha, .inr ⟨id', e3, hu, rfl⟩⟩, hb, .inr ⟨id, e1, ?_, ?_⟩⟩
  ·rw [Tab.put_ne _ _ (Ne.symm hne)]; exact e2
  ·exact Tab.put_comm _ (Ne.symm hne) _ _
theorem Owns.bring {T T' : Tab} {a : Ow} : ∀ {l m : List Ow}, Owns T (l ++ a :: m) T' -> Owns T (a :: (l ++ m)) T'
 | [], _, h => h
 | b :: l, m, h => by
  obtain ⟨T1, h1, h2⟩ := h
  exact Owns.swap ⟨T1, Owns.bring h1, h2⟩
theorem Owns.app {T T1 : Tab} {a : Ow} {l : List Ow} {b m : Nat} {y : AV} {news : List AV} {K : AV -> Tab -> Prop} (h : Owns T (a :: l) T1) (hy : G4 T1 a.z y = some news) (hm : q1e y = m)
  (h1 : (a.n + m) * b <= 140737488355328) (h2 : a.n + m <= 9223372036854775807) (hk : ∀ v' T2, Owns T (⟨a.z, v', a.n + m, a.xs ++ news⟩ :: l) T2 -> K v' T2) : q1q a.z b T1 a.v y K := by
 obtain ⟨T0, h0, ho⟩ := h
 exact ho.app hy hm h1 h2 fun v' T2 h' => hk v' T2 ⟨T0, h0, h'⟩
theorem Owns.form {T : Tab} {a : Ow} : ∀ {l : List Ow} {T1 : Tab}, Owns T l T1 -> a ∈ l -> a.v.plain = true /\ a.v.isOne = true /\ a.v.sto = true /\ a.v.cells = [a.v] /\ a.v.isLp = false /\ ∀ k, a.v.offLp k = a.v
 | b :: l, T1, ⟨T0, h0, ho⟩, hm => by
  rcases List.mem_cons.1 hm with rfl | hm
  ·exact ho.form
  ·exact Owns.form h0 hm
theorem Owns.one {T T' : Tab} {z n : Nat} {v : AV} {xs : List AV} (h : Own T z v n xs T') : Owns T [⟨z, v, n, xs⟩] T' := ⟨T, rfl, h⟩
theorem Owns.fin {T : Tab} : ∀ {l : List Ow} {T' : Tab}, Owns T l T' -> ∃ S, S.Nodup /\ (∀ id ∈ S, T' id ≠ .unused /\ T id = .unused) /\ qm9 T' S = T /\ ∀ a ∈ l, ∃ cap, qhg T' S a.v = .fz a.n a.xs cap
 | [], T', h => ⟨[], List.nodup_nil, by simp, h, by simp⟩
 | a :: l, T', h => by
  obtain ⟨T1, h1, hx, h2⟩ := h
  obtain ⟨S, k1, k2, k3, k4⟩ := Owns.fin h1
  rcases h2 with ⟨e1, e2, rfl⟩ | ⟨id, e1, e2, rfl⟩
  ·refine ⟨S, k1, k2, k3, fun b hb => ?_⟩
   rcases List.mem_cons.1 hb with rfl | hb
   ·have : b.xs = [] := by rw [e2] at hx; simpa using hx
    rw [e1, e2, this]; exact ⟨some 0, rfl⟩
   ·exact k4 b hb
  ·have hid : id ∉ S := fun e => (k2 id e).1 e2
   have hkill : ∀ (S' : List Nat) (T2 : Tab), id ∉ S' -> qm9 (T2.put id (.row a.z a.xs)) S' = (qm9 T2 S').put id (.row a.z a.xs) := by
    intro S'
    induction S' with
    | nil => intro T2 _; rfl
    | cons j S' ih =>
     intro T2 hj
     simp only [List.mem_cons, not_or] at hj
     simp only [qm9]
     rw [ih T2 hj.2, Tab.put_comm _ hj.1]
   have hTid : T id = .unused := by
    rw [<- k3, qkr hid]; exact e2
   refine ⟨id :: S, List.nodup_cons.2 ⟨hid, k1⟩, fun j hj => ?_, ?_, fun b hb => ?_⟩
   ·rcases List.mem_cons.1 hj with rfl | hj
    ·exact ⟨by rw [Tab.put_same]; simp, hTid⟩
    ·refine ⟨?_, (k2 j hj).2⟩
     rw [Tab.put_ne _ _ (fun e => hid (by rw [<- e]; exact hj))]; exact (k2 j hj).1
   ·simp only [qm9]
    rw [hkill S T1 hid, Tab.put_put, k3, Tab.put_self hTid]
   ·rcases List.mem_cons.1 hb with rfl | hb
    ·refine ⟨none, ?_⟩
     rw [e1]
     simp only [qhg, List.mem_cons, true_or, if_true, Tab.put_same, Nat.zero_add, List.drop_zero]
     rw [if_pos (by omega), List.take_of_length_le (by omega)]
    ·obtain ⟨cap, hc⟩ := k4 b hb
     refine ⟨cap, ?_⟩
     rw [<- hc]
     cases hv : b.v with
     | sl id' o n cap' =>
      have hne : id' ≠ id := by
       rintro rfl
       rw [hv] at hc
       simp only [qhg] at hc
       rw [if_neg hid] at hc
       cases hc
      simp only [qhg, List.mem_cons, hne, false_or, Tab.put_ne _ _ hne]
     | ptr id' o => rw [hv] at hc; simp only [qhg] at hc; split at hc <;> (try split at hc) <;> cases hc
     | _ => rfl
theorem q1f {T T' : Tab} {l : List Ow} {r r' : AV} (h : Owns T l T') (hr : ∀ S, (∀ a ∈ l, ∃ cap, qhg T' S a.v = .fz a.n a.xs cap) -> Wk (qo7 T' S r) r') : qta r (fun v T'' => v = r' /\ T'' = T) T' := by
 obtain ⟨S, k1, k2, k3, k4⟩ := h.fin
 unfold qta
 exact ⟨S, T, r', k1, fun id hid => (k2 id hid).1, fun id => .inr (.inl (by rw [k3])), hr S k4, rfl, rfl⟩
end Go.Aw
namespace Go.Aw
open Go
variable [Glob]
set_option linter.all false
theorem U6 {α : Type} {xs ys : List α} {y : α} {k : Nat} (hk : xs.drop k = y :: ys) : k < xs.length /\ xs[k]? = some y /\ xs.drop (k + 1) = ys := by
 refine ⟨?_, ?_, by rw [<- List.drop_drop, hk]; rfl⟩
 ·have : (xs.drop k).length = ys.length + 1 := by rw [hk]; rfl
  rw [List.length_drop] at this; omega
 ·have : (xs.drop k)[0]? = some y := by rw [hk]; rfl
  simpa using this
theorem Q7 {α : Type} {xs : List α} {k : Nat} (hk : xs.drop k = []) (hle : k <= xs.length) : xs.length = k := by have := List.drop_eq_nil_iff.1 hk; omega
theorem q05 {α : Type} {xs : List α} {k : Nat} {y : α} (h : xs[k]? = some y) : xs.take (k + 1) = xs.take k ++ [y] := by
 rw [List.take_add_one, h]; rfl
theorem Own.fin {T T' : Tab} {z n : Nat} {v : AV} {xs : List AV} {Q : AV -> Tab -> Prop} (h : Own T z v n xs T') (hQ : ∀ v T', Own T z v n xs T' -> Q v T') : qta v Q T' :=
 q12 T' (fun _ => .inr (.inl rfl)) (hQ v T' h)
theorem CallK.as {P : Program} {f : FuncId} {avs : List AV} {T T1 : Tab} {k : AV -> Tab -> Prop} {r : AV} (h : ACalls P f avs T (fun v T' => v = r /\ T' = T1)) (hk : k r T1) : CallK P f avs T k :=
 .of h fun v T' h => by rw [h.1, h.2]; exact hk
theorem qev {T T1 : Tab} {r r' : AV} (h : Wk r r') (hT : T = T1) : qta r (fun v T' => v = r' /\ T' = T1) T := by
 subst hT
 exact ⟨[], T, r', List.nodup_nil, by simp, fun _ => .inr (.inl rfl), by rw [qiv]; exact h, rfl, rfl⟩
theorem Q1 {P : Program} {d : Option Nat} {f : FuncId} {args : List Operand} {k : Nat} {want : Bool} {rc : RC} {K : Env -> Loc -> Tab -> Prop} {e : Env} {L : Loc} {T : Tab} : G9 P ⟨d, .call f args, some (k, want), rc⟩ K e L T =
  gst e k want (Hold.mk (a := G9 P ⟨d, .call f args, none, rc⟩ K e L T)) (Hold.mk (a := G6 (q0y e d (.tup [])) L T rc /\ K (q0y e d (.tup [])) L T)) := by
 rw [zev _ rfl, zam]
theorem Owns.base_get {T : Tab} {id : Nat} (hid : T id ≠ .unused) : ∀ {l : List Ow} {T' : Tab}, Owns T l T' -> T' id = T id
 | [], T', h => by rw [show T' = T from h]
 | a :: l, T', ⟨T1, h1, hx, h2⟩ => by
  have ih := Owns.base_get hid h1
  rcases h2 with ⟨_, _, rfl⟩ | ⟨j, _, hj, rfl⟩
  ·exact ih
  ·have hne : id ≠ j := fun e => by subst e; rw [ih] at hj; exact hid hj
   rw [Tab.put_ne _ _ hne]; exact ih
theorem Owns.base_put {T : Tab} {id : Nat} {s : Slot} (hid : T id ≠ .unused) : ∀ {l : List Ow} {T' : Tab}, Owns T l T' -> Owns (T.put id s) l (T'.put id s)
 | [], T', h => by rw [show T' = T from h]; rfl
 | a :: l, T', ⟨T1, h1, hx, h2⟩ => by
  have ih := Owns.base_put (s := s) hid h1
  have hg := Owns.base_get hid h1
  rcases h2 with ⟨e1, e2, rfl⟩ | ⟨j, e1, hj, rfl⟩
  ·exact ⟨_, ih, hx, .inl ⟨e1, e2, rfl⟩⟩
  ·have hne : j ≠ id := fun e => by subst e; rw [hg] at hj; exact hid hj
   refine ⟨_, ih, hx, .inr ⟨j, e1, by rw [Tab.put_ne _ _ hne]; exact hj, ?_⟩⟩
   exact (Tab.put_comm _ hne _ _)
theorem Owns.le {T : Tab} : ∀ {l : List Ow} {T' : Tab}, Owns T l T' -> ∀ j, SlotLe (T j) (T' j)
 | [], T', h, j => by rw [show T' = T from h]; exact .inr (.inl rfl)
 | a :: l, T', ⟨T1, h1, hx, h2⟩, j => by
  have ih := Owns.le h1 j
  rcases h2 with ⟨_, _, rfl⟩ | ⟨i, _, hi, rfl⟩
  ·exact ih
  ·by_cases e : j = i
   ·subst e
    rw [hi] at ih
    rcases ih with h | h | ⟨_, _, _, h, _⟩
    ·exact .inl h
    ·exact .inl h
    ·cases h
   ·rw [Tab.put_ne _ _ e]; exact ih
theorem Owns.get {T : Tab} {a : Ow} : ∀ {l : List Ow} {T' : Tab}, Owns T l T' -> a ∈ l -> 0 < a.n -> ∃ id, a.v = .sl id 0 a.n none /\ T' id = .row a.z a.xs /\ T id = .unused
 | b :: l, T', ⟨T1, h1, hx, h2⟩, hm, hn => by
  rcases List.mem_cons.1 hm with rfl | hm
  ·rcases h2 with ⟨_, e, _⟩ | ⟨i, e1, hi, rfl⟩
   ·omega
   ·refine ⟨i, e1, Tab.put_same .., ?_⟩
    have hle := h1.le i
    rw [hi] at hle
    rcases hle with h | h | ⟨_, _, _, h, _⟩
    ·exact h
    ·exact h
    ·cases h
  ·obtain ⟨id, e1, e2, e3⟩ := Owns.get h1 hm hn
   rcases h2 with ⟨_, _, rfl⟩ | ⟨i, _, hi, rfl⟩
   ·exact ⟨id, e1, e2, e3⟩
   ·refine ⟨id, e1, ?_, e3⟩
    have hne : id ≠ i := fun e => by subst e; rw [hi] at e2; cases e2
    rw [Tab.put_ne _ _ hne]; exact e2
theorem SlotLe.refl (s : Slot) : SlotLe s s := .inr (.inl rfl)
theorem O1 {α : Type} {f : α -> List AV} {z : Nat} (hf : ∀ x, (f x).length = z) (l : List α) : (l.flatMap f).length = l.length * z := by
 induction l with
 | nil => simp
 | cons c l ih => simp only [List.flatMap_cons, List.length_append, List.length_cons, ih, hf, Nat.add_mul]; omega
theorem Z5 {α : Type} {f : α -> List AV} {z : Nat} (hf : ∀ x, (f x).length = z) {l : List α} {k : Nat} {x : α} (h : l[k]? = some x) : (l.flatMap f).drop (k * z) = f x ++ (l.drop (k + 1)).flatMap f := by
 induction l generalizing k with
 | nil => simp at h
 | cons a l ih =>
  cases k with
  | zero => simp at h; subst h; simp
  | succ k =>
   have := ih (k := k) (by simpa using h)
   rw [List.flatMap_cons, List.drop_succ_cons, <- this, show (k + 1) * z = (f a).length + k * z by rw [hf, Nat.add_mul]; omega, List.drop_length_add_append]
theorem Own.fzn {T T' : Tab} {z n : Nat} {v : AV} {xs : List AV} (h : Own T z v n xs T') : qta v (fun x T'' => x = .fz n xs none /\ T'' = T) T' := by
 have h' := h
 refine q1f (Owns.one h) fun S hS => ?_
 obtain ⟨c, e⟩ := hS _ (List.mem_cons_self ..)
 simp only at e
 rcases h'.2 with ⟨rfl, _⟩ | ⟨id, rfl, _⟩ <;>
 ·simp only [qo7, qdf, e]
  exact Wk.fz
def qu7 : AV -> Bool
 | .b _ | .i _ _ | .s _ | .nilptr | .fz _ _ _ | .nilmap | .nilfn | .nilifc => true
 | .agg l => l.all fun x => match x with
  | .b _ | .i _ _ | .s _ | .nilptr | .fz _ _ _ | .nilmap | .nilfn | .nilifc => true
  | _ => false
 | _ => false
theorem z8h {T : Tab} {S : List Nat} {x : AV} (h : qu7 x = true) : qdf T S x = x := by
 cases x <;> simp only [qu7] at h <;> first
  | (cases h; done)
  | rfl
  | skip
 rename_i l
 have : l.map (qhg T S) = l := by
  induction l with
  | nil => rfl
  | cons a l ih =>
   simp only [List.all_cons, Bool.and_eq_true] at h
   rw [List.map_cons, ih h.2]
   congr 1
   cases a <;> first | rfl | (simp at h; done)
 simp only [qdf, this]
theorem qr6 {T : Tab} {S : List Nat} : ∀ {l : List AV}, l.all qu7 = true -> l.map (qdf T S) = l
 | [], _ => rfl
 | a :: l, h => by
  simp only [List.all_cons, Bool.and_eq_true] at h
  rw [List.map_cons, z8h h.1, qr6 h.2]
theorem CallK.give {P : Program} {f : FuncId} {T T' : Tab} {z n : Nat} {v : AV} {xs : List AV} {pre post : List AV} {R k : AV -> Tab -> Prop} (h : Own T z v n xs T') (h1 : pre.all qu7 = true) (h2 : post.all qu7 = true)
  (hc : ∀ q, ACalls P f (pre ++ .fz n xs q :: post) T R) (hk : ∀ v T', R v T' -> k v T') : CallK P f (pre ++ v :: post) T' k := by
 obtain ⟨hx, h⟩ := h
 rcases h with ⟨rfl, rfl, rfl⟩ | ⟨id, rfl, hid, rfl⟩
 ·have : xs = [] := by simpa using hx
  subst this
  exact .of (hc (some 0)) hk
 ·unfold CallK; refine ⟨[id], R, by simp, by simp [Tab.put_same], ?_, hk⟩
  have e : ((pre ++ AV.sl id 0 n none :: post).map (qdf (T.put id (.row z xs)) [id])) = pre ++ .fz n xs none :: post := by
   rw [List.map_append, List.map_cons, qr6 h1, qr6 h2]
   simp only [qdf, qhg, List.mem_singleton, if_true, Tab.put_same, Nat.zero_add, List.drop_zero]
   rw [if_pos (by omega), List.take_of_length_le (by omega)]
  rw [e]
  have : qm9 (T.put id (.row z xs)) [id] = T := by
   simp only [qm9]; rw [Tab.put_put, Tab.put_self hid]
  rw [this]
  exact hc none
theorem CallK.give0 {P : Program} {f : FuncId} {T T' : Tab} {z n : Nat} {v : AV} {xs : List AV} {post : List AV} {R k : AV -> Tab -> Prop} (h : Own T z v n xs T') (h2 : post.all qu7 = true)
  (hc : ∀ q, ACalls P f (.fz n xs q :: post) T R) (hk : ∀ v T', R v T' -> k v T') : CallK P f (v :: post) T' k := CallK.give (pre := []) h rfl h2 hc hk
theorem qv7 {T : Tab} {z b n m : Nat} {cells news : List AV} {y : AV} {K : AV -> Tab -> Prop} (hy : G4 T z y = some news) (hm : q1e y = m) (h0 : 0 < m) (hn : cells.length = n * z)
  (h1 : (n + m) * b <= 140737488355328) (h2 : n + m <= 9223372036854775807) (hk : ∀ v T2, Own T z v (n + m) (cells ++ news) T2 -> K v T2) : q1q z b T (.fz n cells (some n)) y K := by
 have hlen := qkv hy
 rw [hm] at hlen
 unfold q1q
 rw [hy]
 simp only [hm]
 rw [if_neg (by omega)]
 refine ⟨hn, by omega, h1, h2, fun id hid => hk _ _ ⟨?_, .inr ⟨id, rfl, hid, rfl⟩⟩⟩
 rw [List.length_append, hn, hlen, Nat.add_mul]
def Gr (T : Tab) (z : Nat) (v : AV) (n : Nat) (xs : List AV) (T' : Tab) : Prop := Own T z v n xs T' \/ (v = .fz n xs (some n) /\ xs.length = n * z /\ T' = T)
theorem Gr.form {T T1 : Tab} {z n : Nat} {v : AV} {xs : List AV} (h : Gr T z v n xs T1) : v.plain = true /\ v.isOne = true /\ v.sto = true /\ v.cells = [v] /\ v.isLp = false /\ ∀ k, v.offLp k = v := by
 rcases h with h | ⟨rfl, _⟩
 ·exact h.form
 ·exact ⟨rfl, rfl, rfl, rfl, rfl, fun _ => rfl⟩
theorem Gr.app {T T1 : Tab} {z b n m : Nat} {v y : AV} {xs news : List AV} {K : AV -> Tab -> Prop} (h : Gr T z v n xs T1) (hy : G4 T1 z y = some news) (hm : q1e y = m) (h0 : 0 < m)
  (h1 : (n + m) * b <= 140737488355328) (h2 : n + m <= 9223372036854775807) (hk : ∀ v' T2, Own T z v' (n + m) (xs ++ news) T2 -> K v' T2) : q1q z b T1 v y K := by
 rcases h with h | ⟨rfl, hx, rfl⟩
 ·exact h.app hy hm h1 h2 hk
 ·exact qv7 hy hm h0 hx h1 h2 hk
theorem Gr.fzn {T T' : Tab} {z n : Nat} {v : AV} {xs : List AV} (h : Gr T z v n xs T') : qta v (fun x T'' => x = .fz n xs none /\ T'' = T) T' := by
 rcases h with h | ⟨rfl, hx, rfl⟩
 ·exact h.fzn
 ·exact qev .fz rfl
theorem Gr.fin {T T' : Tab} {z n : Nat} {v : AV} {xs : List AV} {Q : AV -> Tab -> Prop} (h : Gr T z v n xs T') (hQ : ∀ v T', Gr T z v n xs T' -> Q v T') : qta v Q T' :=
 q12 T' (fun _ => .inr (.inl rfl)) (hQ v T' h)
theorem Gr.sl {T T' : Tab} {z n : Nat} {v : AV} {xs : List AV} (h : Gr T z v n xs T') : G4 T' z v = some xs /\ q1e v = n := by
 rcases h with ⟨hx, h⟩ | ⟨rfl, hx, rfl⟩
 ·rcases h with ⟨rfl, rfl, rfl⟩ | ⟨id, rfl, hid, rfl⟩
  ·have : xs = [] := by simpa using hx
   subst this
   simp [G4, q1e]
  ·simp only [G4, Tab.put_same, q1e, Nat.zero_add, List.drop_zero, true_and, and_true]
   rw [if_pos (by omega), List.take_of_length_le (by omega)]
 ·simp only [G4, q1e]
  rw [if_pos hx]; exact ⟨rfl, trivial⟩
theorem Gr.app0 {T T1 : Tab} {z b n m : Nat} {v y : AV} {xs news : List AV} {K : AV -> Tab -> Prop} (h : Gr T z v n xs T1) (hy : G4 T1 z y = some news) (hm : q1e y = m)
  (h1 : (n + m) * b <= 140737488355328) (h2 : n + m <= 9223372036854775807) (hk : ∀ v' T2, Gr T z v' (n + m) (xs ++ news) T2 -> K v' T2) : q1q z b T1 v y K := by
 by_cases h0 : 0 < m
 ·exact h.app hy hm h0 h1 h2 fun v' T2 h => hk v' T2 (.inl h)
 ·have hm0 : m = 0 := by omega
  subst hm0
  have hl := qkv hy
  rw [hm, Nat.zero_mul] at hl
  have : news = [] := List.length_eq_zero_iff.1 hl
  subst this
  rcases h with h | ⟨rfl, hx, rfl⟩
  ·exact h.app hy hm h1 h2 fun v' T2 h => hk v' T2 (.inl h)
  ·unfold q1q
   rw [hy]
   simp only [hm, if_true]
   exact hk _ _ (.inr ⟨by simp, by simpa using hx, rfl⟩)
end Go.Aw
namespace Go.Aw
open Go
variable [Glob]
set_option linter.all false
theorem CallK.owns {P : Program} {f : FuncId} {avs : List AV} {T T' : Tab} {l : List Ow} {R k : AV -> Tab -> Prop} (h : Owns T l T')
  (hc : ∀ S, (∀ a ∈ l, ∃ cap, qhg T' S a.v = .fz a.n a.xs cap) -> ACalls P f (avs.map (qdf T' S)) T R) (hk : ∀ v T', R v T' -> k v T') : CallK P f avs T' k := by
 obtain ⟨S, k1, k2, k3, k4⟩ := h.fin
 unfold CallK
 exact ⟨S, R, k1, fun id hid => (k2 id hid).1, by rw [k3]; exact hc S k4, hk⟩
theorem Own.frzv {T T1 T2 : Tab} {S : List Nat} {z n : Nat} {v : AV} {xs : List AV} (h : Own T z v n xs T1) : Aw.qdf T2 S v = qhg T2 S v := by
 rcases h.2 with ⟨rfl, _⟩ | ⟨id, rfl, _⟩ <;> rfl
theorem SlotLe.trans {a b c : Slot} (h : SlotLe a b) (k : SlotLe b c) : SlotLe a c := by
 rcases h with rfl | rfl | ⟨z, cs, m, rfl, rfl⟩
 ·exact .inl rfl
 ·exact k
 ·rcases k with k | k | ⟨z', cs', m', rfl, k⟩
  ·cases k
  ·subst k; exact .inr (.inr ⟨z, cs, m, rfl, rfl⟩)
  ·injection k with k1 k2
   subst k1; subst k2
   exact .inr (.inr ⟨z, cs', min m m', rfl, by rw [List.take_take]⟩)
def TabLe (T T' : Tab) : Prop := ∀ j, SlotLe (T j) (T' j)
theorem TabLe.refl (T : Tab) : TabLe T T := fun _ => .inr (.inl rfl)
theorem TabLe.trans {T T1 T2 : Tab} (h : TabLe T T1) (k : TabLe T1 T2) : TabLe T T2 := fun j => (h j).trans (k j)
theorem TabLe.put {T T1 : Tab} {id : Nat} {s : Slot} (h : TabLe T T1) (hid : T id = .unused) : TabLe T (T1.put id s) := fun j => by
 by_cases e : j = id
 ·subst e; rw [hid]; exact .inl rfl
 ·rw [Tab.put_ne _ _ e]; exact h j
theorem TabLe.unused {T T' : Tab} {id : Nat} (h : TabLe T T') (hid : T' id = .unused) : T id = .unused := by
 rcases h id with e | e | ⟨z, cs, m, e, _⟩
 ·exact e
 ·rw [e, hid]
 ·rw [hid] at e; cases e
theorem TabLe.fin {T T' : Tab} {r : AV} (h : TabLe T T') : qta r (fun v T'' => v = r /\ T'' = T) T' := q12 T h ⟨rfl, rfl⟩
theorem Own.sl {T T' : Tab} {z n : Nat} {v : AV} {xs : List AV} (h : Own T z v n xs T') : G4 T' z v = some xs /\ q1e v = n := Gr.sl (.inl h)
theorem Own.ne {T T' : Tab} {z n : Nat} {v : AV} {xs : List AV} (h : Own T z v n xs T') (hn : 0 < n) : ∃ id, v = .sl id 0 n none /\ T id = .unused /\ T' = T.put id (.row z xs) := by
 rcases h.2 with ⟨_, e, _⟩ | h
 ·omega
 ·exact h
end Go.Aw
namespace Go.Aw
open Go
variable [Glob]
set_option linter.all false
def Indep (r : AV) : Prop := ∀ X X' w w' v, vr X w r v -> vr X' w' r v
theorem Indep.b {x : Bool} : Indep (.b x) := fun _ _ _ _ _ h => by simp only [vr] at h ⊢; exact h
theorem Indep.i {k : IntKind} {n : Int} : Indep (.i k n) := fun _ _ _ _ _ h => by simp only [vr] at h ⊢; exact h
theorem Indep.s {l : List UInt8} : Indep (.s l) := fun _ _ _ _ _ h => by simp only [vr] at h ⊢; exact h
theorem Indep.tup {l : List AV} (h : ∀ x ∈ l, Indep x) : Indep (.tup l) := fun X X' w w' v hv => by
 simp only [vr] at hv ⊢
 obtain ⟨us, h1, h2⟩ := hv
 refine ⟨us, ?_, h2⟩
 clear h2
 induction l generalizing us with
 | nil => simpa [vrs] using h1
 | cons x l ih =>
  simp only [vrs] at h1 ⊢
  obtain ⟨u, us', e, k1, k2⟩ := h1
  exact ⟨u, us', e, h x (List.mem_cons_self ..) _ _ _ _ _ k1, ih (fun y hy => h y (List.mem_cons_of_mem _ hy)) us' k2⟩
theorem ACalls.borrow {P : Program} {f : FuncId} {avs : List AV} {T : Tab} {S : List Nat} {r : AV} (hn : S.Nodup) (hS : ∀ id ∈ S, T id ≠ .unused) (h : PCalls P f (avs.map (qdf T S)) r) (hr : Indep r) :
  ACalls P f avs T (fun v T' => v = r /\ T' = T) := by
 intro X lam w cargs hrel hv
 have h0 : SR X T w X lam [] [] T { tmps := #[], defers := [] } w := ⟨hrel, .refl X T w, fun l c hc => by simp [q2d] at hc, fun s x hs => by simp [q2d] at hs, rfl⟩
 have h1 := h0.freezes S hn hS
 have h2 := h1.sub (T' := Tab.nil) (fun id => .inl rfl)
 have hv' : vrs (X.addFzs S) w (avs.map (qdf T S)) cargs := hv.map fun x v hx => qip hrel hx
 have hc := h Tab.nil (X.addFzs S) lam w cargs h2.rel hv'
 refine hc.mono fun e w' ⟨v, x, T', X', lam', he, ⟨hx, hT⟩, hvr, hrel', hst⟩ => ?_
 subst hx; subst hT
 have hk : ∀ b, b < w.heap.size -> w'.heap[b]? = w.heap[b]? := fun b hb => hst.kept b hb fun ⟨id, hid, _⟩ => hid rfl
 have hfz : q9b X w w' := fun b hb => hk b (hrel.fzlt b hb)
 have hlt : ∀ id, T id ≠ .unused -> (X.β id).blk < w.heap.size := fun id hid => hrel.live_lt ⟨id, hid, rfl⟩
 refine ⟨v, x, T, X, lam, he, ⟨rfl, rfl⟩, hr _ _ _ _ _ hvr, ⟨hrel.fresh, fun b hb => Nat.lt_of_lt_of_le (hrel.fzlt b hb) hst.size, fun id esz cells hT => ?_, fun id es hT => ?_, hrel.live_fz, hrel.live_inj, fun l c hc => by simp [q2d] at hc, fun l c hc => by simp [q2d] at hc, fun l l' c c' hc => by simp [q2d] at hc, fun l c hc => by simp [q2d] at hc, q2u (.refl X) hfz hrel.glob⟩,
  ⟨.refl X, hst.os, hst.tape, hst.output, hst.size, fun b hb _ => hk b hb, fun _ _ hf => .inl hf, fun _ _ hl => hl, fun _ _ hT => hT⟩⟩
 ·exact (hrel.row id esz cells hT).mono (.refl X) hfz (hrel.id_lt (by simp [hT])) (hk _ (hlt id (by simp [hT])))
 ·exact (hrel.map id es hT).mono (.refl X) hfz (hrel.id_lt (by simp [hT])) (hk _ (hlt id (by simp [hT])))
theorem CallK.borrow {P : Program} {f : FuncId} {avs : List AV} {T T' : Tab} {l : List Ow} {r : AV} {k : AV -> Tab -> Prop} (h : Owns T l T')
  (hc : ∀ S, (∀ a ∈ l, ∃ cap, qhg T' S a.v = .fz a.n a.xs cap) -> PCalls P f (avs.map (qdf T' S)) r) (hr : Indep r) (hk : k r T') : CallK P f avs T' k := by
 obtain ⟨S, k1, k2, k3, k4⟩ := h.fin
 exact CallK.as (ACalls.borrow k1 (fun id hid => (k2 id hid).1) (hc S k4) hr) hk
end Go.Aw
namespace Go.Aw
open Go
variable [Glob]
set_option linter.all false
theorem Wk.fzs {n : Nat} {cells cells' : List AV} {cap : Option Nat} (h : Wks cells cells') : Wk (.fz n cells cap) (.fz n cells' none) := fun X w v hv => by
 have h1 := Wk.fz (n := n) (cells := cells) (cap := cap) X w v hv
 simp only [vr] at h1 ⊢
 obtain ⟨us, h2, h3⟩ := h1
 exact ⟨us, h.vrs h2, h3⟩
theorem Wks.append : ∀ {a b c d : List AV}, Wks a b -> Wks c d -> Wks (a ++ c) (b ++ d)
 | [], [], _, _, _, h => h
 | _ :: _, _ :: _, _, _, h, k => ⟨h.1, Wks.append h.2 k⟩
section
variable {T : Tab} {S : List Nat}
theorem Own.frX {T0 T1 : Tab} {z n : Nat} {v : AV} {xs : List AV} (h : Own T0 z v n xs T1) : Aw.frX T S v = qhg T S v := by
 rcases h.2 with ⟨rfl, _⟩ | ⟨id, rfl, _⟩ <;> rfl
end
theorem Own.lenAv {T0 T1 : Tab} {z n : Nat} {v : AV} {xs : List AV} (h : Own T0 z v n xs T1) : Aw.qpw false v = some (.i .i64 (n : Nat)) := by
 rcases h.2 with ⟨rfl, rfl, _⟩ | ⟨id, rfl, _⟩ <;> rfl
theorem Owns.lenAv {T T' : Tab} {a : Ow} {l : List Ow} (h : Owns T (a :: l) T') : Aw.qpw false a.v = some (.i .i64 (a.n : Nat)) := by
 obtain ⟨T0, _, ho⟩ := h
 exact ho.lenAv
end Go.Aw
namespace Go.Aw
open Go
set_option linter.all false
def enc (n : Nat) : List UInt8 := if h : n < 128 then [UInt8.ofNat n] else UInt8.ofNat (n % 128 + 128) :: enc (n / 128)
termination_by n
decreasing_by omega
theorem q06 {n : Nat} (h : n < 128) : enc n = [UInt8.ofNat n] := by rw [enc, dif_pos h]
theorem qog {n : Nat} (h : ¬ n < 128) : enc n = UInt8.ofNat (n % 128 + 128) :: enc (n / 128) := by rw [enc, dif_neg h]
theorem zk6 : ∀ m : Fin 256, (BitVec.ofInt 8 (m.val : Int) ||| BitVec.ofInt 8 128).toNat = m.val % 128 + 128 := by decide +kernel
theorem zgv : ∀ m : Fin 256, (BitVec.ofInt 8 (m.val : Int) &&& BitVec.ofInt 8 127).toNat = m.val % 128 := by decide +kernel
theorem qck (n : Int) : IntKind.u8.wrap n = n % 256 := by
 simp [IntKind.wrap, IntKind.signed, IntKind.bits]
theorem zbw (n : Nat) : IntKind.u8.wrap ((BitVec.ofInt 8 (IntKind.u8.wrap (n : Int)) ||| BitVec.ofInt 8 128).toNat : Nat) = ((n % 128 + 128 : Nat) : Int) := by
 have h := zk6 ⟨n % 256, Nat.mod_lt _ (by decide)⟩
 simp only at h
 rw [qck (n : Int), show (n : Int) % 256 = ((n % 256 : Nat) : Int) by omega, h, qck]
 omega
end Go.Aw
namespace Go.Aw
open Go
set_option linter.all false
def dec : Nat -> Nat -> List UInt8 -> Option (Nat × Nat)
 | _, _, [] => none
 | i, a, c :: cs => if 9 < i \/ (i = 9 /\ 1 < c.toNat) then none else
   if c.toNat < 128 then (if c.toNat = 0 /\ 0 < i then none else some (a + c.toNat % 128 * 128 ^ i, i + 1)) else dec (i + 1) (a + c.toNat % 128 * 128 ^ i) cs
theorem zan (i : Nat) : 128 ^ i = 2 ^ (7 * i) := by rw [show 128 = 2 ^ 7 from rfl, <- Nat.pow_mul]
theorem z1n (m : Nat) : enc m ≠ [] := by rw [enc]; split <;> simp
theorem z5h : ∀ (k m : Nat), m < 128 ^ (k + 1) -> (enc m).length <= k + 1
 | 0, m, h => by rw [q06 (by omega)]; simp
 | k + 1, m, h => by
  by_cases h1 : m < 128
  ·rw [q06 h1]; simp
  ·rw [qog h1]
   have := z5h k (m / 128) (by rw [Nat.div_lt_iff_lt_mul (by decide)]; rw [Nat.pow_succ] at h; omega)
   simp; omega
theorem K5 {m : Nat} (h : m < 18446744073709551616) : (enc m).length <= 10 := z5h 9 m (by omega)
theorem z5i : ∀ (bs : List UInt8) (i a n z : Nat), i <= 10 -> a < 128 ^ i -> dec i a bs = some (n, z) -> ∃ m, n = a + m * 128 ^ i /\ z = i + (enc m).length /\ (enc m).length <= bs.length /\ bs.take (enc m).length = enc m /\ n < 18446744073709551616 /\ (0 < i -> 0 < m)
 | [], _, _, _, _, _, _, h => by simp [dec] at h
 | c :: cs, i, a, n, z, hi, ha, h => by
  simp only [dec] at h
  have hc := c.toNat_lt
  split at h
  ·cases h
  ·rename_i hn
   have hi9 : i <= 9 := by omega
   have hp : 0 < 128 ^ i := Nat.pow_pos (by decide)
   split at h
   ·rename_i hs
    split at h
    ·cases h
    ·rename_i hz
     injection h with h; injection h with h1 h2
     subst h1; subst h2
     have e : UInt8.ofNat c.toNat = c := by simp
     refine ⟨c.toNat, by rw [Nat.mod_eq_of_lt hs], by rw [q06 hs]; rfl, by rw [q06 hs]; simp, by rw [q06 hs]; simp, ?_, by omega⟩
     rw [Nat.mod_eq_of_lt hs]
     by_cases h9 : i = 9
     ·subst h9
      have : (128 : Nat) ^ 9 = 9223372036854775808 := by decide
      rw [this] at ha ⊢
      have : c.toNat <= 1 := by omega
      omega
     ·have h8 : 128 ^ i <= 128 ^ 8 := Nat.pow_le_pow_right (by decide) (by omega)
      have h88 : (128 : Nat) ^ 8 = 72057594037927936 := by decide
      have : c.toNat * 128 ^ i <= 127 * 128 ^ i := Nat.mul_le_mul_right _ (by omega)
      omega
   ·rename_i hs
    have hn9 : i ≠ 9 := by omega
    have ha' : a + c.toNat % 128 * 128 ^ i < 128 ^ (i + 1) := by
     have : c.toNat % 128 * 128 ^ i <= 127 * 128 ^ i := Nat.mul_le_mul_right _ (by omega)
     rw [Nat.pow_succ]; omega
    obtain ⟨m, h1, h2, h3, h4, h5, h6⟩ := z5i cs (i + 1) _ n z (by omega) ha' h
    have hm := h6 (by omega)
    have hbig : ¬ (m * 128 + c.toNat % 128 < 128) := by omega
    have e1 : (m * 128 + c.toNat % 128) % 128 = c.toNat % 128 := by omega
    have e2 : (m * 128 + c.toNat % 128) / 128 = m := by omega
    have e3 : UInt8.ofNat (c.toNat % 128 + 128) = c := by
     apply UInt8.toNat_inj.1
     rw [UInt8.toNat_ofNat_of_lt' (by show c.toNat % 128 + 128 < 256; omega)]; omega
    have henc : enc (m * 128 + c.toNat % 128) = c :: enc m := by rw [qog hbig, e1, e2, e3]
    refine ⟨m * 128 + c.toNat % 128, ?_, by rw [henc, h2, List.length_cons]; omega, by rw [henc, List.length_cons, List.length_cons]; omega, by rw [henc, List.length_cons, List.take_succ_cons, h4], h5, by omega⟩
    rw [h1, Nat.pow_succ, Nat.add_mul, Nat.mul_assoc, Nat.mul_comm 128 (128 ^ i)]; omega
theorem qv8 {bs : List UInt8} {n z : Nat} (h : dec 0 0 bs = some (n, z)) : z = (enc n).length /\ z <= bs.length /\ bs = enc n ++ bs.drop z /\ n < 18446744073709551616 := by
 obtain ⟨m, h1, h2, h3, h4, h5, _⟩ := z5i bs 0 0 n z (by omega) (by decide) h
 have e : n = m := by omega
 subst e
 have hz : z = (enc n).length := by omega
 refine ⟨hz, by omega, ?_, h5⟩
 have h6 := (List.take_append_drop z bs).symm
 rw [hz, h4] at h6
 rw [hz]
 exact h6
abbrev RS := List UInt8 × Bool
def K2 (k : Nat) (s : RS) : Nat × RS :=
 if s.2 = true then (0, s) else match dec 0 0 s.1 with
  | some (n, z) => if n <= k then (n, (s.1.drop z, false)) else (0, (s.1, true))
  | none => (0, (s.1, true))
def q2f (k : Nat) (s : RS) : List UInt8 × RS :=
 if (K2 k s).2.2 = true \/ (K2 k s).2.1.length < (K2 k s).1 then ([], ((K2 k s).2.1, true)) else ((K2 k s).2.1.take (K2 k s).1, ((K2 k s).2.1.drop (K2 k s).1, false))
theorem z5j {k : Nat} {s : RS} (h : s.2 = true) : K2 k s = (0, s) := by simp [K2, h]
theorem q1d (k : Nat) (s : RS) : (K2 k s).1 <= k := by
 unfold K2
 split
 ·exact Nat.zero_le _
 ·split
  ·split
   ·assumption
   ·exact Nat.zero_le _
  ·exact Nat.zero_le _
theorem U2 (k : Nat) (s : RS) : (K2 k s).2.1.length <= s.1.length := by
 unfold K2
 split
 ·exact Nat.le_refl _
 ·split
  ·split
   ·simp
   ·exact Nat.le_refl _
  ·exact Nat.le_refl _
theorem q9v (k : Nat) (s : RS) : (q2f k s).2.1.length <= s.1.length := by
 unfold q2f
 have := U2 k s
 split
 ·exact this
 ·simp only [List.length_drop]; omega
theorem qmk (k : Nat) (s : RS) : (q2f k s).1.length <= k := by
 unfold q2f
 have := q1d k s
 split
 ·exact Nat.zero_le _
 ·simp only [List.length_take]; omega
theorem V6 {k : Nat} {s : RS} (h : (K2 k s).2.2 = false) : s.2 = false /\ s.1 = enc (K2 k s).1 ++ (K2 k s).2.1 /\ (K2 k s).1 < 18446744073709551616 := by
 unfold K2 at h ⊢
 split at h
 ·rename_i hb; rw [hb] at h; cases h
 ·rename_i hb
  rw [if_neg hb]
  split at h
  ·rename_i n z hd
   split at h
   ·rename_i hle
    simp only [hd, if_pos hle]
    obtain ⟨h1, h2, h3, h4⟩ := qv8 hd
    exact ⟨by simpa using hb, h3, h4⟩
   ·cases h
  ·cases h
theorem qew {k : Nat} {s : RS} (h : (q2f k s).2.2 = false) : s.2 = false /\ s.1 = enc (q2f k s).1.length ++ (q2f k s).1 ++ (q2f k s).2.1 := by
 unfold q2f at h ⊢
 split at h
 ·cases h
 ·rename_i hn
  rw [if_neg hn]
  have hb : (K2 k s).2.2 = false := by
   cases hq : (K2 k s).2.2 with
   | false => rfl
   | true => exact absurd (.inl hq) hn
  obtain ⟨h1, h2, h3⟩ := V6 hb
  have hl : ¬ (K2 k s).2.1.length < (K2 k s).1 := fun hq => hn (.inr hq)
  refine ⟨h1, ?_⟩
  simp only [List.length_take]
  rw [Nat.min_eq_left (by omega), List.append_assoc, List.take_append_drop]
  exact h2
end Go.Aw
namespace Go.Aw
open Go
variable [Glob]
set_option linter.all false
theorem q26 {a b : Nat} (h : a <= b) (hb : Len b) : Len a := by unfold Len at *; omega
def qiw (b : Bool) : UInt8 := if b = true then 1 else 0
theorem qv9 (b : Bool) : [qiw b] = enc (if b = true then 1 else 0) := by cases b <;> (rw [q06 (by decide)]; rfl)
theorem enc_bit' (b : Bool) : enc (if b = true then (1 : Nat) else 0) = [qiw b] := (qv9 b).symm
theorem z5k {n : Nat} (h : n <= 1) : enc n = [qiw (decide (n = 1))] := by
 have : n = 0 \/ n = 1 := by omega
 rcases this with rfl | rfl <;> (rw [q06 (by decide)]; rfl)
def Y5 {α : Type} (f : RS -> α × RS) : Nat -> RS -> List α × RS
 | 0, s => ([], s)
 | n + 1, s => if s.2 = true then ([], s) else ((f s).1 :: (Y5 f n (f s).2).1, (Y5 f n (f s).2).2)
theorem qml {α : Type} {f : RS -> α × RS} {g : α -> List UInt8} (hf : ∀ s, (f s).2.2 = false -> s.2 = false /\ s.1 = g (f s).1 ++ (f s).2.1) : ∀ (n : Nat) (s : RS), (Y5 f n s).2.2 = false -> s.2 = false /\ s.1 = (Y5 f n s).1.flatMap g ++ (Y5 f n s).2.1 /\ (Y5 f n s).1.length = n
 | 0, s, h => ⟨h, rfl, rfl⟩
 | n + 1, s, h => by
  simp only [Y5] at h ⊢
  split at h
  ·rename_i hb; rw [hb] at h; cases h
  ·rename_i hb
   rw [if_neg hb]
   obtain ⟨h1, h2, h3⟩ := qml hf n _ h
   obtain ⟨h4, h5⟩ := hf s h1
   refine ⟨h4, ?_, by simp [h3]⟩
   rw [h5, h2]
   simp
theorem q9w {α : Type} {f : RS -> α × RS} (hf : ∀ s, (f s).2.1.length <= s.1.length) : ∀ (n : Nat) (s : RS), (Y5 f n s).2.1.length <= s.1.length
 | 0, s => Nat.le_refl _
 | n + 1, s => by
  simp only [Y5]
  split
  ·exact Nat.le_refl _
  ·exact Nat.le_trans (q9w hf n _) (hf s)
theorem qix {α : Type} {f : RS -> α × RS} : ∀ (n : Nat) (s : RS), (Y5 f n s).1.length <= n
 | 0, s => Nat.le_refl _
 | n + 1, s => by
  simp only [Y5]
  split
  ·exact Nat.zero_le _
  ·have := qix (f := f) n (f s).2; simp only [List.length_cons]; omega
theorem qcl {α : Type} {f : RS -> α × RS} {p : α -> Prop} (h : ∀ s, p (f s).1) : ∀ (n : Nat) (s : RS), ∀ x ∈ (Y5 f n s).1, p x
 | 0, s, x, hx => by simp [Y5] at hx
 | n + 1, s, x, hx => by
  simp only [Y5] at hx
  split at hx
  ·cases hx
  ·simp only [List.mem_cons] at hx
   rcases hx with rfl | hx
   ·exact h s
   ·exact qcl h n _ x hx
theorem q2x {α : Type} {g : α -> List UInt8} {m : Nat} : ∀ (l : List α), (∀ x ∈ l, (g x).length <= m) -> (l.flatMap g).length <= l.length * m
 | [], _ => by simp
 | x :: l, h => by
  have h1 := q2x l fun y hy => h y (List.mem_cons_of_mem _ hy)
  have h2 := h x (List.mem_cons_self ..)
  rw [List.flatMap_cons, List.length_append, List.length_cons, Nat.add_mul]; omega
theorem qex {n : Nat} (h : n < 1000000000) : IntKind.i64.wrap (((n + 1 : Nat) : Int) - 1) = (n : Int) := by rw [q2l (by unfold I64; omega)]; omega
theorem Own.at {B T1 : Tab} {id z n : Nat} {v : AV} {xs : List AV} (h : Own B z v n xs T1) (hB : B id ≠ .unused) : T1 id = B id := Owns.base_get hB (Owns.one h)
end Go.Aw
namespace Go.Aw
open Go Go.ChangeShapes Go.WideShapes Go.ChangeAt Go.RowKit
variable [Glob]
set_option linter.all false
inductive Ty where
 | int (k : IntKind)
 | bool
 | str
 | sl (e : Ty)
 | st (fs : List Ty)
 | ar (n : Nat) (e : Ty)
mutual
def qav : Ty -> List AV -> Prop
 | .int k, cs => ∃ n, cs = [.i k n] /\ (Lit.int k n).wf = true
 | .bool, cs => ∃ b, cs = [.b b]
 | .str, cs => ∃ l : List UInt8, cs = [.s l] /\ l.length <= maxLen
 | .sl e, cs => ∃ ps : List (List AV), ps.length <= maxLen /\ (∀ p ∈ ps, qav e p) /\ ∃ k, cs = [.fz ps.length ps.flatten k]
 | .st fs, cs => q6f fs cs
 | .ar n e, cs => ∃ ps : List (List AV), ps.length = n /\ (∀ p ∈ ps, qav e p) /\ cs = ps.flatten
def q6f : List Ty -> List AV -> Prop
 | [], cs => cs = []
 | f :: fs, cs => ∃ a b, cs = a ++ b /\ qav f a /\ q6f fs b
end
mutual
def qwh (P : Program) : Ty -> TypeId -> Bool
 | .int k, t => match P.underlying t with
  | some (.int k') => decide (k' = k)
  | _ => false
 | .bool, t => match P.underlying t with
  | some .bool => true
  | _ => false
 | .str, t => match P.underlying t with
  | some .string => true
  | _ => false
 | .sl e, t => match P.underlying t with
  | some (.slice e') => qwh P e e'
  | _ => false
 | .st fs, t => match P.underlying t with
  | some (.struct gs) => qzn P fs gs.toList 0 (P.cellsOf t)
  | _ => false
 | .ar n e, t => match P.underlying t with
  | some (.array m e') => decide (m = n) && qwh P e e' && decide (P.cellsOf t = n * P.cellsOf e')
  | _ => false
def qzn (P : Program) : List Ty -> List Field -> Nat -> Nat -> Bool
 | [], [], o, n => decide (o = n)
 | f :: fs, g :: gs, o, n => decide (g.offset = o) && qwh P f g.type && qzn P fs gs (o + P.cellsOf g.type) n
 | _, _, _, _ => false
end
section
variable {P : Program} {X : Cx} {W : World} {H : Type} {enc : TypeId × Value -> H} {base : Nat} {sp : Nat -> Bool} {held : Bool}
theorem z8i {a : Addr} {j : Nat} {u : Value} (h : W.cell? (a.add j) = some u) : W.cell? ⟨a.block, a.off + j, none⟩ = some u := by
 by_cases hj : j = 0
 ·subst hj
  have e : a.add 0 = a := by simp [Addr.add]
  rw [e] at h
  have hs : a.spot = none := by
   unfold World.cell? at h
   split at h
   ·split at h
    ·cases h
    ·rename_i hs; simpa using hs
   ·cases h
  rw [qin hs] at h
  simpa using h
 ·simpa [Addr.add, hj] using h
theorem add_add' (a : Addr) (i j : Nat) : (a.add i).add j = a.add (i + j) := by
 unfold Addr.add
 by_cases hi : i = 0 <;> by_cases hj : j = 0 <;> simp [hi, hj, Nat.add_assoc]
theorem z5l {a : Addr} {u : Value} (h : W.cell? a = some u) : a.block < W.heap.size := by
 unfold World.cell? at h
 split at h
 ·rename_i hb; exact (Array.getElem?_eq_some_iff.1 hb).1
 ·cases h
theorem z5m {a : Addr} {u : Value} (h : W.cell? a = some u) : a.spot = none := by
 unfold World.cell? at h
 split at h
 ·split at h
  ·cases h
  ·rename_i hs; simpa using hs
 ·cases h
theorem qzo {l m : List AV} {us vs : List Value} (h : vrs X W l us) (k : vrs X W m vs) : vrs X W (l ++ m) (us ++ vs) := by
 induction l generalizing us with
 | nil => simp only [vrs] at h; subst h; exact k
 | cons x l ih =>
  simp only [vrs] at h
  obtain ⟨u, us', rfl, h1, h2⟩ := h
  exact ⟨u, us' ++ vs, rfl, h1, ih h2⟩
theorem z8j {z : Nat} {e : Ty} {a : Addr} {len : Nat} (h : ∀ i, i < len -> ∃ cs ps, cs.length = z /\ (∀ r, r < z -> W.cell? ((a.add (i * z)).add r) = cs[r]?) /\ vrs X W ps cs /\ qav e ps /\ ∀ u ∈ cs, u.oneCell' = true) :
  ∃ (us : List Value) (ps : List (List AV)), ps.length = len /\ us.length = len * z /\ vrs X W ps.flatten us /\ (∀ p ∈ ps, qav e p) /\ (∀ u ∈ us, u.oneCell' = true) /\ ∀ (j : Nat) u, us[j]? = some u -> W.cell? (a.add j) = some u := by
 induction len with
 | zero => exact ⟨[], [], rfl, by simp, by simp [vrs], by simp, by simp, by simp⟩
 | succ n ih =>
  obtain ⟨us, ps, h1, h2, h3, h4, h5, h6⟩ := ih fun i hi => h i (Nat.lt_succ_of_lt hi)
  obtain ⟨cs, p, k1, k2, k3, k4, k5⟩ := h n (Nat.lt_succ_self n)
  refine ⟨us ++ cs, ps ++ [p], by simp [h1], by simp [h2, k1, Nat.succ_mul], ?_, ?_, ?_, ?_⟩
  ·rw [List.flatten_append]
   simpa using qzo h3 k3
  ·intro q hq
   rcases List.mem_append.1 hq with hq | hq
   ·exact h4 q hq
   ·rw [List.mem_singleton] at hq; subst hq; exact k4
  ·intro u hu
   rcases List.mem_append.1 hu with hu | hu
   ·exact h5 u hu
   ·exact k5 u hu
  ·intro j u hj
   by_cases hlt : j < us.length
   ·rw [List.getElem?_append_left hlt] at hj; exact h6 j u hj
   ·rw [List.getElem?_append_right (by omega)] at hj
    have hr : j - us.length < z := by rw [<- k1]; exact (List.getElem?_eq_some_iff.1 hj).1
    have := k2 (j - us.length) hr
    rw [hj, add_add', show n * z + (j - us.length) = j by omega] at this
    exact this
mutual
theorem qva (hX : ∀ b, b < W.heap.size -> X.fz b) : ∀ (ty : Ty) {t : TypeId} {fuel : Nat} {cs : List Value} {x : DataW H × List MemPlace}, qwh P ty t = true -> DataW.trod enc P W base sp held fuel t cs = some x ->
  ∃ avs, vrs X W avs cs /\ qav ty avs /\ ∀ u ∈ cs, u.oneCell' = true
 | .int k, t, fuel, cs, x, ht, h => by
  simp only [qwh] at ht
  split at ht
  ·rename_i k' hu
   have hk : k' = k := of_decide_eq_true ht
   subst hk
   obtain ⟨n, e1, _, hw⟩ := DataW.trod_int hu h
   subst e1
   exact ⟨[.i k' n], by simp [vrs, vr], by simp only [qav]; exact ⟨n, rfl, hw⟩, by simp [Value.oneCell']⟩
  ·cases ht
 | .bool, t, fuel, cs, x, ht, h => by
  simp only [qwh] at ht
  split at ht
  ·rename_i hu
   cases fuel with
   | zero => simp [DataW.trod] at h
   | succ n =>
    unfold DataW.trod at h
    rw [hu] at h
    split at h <;> simp_all
    rename_i b
    exact ⟨[.b b], by simp [vrs, vr], by simp only [qav]; exact ⟨b, rfl⟩, by simp [Value.oneCell']⟩
  ·cases ht
 | .str, t, fuel, cs, x, ht, h => by
  simp only [qwh] at ht
  split at ht
  ·rename_i hu
   cases fuel with
   | zero => simp [DataW.trod] at h
   | succ n =>
    unfold DataW.trod at h
    rw [hu] at h
    split at h <;> simp_all
    rename_i s
    exact ⟨[.s s.data.toList], by simp [vrs, vr], by simp only [qav]; exact ⟨_, rfl, by have h1 := h.1; rw [Array.length_toList]; exact h1⟩, by simp [Value.oneCell']⟩
  ·cases ht
 | .sl e, t, fuel, cs, x, ht, h => by
  simp only [qwh] at ht
  split at ht
  ·rename_i e' hu
   rcases DataW.trod_slice hu h with ⟨rfl, _⟩ | ⟨a, len, cap, elems, rest, n, _, rfl, _, _, hl, hm, hlen, hel, _⟩
   ·exact ⟨[.fz 0 [] (some 0)], by simp [vrs, vr, fzSlice, qwk], by simp only [qav]; exact ⟨[], Nat.zero_le _, by simp, some 0, rfl⟩, by simp [Value.oneCell']⟩
   ·obtain ⟨us, ps, h1, h2, h3, h4, h5, h6⟩ := z8j (X := X) (W := W) (z := P.cellsOf e') (e := e) (a := a) (len := len) (fun i hi => by
     have k := hel i hi
     rw [List.getElem?_eq_getElem (by omega)] at k
     obtain ⟨cs', k1, k2⟩ := Option.bind_eq_some_iff.1 k
     obtain ⟨_, k3, k4⟩ := World.cells?_some k1
     obtain ⟨ps, k5, k6, k7⟩ := qva hX e ht k2
     exact ⟨cs', ps, k3, k4, k5, k6, k7⟩)
    refine ⟨[.fz len ps.flatten none], ?_, ?_, by simp [Value.oneCell']⟩
    ·simp only [vrs, vr]
     refine ⟨_, [], rfl, ⟨us, h3, .inr ⟨a, cap, rfl, ?_, hl, (fun k hk => by cases hk), ?_⟩⟩, rfl⟩
     ·cases us with
      | nil => exact .inl rfl
      | cons u us =>
       have := h6 0 u rfl
       have e0 : a.add 0 = a := by simp [Addr.add]
       rw [e0] at this
       exact .inr (z5m this)
     ·cases us with
      | nil => exact .inl rfl
      | cons u us =>
       have := h6 0 u rfl
       have e0 : a.add 0 = a := by simp [Addr.add]
       rw [e0] at this
       exact .inr ⟨hX _ (z5l this), h5, fun j v hv => z8i (h6 j v hv)⟩
    ·simp only [qav]
     exact ⟨ps, by omega, h4, none, by rw [h1]⟩
  ·cases ht
 | .st fs, t, fuel, cs, x, ht, h => by
  simp only [qwh] at ht
  split at ht
  ·rename_i gs hu
   obtain ⟨xs, n, _, _, hl, hlen, hf⟩ := DataW.trod_struct hu h
   obtain ⟨avs, h1, h2, h3⟩ := z1o hX fs (cs := cs) (o := 0) (n := P.cellsOf t) (m := n) (gs := gs.toList) ht (by omega) (fun g hg => by
    obtain ⟨i, hi, rfl⟩ := List.mem_iff_getElem.1 hg
    have hi' : i < gs.size := by simpa using hi
    have := hf i gs[i] (Array.getElem?_eq_getElem hi')
    rw [List.getElem?_eq_getElem (by omega)] at this
    exact ⟨_, by simpa using this⟩)
   refine ⟨avs, ?_, ?_, ?_⟩
   ·simpa using h1
   ·simp only [qav]; exact h2
   ·simpa using h3
  ·cases ht
 | .ar n e, t, fuel, cs, x, ht, h => by
  simp only [qwh] at ht
  split at ht
  ·rename_i m e' hu
   simp only [Bool.and_eq_true, decide_eq_true_eq] at ht
   obtain ⟨⟨rfl, ht⟩, hc⟩ := ht
   obtain ⟨xs, q, _, _, hl, hlen, hf⟩ := DataW.trod_array hu h
   rw [hc] at hl
   have key : ∀ k, k <= m -> ∃ ps : List (List AV), ps.length = k /\ (∀ p ∈ ps, qav e p) /\ vrs X W ps.flatten (cs.take (k * P.cellsOf e')) /\ ∀ u ∈ cs.take (k * P.cellsOf e'), u.oneCell' = true := by
    intro k
    induction k with
    | zero => intro _; exact ⟨[], rfl, by simp, by simp [vrs], by simp⟩
    | succ k ih =>
     intro hk
     obtain ⟨ps, h1, h2, h3, h4⟩ := ih (by omega)
     have hx := hf k (by omega)
     rw [List.getElem?_eq_getElem (by omega)] at hx
     obtain ⟨avs, a1, a2, a3⟩ := qva hX e ht hx
     have e1 : cs.take ((k + 1) * P.cellsOf e') = cs.take (k * P.cellsOf e') ++ (cs.drop (k * P.cellsOf e')).take (P.cellsOf e') := by
      rw [Nat.add_mul, Nat.one_mul, List.take_add]
     rw [e1]
     refine ⟨ps ++ [avs], by simp [h1], ?_, ?_, ?_⟩
     ·intro p hp
      rcases List.mem_append.1 hp with hp | hp
      ·exact h2 p hp
      ·rw [List.mem_singleton] at hp; subst hp; exact a2
     ·rw [List.flatten_append]; simpa using qzo h3 a1
     ·intro u hu
      rcases List.mem_append.1 hu with hu | hu
      ·exact h4 u hu
      ·exact a3 u hu
   obtain ⟨ps, h1, h2, h3, h4⟩ := key m (Nat.le_refl _)
   rw [List.take_of_length_le (by omega)] at h3 h4
   exact ⟨ps.flatten, h3, by simp only [qav]; exact ⟨ps, h1, h2, rfl⟩, h4⟩
  ·cases ht
theorem z1o (hX : ∀ b, b < W.heap.size -> X.fz b) : ∀ (fs : List Ty) {gs : List Field} {o n m : Nat} {cs : List Value}, qzn P fs gs o n = true -> cs.length = n ->
  (∀ g ∈ gs, ∃ x, DataW.trod enc P W base sp held m g.type ((cs.drop g.offset).take (P.cellsOf g.type)) = some x) ->
  ∃ avs, vrs X W avs (cs.drop o) /\ q6f fs avs /\ ∀ u ∈ cs.drop o, u.oneCell' = true
 | [], gs, o, n, m, cs, ht, hn, h => by
  cases gs with
  | cons g gs => simp [qzn] at ht
  | nil =>
   simp only [qzn] at ht
   have : o = n := of_decide_eq_true ht
   have e : cs.drop o = [] := List.drop_eq_nil_of_le (by omega)
   rw [e]
   exact ⟨[], by simp [vrs], by simp only [q6f], by simp⟩
 | f :: fs, gs, o, n, m, cs, ht, hn, h => by
  cases gs with
  | nil => simp [qzn] at ht
  | cons g gs =>
   simp only [qzn, Bool.and_eq_true] at ht
   obtain ⟨⟨h1, h2⟩, h3⟩ := ht
   have ho : g.offset = o := of_decide_eq_true h1
   obtain ⟨x, hx⟩ := h g (List.mem_cons_self ..)
   rw [ho] at hx
   obtain ⟨a, a1, a2, a3⟩ := qva hX f h2 hx
   obtain ⟨b, b1, b2, b3⟩ := z1o hX fs h3 hn fun g' hg' => h g' (List.mem_cons_of_mem _ hg')
   have e : cs.drop o = (cs.drop o).take (P.cellsOf g.type) ++ cs.drop (o + P.cellsOf g.type) := by
    rw [<- List.drop_drop]; exact (List.take_append_drop _ _).symm
   rw [e]
   refine ⟨a ++ b, qzo a1 b1, ?_, ?_⟩
   ·simp only [q6f]; exact ⟨a, b, rfl, a2, b2⟩
   ·intro u hu
    rcases List.mem_append.1 hu with hu | hu
    ·exact a3 u hu
    ·exact b3 u hu
end
def z2y : Ty -> AV -> Prop
 | .st fs, a => ∃ cells, a = .agg cells /\ q6f fs cells
 | .ar n e, a => ∃ cells, a = .agg cells /\ qav (.ar n e) cells
 | ty, a => qav ty [a]
def qr7 : List Ty -> List AV -> Prop
 | [], as => as = []
 | t :: ts, as => ∃ a as', as = a :: as' /\ z2y t a /\ qr7 ts as'
def qu8 (P : Program) : List Ty -> List TypeId -> Bool
 | [], [] => true
 | ty :: tys, t :: ts => qwh P ty t && qu8 P tys ts
 | _, _ => false
theorem z1p {v : Value} {avs : List AV} {ty : Ty} (h : ∀ cs, v ≠ .agg cs) (h1 : vrs X W avs v.cells.toList) (h2 : qav ty avs) : ∃ a, vr X W a v /\ qav ty [a] := by
 have e : v.cells = #[v] := by
  cases v <;> first | rfl | exact absurd rfl (h _)
 rw [e] at h1
 match avs, h1 with
 | [a], h1 =>
  simp only [vrs] at h1
  obtain ⟨u, us', hu, h1, rfl⟩ := h1
  injection hu with hu; subst hu
  exact ⟨a, h1, h2⟩
 | [], h1 => simp [vrs] at h1
 | a :: b :: l, h1 =>
  simp only [vrs] at h1
  obtain ⟨u, us', hu, _, u2, us2, rfl, _⟩ := h1
  simp at hu
theorem zgw (hX : ∀ b, b < W.heap.size -> X.fz b) {ty : Ty} {t : TypeId} {v : Value} {d : DataW H} {ps : List MemPlace} {r : Reach} {b0 : Nat} (ht : qwh P ty t = true) (hval : Value.okWide P W r b0 t v) (hd : DataW.Trod enc P W base sp held t v d ps) :
  ∃ a, vr X W a v /\ z2y ty a := by
 obtain ⟨fuel, h⟩ := hd
 obtain ⟨avs, h1, h2, h3⟩ := qva hX ty ht h
 cases ty with
 | st fs =>
  simp only [qwh] at ht
  split at ht
  ·rename_i gs hu
   unfold Value.okWide at hval
   rw [hu] at hval
   obtain ⟨cs, rfl, _⟩ := hval
   exact ⟨.agg avs, by simp only [vr]; exact ⟨cs.toList, h1, h3, by simp⟩, avs, rfl, h2⟩
  ·cases ht
 | ar n e =>
  simp only [qwh] at ht
  split at ht
  ·rename_i m e' hu
   unfold Value.okWide at hval
   rw [hu] at hval
   obtain ⟨cs, rfl, _⟩ := hval
   exact ⟨.agg avs, by simp only [vr]; exact ⟨cs.toList, h1, h3, by simp⟩, avs, rfl, h2⟩
  ·cases ht
 | int k =>
  refine z1p (fun cs e => ?_) h1 h2
  subst e
  simp only [qwh] at ht
  split at ht
  ·rename_i k' hu
   unfold Value.okWide Cell.okWide Cell.ok at hval
   rw [hu] at hval
   exact hval
  ·cases ht
 | bool =>
  refine z1p (fun cs e => ?_) h1 h2
  subst e
  simp only [qwh] at ht
  split at ht
  ·rename_i hu
   unfold Value.okWide Cell.okWide Cell.ok at hval
   rw [hu] at hval
   exact hval
  ·cases ht
 | str =>
  refine z1p (fun cs e => ?_) h1 h2
  subst e
  simp only [qwh] at ht
  split at ht
  ·rename_i hu
   unfold Value.okWide Cell.okWide Cell.ok at hval
   rw [hu] at hval
   exact hval
  ·cases ht
 | sl e =>
  refine z1p (fun cs e => ?_) h1 h2
  subst e
  simp only [qwh] at ht
  split at ht
  ·rename_i e' hu
   unfold Value.okWide Cell.okWide Cell.ok at hval
   rw [hu] at hval
   exact hval
  ·cases ht
theorem z5n (hX : ∀ b, b < W.heap.size -> X.fz b) {r : Reach} {b0 : Nat} : ∀ {tys : List Ty} {ts : List TypeId} {vs : List Value} {ds : List (DataW H)} {ps : List MemPlace}, qu8 P tys ts = true ->
  (∀ (j : Nat) t v, ts[j]? = some t -> vs[j]? = some v -> Value.okWide P W r b0 t v) -> DataW.TrodAll enc P W base sp held ts vs ds ps -> ∃ as, vrs X W as vs /\ qr7 tys as
 | [], [], vs, ds, ps, _, _, h => by
  obtain ⟨rfl, _, _⟩ := trodAll_nil h
  exact ⟨[], by simp [vrs], by simp only [qr7]⟩
 | ty :: tys, t :: ts, vs, ds, ps, ht, hv, h => by
  simp only [qu8, Bool.and_eq_true] at ht
  obtain ⟨v, vs', d, ds', p, q, rfl, rfl, rfl, hd, hrest⟩ := trodAll_cons h
  obtain ⟨a, h1, h2⟩ := zgw hX ht.1 (hv 0 t v rfl rfl) hd
  obtain ⟨as, h3, h4⟩ := z5n hX ht.2 (fun j t v h5 h6 => hv (j + 1) t v (by simpa using h5) (by simpa using h6)) hrest
  exact ⟨a :: as, by simp only [vrs]; exact ⟨v, vs', rfl, h1, h3⟩, by simp only [qr7]; exact ⟨a, as, rfl, h2, h4⟩⟩
 | [], _ :: _, _, _, _, ht, _, _ => by simp [qu8] at ht
 | _ :: _, [], _, _, _, ht, _, _ => by simp [qu8] at ht
theorem qmm (hl : laidOutB P = true) {W' : World} (hb : Below W.heap.size W W') : ∀ {ts : List TypeId} {vs : List Value} {ds : List (DataW H)} {ps : List MemPlace}, (∀ t ∈ ts, P.readableRec t = true /\ t < P.types.size) ->
  DataW.TrodAll enc P W 0 (fun _ => true) true ts vs ds ps -> (∀ x ∈ ps, x.block < W.heap.size) -> DataW.TrodAll enc P W' 0 (fun b => decide (b < W.heap.size)) true ts vs ds ps
 | [], vs, ds, ps, _, h, _ => by
  obtain ⟨rfl, rfl, rfl⟩ := trodAll_nil h
  simp [DataW.TrodAll]
 | t :: ts, vs, ds, ps, hp, h, hx => by
  obtain ⟨v, vs', d, ds', p, q, rfl, rfl, rfl, hd, hrest⟩ := trodAll_cons h
  have h1 := hp t (List.mem_cons_self ..)
  exact ⟨p, q, Below.trod hl h1.1 h1.2 hd hb (fun x hm => hx x (List.mem_append_left _ hm)), qmm hl hb (fun t ht => hp t (List.mem_cons_of_mem _ ht)) hrest (fun x hm => hx x (List.mem_append_right _ hm)), rfl⟩
def cx0 (W : World) : Cx := ⟨fun b => b < W.heap.size, fun _ => default, 0⟩
theorem zme (W : World) (hg : ∀ p ∈ Glob.gl, W.cell? ⟨p.1, 0, none⟩ = some p.2) : Rel (cx0 W) Tab.nil [] (fun _ => 0) W := by
 have hn : ∀ id, Tab.nil id = .unused := fun _ => rfl
 refine ⟨fun _ _ => rfl, fun b h => h, fun id z c h => ?_, fun id es h => ?_, fun id h => absurd (hn id) h, fun id id' h => absurd (hn id) h, fun l c h => ?_, fun l c h => ?_, fun l l' c c' h => ?_, fun l c h => ?_, fun p hp => ⟨z5l (hg p hp), hg p hp⟩⟩
 ·rw [hn] at h; cases h
 ·rw [hn] at h; cases h
 ·simp [q2d] at h
 ·simp [q2d] at h
 ·simp [q2d] at h
 ·simp [q2d] at h
theorem zgx {X' : Cx} {T' : Tab} {W' : World} (h : Step (cx0 W) Tab.nil W X' T' W') : Below W.heap.size W W' :=
 ⟨h.os, h.tape, h.output, h.size, fun k hk => h.kept k hk fun ⟨id, hid, _⟩ => hid rfl⟩
theorem zbx {f : FuncId} {fn : Func} {s : ChangeSpec} {tb : TypeId} {apart fresh : Bool} (tys : List Ty) (hty : qu8 P tys fn.params.toList = true) (hr : fn.resultTypes = #[tb]) (htb : P.underlying tb = some .bool) (hvars : s.vars = [])
  (hs : ∀ (ds : List (DataW H)), ds.length = fn.params.size -> s.fn H ds = { results := [.lit (.bool true)], args := ds }) (hl : laidOutB P = true) (hp : ∀ t ∈ fn.params.toList, P.readableRec t = true /\ t < P.types.size)
  (hcall : ∀ as, qr7 tys as -> ACalls P f as Tab.nil (fun v T' => v = .b true /\ T' = Tab.nil)) (W : World) (hgl : ∀ p ∈ Glob.gl, W.cell? ⟨p.1, 0, none⟩ = some p.2) (base : Nat) (args : Array Value) (ds gs : List (DataW H)) (before : List MemPlace)
  (hval : ∀ (j : Nat) t v, fn.params[j]? = some t -> args[j]? = some v -> Value.okWide P W .any base t v) (hW : DataW.Whole enc P fn.params.toList s.vars apart W args.toList ds gs before) :
  Calls P f args W fun e W' => ∃ v, e = .returned v /\ s.post enc P fn apart fresh false false W args v W' := by
 have hlt : ∀ p ∈ before, p.block < W.heap.size := fun p hp => hW.lt p hp
 have hW' := hW
 obtain ⟨p, q, hA, hV, rfl, hfz, hnd⟩ := hW
 rw [hvars] at hV
 obtain ⟨rfl, rfl⟩ := trodVars_none hV
 obtain ⟨as, h1, h2⟩ := z5n (X := cx0 W) (fun b hb => hb) hty (fun j t v h3 h4 => hval j t v (by simpa using h3) (by simpa using h4)) hA
 have hc := hcall as h2 (cx0 W) _ W args.toList (zme W hgl) h1
 refine hc.mono fun e W' ⟨v, x, T', X', lam', he, ⟨hx, _⟩, hv, _, hst⟩ => ?_
 subst he; subst hx
 simp only [vr] at hv
 subst hv
 have hb := zgx hst
 have hlen : ds.length = fn.params.size := by
  have key : ∀ {ts : List TypeId} {vs : List Value} {ds : List (DataW H)} {ps : List MemPlace}, DataW.TrodAll enc P W 0 (fun _ => true) true ts vs ds ps -> ds.length = ts.length := by
   intro ts
   induction ts with
   | nil => intro vs ds ps h; obtain ⟨_, rfl, _⟩ := trodAll_nil h; rfl
   | cons t ts ih => intro vs ds ps h; obtain ⟨v, vs', d, ds', p, q, rfl, rfl, rfl, hd, hrest⟩ := trodAll_cons h; simp [ih hrest]
  simpa using key hA
 simp only [List.append_nil] at hlt
 have hs' := hs ds hlen
 refine ⟨_, rfl, ds, [], p ++ [], [], p, [], hW', ?_, ?_, ?_, hb.frame _, fun h => nomatch h⟩
 ·rw [List.append_nil, hs', hr]
  exact trodAll_mk1 (RowKit.shut_bool htb true)
 ·rw [List.append_nil, hs']
  exact qmm hl hb hp hA hlt
 ·rw [hvars, List.append_nil, hs']
  rfl
end
end Go.Aw
namespace Go.Aw
open Go
variable [Glob]
set_option linter.all false
theorem zao {k : IntKind} {b : AV} (h : z2y (.int k) b) : ∃ n, b = .i k n /\ (Lit.int k n).wf = true := by
 simp only [z2y, qav] at h
 obtain ⟨n, hn, hw⟩ := h
 injection hn with hn
 exact ⟨n, hn, hw⟩
theorem z8k {k : IntKind} {n : Int} (h : (Lit.int k n).wf = true) : k.min <= n /\ n <= k.max := by
 simp [Lit.wf, IntKind.has] at h
 exact h
theorem q8k {n : Int} (h : (Lit.int .i64 n).wf = true) : I64 n := by
 have := z8k h
 simp [IntKind.min, IntKind.max, IntKind.signed, IntKind.bits] at this
 unfold I64
 omega
theorem zk7 {n : Int} (h : (Lit.int .u8 n).wf = true) : 0 <= n /\ n < 256 := by
 have := z8k h
 simp [IntKind.min, IntKind.max, IntKind.signed, IntKind.bits] at this
 omega
theorem zgy {n : Int} (h : (Lit.int .u16 n).wf = true) : 0 <= n /\ n < 65536 := by
 have := z8k h
 simp [IntKind.min, IntKind.max, IntKind.signed, IntKind.bits] at this
 omega
theorem qkg {n : Int} (h : (Lit.int .u64 n).wf = true) : 0 <= n /\ n < 18446744073709551616 := by
 have := z8k h
 simp [IntKind.min, IntKind.max, IntKind.signed, IntKind.bits] at this
 omega
theorem z5o {α : Type} {e : Ty} {cells : α -> List AV} {ok : α -> Prop} (h : ∀ p, qav e p -> ∃ x, p = cells x /\ ok x) : ∀ (ps : List (List AV)), (∀ p ∈ ps, qav e p) -> ∃ l : List α, l.length = ps.length /\ ps.flatten = l.flatMap cells /\ ∀ x ∈ l, ok x
 | [], _ => ⟨[], rfl, rfl, by simp⟩
 | p :: ps, hp => by
  obtain ⟨l, h1, h2, h3⟩ := z5o h ps fun q hq => hp q (List.mem_cons_of_mem _ hq)
  obtain ⟨x, rfl, hx⟩ := h p (hp p (List.mem_cons_self ..))
  refine ⟨x :: l, by simp [h1], by simp [h2], ?_⟩
  intro y hy
  rcases List.mem_cons.1 hy with rfl | hy
  ·exact hx
  ·exact h3 y hy
theorem qfr {α : Type} {e : Ty} {cells : α -> List AV} {ok : α -> Prop} (h : ∀ p, qav e p -> ∃ x, p = cells x /\ ok x) {p : List AV} (hp : qav (.sl e) p) :
  ∃ (l : List α) (k : Option Nat), p = [.fz l.length (l.flatMap cells) k] /\ Len l.length /\ ∀ x ∈ l, ok x := by
 simp only [qav] at hp
 obtain ⟨ps, hps, hf, k, rfl⟩ := hp
 obtain ⟨l, h1, h2, h3⟩ := z5o h ps hf
 refine ⟨l, k, by rw [h1, h2], ?_, h3⟩
 unfold Len
 rw [h1]
 unfold maxLen at hps
 omega
theorem zby {p : List AV} (h : qav (.int .u8) p) : ∃ b : UInt8, p = [.i .u8 b.toNat] /\ True := by
 simp only [qav] at h
 obtain ⟨n, rfl, hw⟩ := h
 have := zk7 hw
 refine ⟨UInt8.ofNat n.toNat, ?_, trivial⟩
 have e : ((UInt8.ofNat n.toNat).toNat : Int) = n := by
  rw [UInt8.toNat_ofNat_of_lt' (by show n.toNat < 256; omega)]
  omega
 rw [e]
theorem z2z (l : List UInt8) : l.flatMap (fun b => [AV.i .u8 b.toNat]) = K8 l := by
 induction l with
 | nil => rfl
 | cons a l ih => simp only [List.flatMap_cons, ih]; rfl
theorem z8l {p : List AV} (h : qav (.sl (.int .u8)) p) : ∃ (l : List UInt8) (k : Option Nat), p = [.fz l.length (K8 l) k] /\ Len l.length := by
 obtain ⟨l, k, h1, h2, _⟩ := qfr (fun p hp => zby hp) h
 rw [z2z] at h1
 exact ⟨l, k, h1, h2⟩
theorem z5p {a : AV} (h : z2y (.sl (.int .u8)) a) : ∃ (l : List UInt8) (k : Option Nat), a = .fz l.length (K8 l) k /\ Len l.length := by
 have h' : qav (.sl (.int .u8)) [a] := h
 obtain ⟨l, k, h1, h2⟩ := z8l h'
 injection h1 with h1
 exact ⟨l, k, h1, h2⟩
theorem cpn {P : Program} {f : FuncId} {avs : List AV} {r : AV} {K : Env -> Loc -> Tab -> Prop} {e : Env} {L : Loc} {d : Option Nat} {T : Tab} (h : PCalls P f avs r) (hk : K (q0y e d r) L T) : CallK P f avs T (aft K e L d []) := CallK.pure h (J1 hk)
theorem can {P : Program} {f : FuncId} {avs : List AV} {r : AV} {K : Env -> Loc -> Tab -> Prop} {e : Env} {L : Loc} {d : Option Nat} {T T1 : Tab} (h : ACalls P f avs T (fun v T' => v = r /\ T' = T1)) (hk : K (q0y e d r) L T1) : CallK P f avs T (aft K e L d []) := CallK.as h (J1 hk)
end Go.Aw
