import Derived.Test.YtpbnmegmhhkloaaDoorW6B
namespace Go.Aw
open Go
open Go.Proofs.Tryd (prog)
set_option linter.all false
set_option maxHeartbeats 4000000
def okS (r : Bs) : Prop := 1 <= r.length /\ r.length <= 42
theorem okS.f {r : Bs} (h : okS r) : okF r := ⟨h.1, by have := h.2; omega⟩
theorem qeb {m : Nat} : ∀ (rs : List Bs), (∀ r ∈ rs, r.length <= m) -> (q1i rs).length <= rs.length * (m + 7)
 | [], _ => by simp [q1i]
 | r :: rs, h => by
  have := qeb rs fun q hq => h q (List.mem_cons_of_mem _ hq)
  have h1 := h r (List.mem_cons_self ..)
  rw [U9, List.length_append, G9, List.length_cons, Nat.add_mul]
  omega
structure Has (a : Ar) (g : Nat) (all : List Bs) (sure : Nat) : Prop where
 ex : ∃ n0, n0 <= sure /\ a.b = q1i (V5 g n0 :: all) /\ ((q1i (V5 g n0 :: all.take sure)).length : Int) <= a.su
 s : sure <= all.length
 recs : ∀ r ∈ all, okS r
 g : g < 1000000
 n : all.length < 1000
theorem Has.len {a : Ar} {g : Nat} {all : List Bs} {sure : Nat} (h : Has a g all sure) : a.b.length <= 28 + all.length * 49 := by
 obtain ⟨n0, h1, h2, h3⟩ := h.ex
 have hg := h.g
 have hs := h.s
 have hn := h.n
 have := (q6p (g := g) (n := n0) (by omega) (by omega)).2
 have h4 := qeb (m := 42) all fun r hr => (h.recs r hr).2
 rw [h2, U9, List.length_append, G9]
 omega
structure Lv (d : Dk) (k : Int) (g : Nat) (all : List Bs) (sure m : Nat) : Prop where
 hk : Kk k
 ok : d.Ok
 lost : d.lost = false
 room : d.room = 100000
 a : Has (d.get k) g all sure
 oth : (d.get (1 - k)).b = []
 n : all.length <= m
 g : g <= m
structure Fin1 (d : Dk) (all : List Bs) (sure : Nat) : Prop where
 ex : ∃ k g, Kk k /\ Has (d.get k) g all sure /\ (d.get (1 - k)).b = []
 ok : d.Ok
 room : d.room = 100000
structure Fin2 (d : Dk) (all : List Bs) (sure : Nat) (hd : List Bs) : Prop where
 ex : ∃ k g, Kk k /\ Has (d.get k) g all sure /\ (d.get (1 - k)).b = q1i (V5 (g + 1) hd.length :: hd)
 recs : ∀ r ∈ hd, okS r
 n : hd.length < 1000
 ok : d.Ok
 room : d.room = 100000
def Fin (d : Dk) (all : List Bs) (sure : Nat) (hd : List Bs) (lost : Bool) : Prop := Fin1 d all sure \/ (lost = true /\ Fin2 d all sure hd)
theorem Lv.fin {d : Dk} {k : Int} {g : Nat} {all : List Bs} {sure m : Nat} (h : Lv d k g all sure m) : Fin1 d all sure := ⟨⟨k, g, h.hk, h.a, h.oth⟩, h.ok, h.room⟩
theorem qkt {all : List Bs} {p : Bs} {s : Nat} (h : s <= all.length) : (all ++ [p]).take s = all.take s := List.take_append_of_le_length h
theorem Has.add {a : Ar} {g : Nat} {all : List Bs} {sure : Nat} (h : Has a g all sure) {p : Bs} (hp : okS p) (hn : all.length < 900) {c : Option Nat} : Has ⟨a.b ++ frm p, c, a.su⟩ g (all ++ [p]) sure := by
 obtain ⟨n0, h1, h2, h3⟩ := h.ex
 refine ⟨⟨n0, h1, ?_, ?_⟩, by have := h.s; rw [List.length_append]; omega, fun r hr => ?_, h.g, by rw [List.length_append, List.length_singleton]; omega⟩
 ·show a.b ++ frm p = _
  rw [h2, U9, U9, q8t, q43, List.append_assoc]
 ·rw [qkt h.s]; exact h3
 ·rcases List.mem_append.1 hr with hr | hr
  ·exact h.recs r hr
  ·rw [List.mem_singleton.1 hr]; exact hp
theorem Has.le {a : Ar} {g : Nat} {all : List Bs} {sure : Nat} (h : Has a g all sure) (ha : a.Ok) : Has ⟨a.b, a.c, a.b.length⟩ g all all.length := by
 obtain ⟨n0, h1, h2, h3⟩ := h.ex
 have := h.s
 refine ⟨⟨n0, by omega, h2, ?_⟩, Nat.le_refl _, h.recs, h.g, h.n⟩
 rw [List.take_length, <- h2]; exact Int.le_refl _
end Go.Aw
