import Derived.Test.YtpbnmegmhhkloaaDoorW6L
namespace Go.Aw
open Go
open Go.Proofs.Tryd (prog)
set_option linter.all false
set_option maxHeartbeats 8000000
set_option maxRecDepth 8000
theorem qt3 {T0 Ta : Tab} {z n did lid : Nat} {v : AV} {xs : List AV} {d : Dk} {w : Wl} (h : Gr T0 z v n xs Ta) (hd : T0 did ≠ .unused) (hl : T0 lid ≠ .unused) : Gr (tL T0 did lid d w) z v n xs (tL Ta did lid d w) := by
 rcases h with h | ⟨e1, e2, rfl⟩
 ·exact .inl (qkx h (qn9 h hd hl))
 ·exact .inr ⟨e1, e2, rfl⟩
theorem qna {T0 Ta T2 : Tab} {z n : Nat} {v : AV} {xs : List AV} {S : List Nat} (h : Gr T0 z v n xs Ta) (hS : ∀ id ∈ S, Ta id = .unused) : frX T2 S v = v := by
 rcases h with h | ⟨rfl, _, _⟩
 ·exact qp6 h hS
 ·rfl
theorem Gr.lenAv {T0 T1 : Tab} {z n : Nat} {v : AV} {xs : List AV} (h : Gr T0 z v n xs T1) : Aw.q50 false v = some (.i .i64 (n : Nat)) := by
 rcases h with h | ⟨rfl, _, _⟩
 ·exact h.lenAv
 ·rfl
theorem Gr.le {T0 T1 : Tab} {z n : Nat} {v : AV} {xs : List AV} (h : Gr T0 z v n xs T1) : TabLe T0 T1 := by
 rcases h with h | ⟨_, _, rfl⟩
 ·exact h.tabLe
 ·exact TabLe.refl _
def frY (T : Tab) (S : List Nat) : AV -> AV
 | .fz n c k => .fz n (c.map (q64 T S)) k
 | x => frX T S x
def qpd (N : List Nat) (T : Tab) (S : List Nat) : Env -> Env
 | [] => []
 | (k, x) :: e => (k, if k ∈ N then frY T S x else frX T S x) :: qpd N T S e
theorem qdp (N : List Nat) (T : Tab) (S : List Nat) (s : Nat) : ∀ e : Env, O7 (qpd N T S e) s = (O7 e s).map (fun x => if s ∈ N then frY T S x else frX T S x)
 | [] => rfl
 | (k, x) :: e => by
  simp only [qpd, O7, qdp N T S s e]
  split
  ·rename_i h; rw [h]; rfl
  ·rfl
theorem qbe {N : List Nat} {T : Tab} {S : List Nat} {e : Env} : qgh T S e (qpd N T S e) := fun s x' h => by
 rw [qdp] at h
 cases hx : O7 e s with
 | none => rw [hx] at h; cases h
 | some x =>
  rw [hx] at h
  injection h with h
  refine ⟨x, rfl, ?_⟩
  subst h
  show (if s ∈ N then frY T S x else frX T S x) = frX T S x \/ ∃ n c k, x = AV.fz n c k /\ (if s ∈ N then frY T S x else frX T S x) = AV.fz n (List.map (q64 T S) c) k
  by_cases hs : s ∈ N
  ·rw [show (if s ∈ N then frY T S x else frX T S x) = frY T S x from if_pos hs]
   cases x with
   | fz n c k => exact .inr ⟨n, c, k, rfl, rfl⟩
   | _ => exact .inl rfl
  ·exact .inl (if_neg hs)
theorem qt4 {N : List Nat} {e : Env} {L : Loc} {T T1 : Tab} {z n : Nat} {v : AV} {xs : List AV} {K : Env -> Loc -> Tab -> Prop} {h : Hold K} (hg : Gr T z v n xs T1) (hk : ∀ S cap, (∀ id ∈ S, T id = .unused) -> q64 T1 S v = .fz n xs cap -> K (qpd N T1 S e) L T) : gzS e L T1 h := by
 rcases hg with ho | ⟨rfl, h2, rfl⟩
 ·obtain ⟨S, k1, k2, k3, k4⟩ := (Owns.one ho).fin
  refine qir S _ k1 (fun id hid => (k2 id hid).1) (qbe (N := N)) ?_
  rw [k3]
  obtain ⟨cap, hc⟩ := k4 _ (List.mem_cons_self ..)
  exact hk S cap (fun id hid => (k2 id hid).2) hc
 ·refine qir [] _ List.nodup_nil (by simp) (qbe (N := N)) ?_
  exact hk [] (some n) (by simp) rfl
theorem qkz (a b : List Bs) (hl : a.length < 1000000000) (hm : b.length < 1000000000) : PCalls prog Q4 [.fz a.length (btL a) none, .fz b.length (btL b) none] (.b (decide (a.length <= b.length) && decide (a = b.take a.length))) := by
 refine K7 O5 q44 (by simp) fun T => ?_
 unfold q16
 by_cases h : a.length <= b.length
 ·have d : decide ((a.length : Int) <= (b.length : Int)) = true := decide_eq_true (by omega)
  have h1 : (0 <= a.length /\ a.length <= b.length) = True := eq_true ⟨Nat.zero_le _, h⟩
  have h2 : (a.length <= b.length) = True := eq_true h
  have h0 : (0 <= a.length) = True := eq_true (Nat.zero_le _)
  have cS := qk1 a (b.take a.length) none none (by unfold Len; omega) (by unfold Len; rw [List.length_take]; omega)
  have e : (b.take a.length).length = a.length := by rw [List.length_take]; omega
  rw [e] at cS
  have e2 : (btL b).take a.length = btL (b.take a.length) := by simp [btL, List.map_take]
  rw [decide_eq_true h, Bool.true_and]
  simp -implicitDefEqProofs -dsimp only [go_sem, seval, d, h0, h1, h2, e2, Int.natCast_nonneg, Int.toNat_natCast, Nat.mul_one, Nat.sub_zero, List.drop_zero, Nat.zero_mul, Option.map_none, ↓q1m, q31, true_and, ↓J2 _ _ q0h]
  refine cpn cS ?_
  simp -implicitDefEqProofs -dsimp only [go_sem, seval]
  exact J8 rfl
 ·have d : decide ((a.length : Int) <= (b.length : Int)) = false := decide_eq_false (by omega)
  rw [decide_eq_false h, Bool.false_and]
  simp -implicitDefEqProofs -dsimp only [go_sem, seval, d, ↓q1m, q31, true_and]
  exact J8 rfl
structure Wo where
 k : Int
 p : Bs
 c : Option Nat
 ln : Nat
 lc : List AV
 lk : Option Nat
 n : Int
 k0 : Int
 k1 : Int
def woC (o : Wo) : List AV := [.i .i64 o.k, bts o.p o.c, .fz o.ln o.lc o.lk, .i .i64 o.n, .i .u16 o.k0, .i .u16 o.k1]
theorem ql0 (o : Wo) : (woC o).length = 6 := rfl
theorem ql1 {d : Dk} {k : Int} {g : Nat} {all : List Bs} {sure m m' : Nat} (h : Lv d k g all sure m) (hm : m <= m') : Lv d k g all sure m' := by
 obtain ⟨h1, h2, h3, h4, h5, h6, h7, h8⟩ := h
 exact ⟨h1, h2, h3, h4, h5, h6, by omega, by omega⟩
theorem qcl {d : Dk} {w : Wl} {all : List Bs} {sure : Nat} {hd : List Bs} {lost : Bool} {m m' : Nat} (h : St d w all sure hd lost m) (hm : m <= m') : St d w all sure hd lost m' := by
 rcases h with ⟨h1, h2⟩ | ⟨h1, h2, h3, h4⟩
 ·exact .inl ⟨h1, ql1 h2 hm⟩
 ·exact .inr ⟨h1, h2, h3, by omega⟩
theorem qt5 {d : Dk} {w : Wl} {all : List Bs} {sure : Nat} {hd : List Bs} {lost : Bool} {m : Nat} (h : St d w all sure hd lost m) : Fin d all sure hd lost /\ d.Ok /\ all.length <= m := by
 rcases h with ⟨h1, h2⟩ | ⟨h1, h2, h3, h4⟩
 ·exact ⟨.inl h2.fin, h2.ok, h2.n⟩
 ·exact ⟨h2, h3, h4⟩
end Go.Aw
