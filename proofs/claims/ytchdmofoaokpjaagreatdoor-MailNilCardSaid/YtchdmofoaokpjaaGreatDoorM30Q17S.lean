import Derived.Test.YtchdmofoaokpjaaGreatDoorM30Q17P
namespace Go.Aw
open Go
open Go.Proofs.Tryz (prog)
set_option linter.all false
set_option maxHeartbeats 8000000
set_option maxRecDepth 8000
def rdL : Bs -> Lt Cf × RS -> Lt Cf × RS
 | [], p => p
 | c :: cs, p => rdL cs (rdS p.1 c.toNat p.2)
theorem z67 {c d : UInt8} (h : c ≠ d) : (c.toNat : Int) ≠ d.toNat := fun e => h (UInt8.toNat_inj.1 (by omega))
theorem z01 {c : UInt8} (h : sgB c = true) : Sg c.toNat := qun c h
theorem z02 {l : Lt Cf} (hr : l.Rng) (rest : Bs) : ∀ (us : Bs) (o : Lt Cf), us.all sgB = true -> (us.all fun s => maF l s.toNat) = true -> us.Nodup -> (∀ c ∈ us, z0h o c.toNat) -> rdL us (o, ((us.flatMap fun s => enS l s.toNat) ++ rest, false)) = (baF l o us, (rest, false))
 | [], o, _, _, _, _ => rfl
 | c :: us, o, h1, h2, h3, h4 => by
  simp only [List.all_cons, Bool.and_eq_true] at h1 h2
  obtain ⟨h5, h6⟩ := List.nodup_cons.1 h3
  have hs := z01 h1.1
  simp only [rdL, List.flatMap_cons, List.append_assoc]
  rw [z62 hs hr h2.1 (h4 c (List.mem_cons_self ..))]
  exact z02 hr rest us _ h1.2 h2.2 h6 fun d hd => qts hs (z67 fun e => h5 (e ▸ hd)) (h4 d (List.mem_cons_of_mem _ hd))
def zL : Lt Cf := ⟨0, 0, 0, 0, 0, 0, 0, 0, 0, 0, false, 0, 0, [], [], [], zT, 0, 0, [], 0, 0⟩
def rHd (s : RS) : Lt Cf × RS :=
 let a := K3 3 s
 let b := K3 8 a.2
 let c := K3 3 b.2
 let d := K3 8 c.2
 let k := K3 21 d.2
 ({ zL with fk := a.1, fn := b.1, tk := c.1, tn := d.1, k := k.1 }, k.2)
def rLt (s : RS) : Lt Cf × RS := rdL (qbx (rHd s).1.k) (rHd s)
def lOk (s : RS) : Bool := (!(rLt s).2.2 && decide ((rLt s).2.1 = [])) && lrF (rLt s).1
theorem qlr (k : Int) : (qbx k).Nodup := by
 rcases kinds k with (rfl | rfl | rfl | rfl | rfl | rfl | rfl | rfl | rfl | rfl | rfl | rfl | rfl | rfl | rfl | rfl | rfl | rfl | rfl | rfl | rfl) | h
 any_goals (decide +kernel)
 rw [qyu h]
 exact List.nodup_nil
theorem qtt {o : Lt Cf} (h1 : o.vs = []) (h2 : o.cs = []) (h3 : o.es = []) (c : Int) : z0h o c := ⟨fun _ => h1, fun _ => h2, fun _ => h3⟩
theorem qiu {α : Type} {e : α -> α -> Bool} (h : ∀ x y, e x y = true -> x = y) : ∀ (xs ys : List α), eqL e xs ys = true -> xs = ys
 | [], [], _ => rfl
 | [], _ :: _, h' => by cases h'
 | _ :: _, [], h' => by cases h'
 | x :: xs, y :: ys, h' => by
  simp only [eqL, Bool.and_eq_true] at h'
  rw [h x y h'.1, qiu h xs ys h'.2]
theorem z3m {a b : Tx} (h : txE a b = true) : a = b := by
 simp only [txE, Bool.and_eq_true, decide_eq_true_eq] at h
 obtain ⟨⟨⟨⟨h1, h2⟩, h3⟩, h4⟩, h5⟩ := h
 have h4 := qiu (fun x y h => by simp only [rdE, Bool.and_eq_true, decide_eq_true_eq] at h; cases x; cases y; simp_all) _ _ h4
 have h5 := qiu (fun x y h => by simp only [wtE, Bool.and_eq_true, decide_eq_true_eq] at h; cases x; cases y; simp_all) _ _ h5
 cases a; cases b; simp_all
theorem za8 {a b : En} (h : enE a b = true) : a = b := by
 simp only [enE, Bool.and_eq_true, decide_eq_true_eq] at h
 have := z3m h.2
 cases a; cases b; simp_all
theorem za9 {a b : Cf} (h : cfE a b = true) : a = b := by
 simp only [cfE, Bool.and_eq_true, decide_eq_true_eq] at h
 obtain ⟨⟨⟨⟨h1, h2⟩, h3⟩, h4⟩, h5⟩ := h
 have h4 := qiu (fun x y h => of_decide_eq_true h) _ _ h4
 have h5 := qiu (fun x y h => of_decide_eq_true h) _ _ h5
 cases a; cases b; simp_all
theorem zaa {a b : Lt Cf} (h : ltE a b = true) : a = b := by
 simp only [ltE, Bool.and_eq_true, decide_eq_true_eq] at h
 have hv : ∀ x y : List Vt, eqL vtE x y = true -> x = y := qiu fun x y h => by simp only [vtE, Bool.and_eq_true, decide_eq_true_eq] at h; cases x; cases y; simp_all
 have hc : ∀ x y : List Cf, eqL cfE x y = true -> x = y := qiu fun x y h => za9 h
 have he : ∀ x y : List En, eqL enE x y = true -> x = y := qiu fun x y h => za8 h
 have ht : ∀ x y : Tx, txE x y = true -> x = y := fun x y h => z3m h
 cases a; cases b
 simp only [Lt.mk.injEq]
 simp only at h
 have := fun x y => hv x y
 grind
theorem z68 {l : Lt Cf} (h : lrF l = true) (rest : Bs) : rHd (enc l.fk.toNat ++ enc l.fn.toNat ++ enc l.tk.toNat ++ enc l.tn.toNat ++ enc l.k.toNat ++ rest, false) = (l.bare0, (rest, false)) := by
 obtain ⟨h1, h2, h3, h4, h5⟩ := qh1 h
 have hk := h1
 simp only [qol, decide_eq_true_eq] at hk
 have key : ∀ k n : Int, z0e k n = true -> (0 <= k /\ k <= 3) /\ (0 <= n /\ n <= 8) := fun k n h => by
  simp only [z0e, Bool.and_eq_true, decide_eq_true_eq] at h
  unfold z1h at h
  by_cases e1 : k = 1
  ·rw [if_pos e1] at h; omega
  by_cases e2 : k = 2
  ·rw [if_neg e1, if_pos e2] at h; omega
  by_cases e3 : k = 3
  ·rw [if_neg e1, if_neg e2, if_pos e3] at h; omega
  ·rw [if_neg e1, if_neg e2, if_neg e3] at h; omega
 have a1 := key _ _ h2
 have a2 := key _ _ h3
 unfold rHd
 simp only [List.append_assoc]
 rw [U0 (by omega) (by omega)]
 simp only
 rw [U0 (by omega) (by omega)]
 simp only
 rw [U0 (by omega) (by omega)]
 simp only
 rw [U0 (by omega) (by omega)]
 simp only
 rw [U0 (by omega) (by omega)]
 simp only
 rw [nn a1.1.1, nn a1.2.1, nn a2.1.1, nn a2.2.1, nn (by omega)]
 rfl
theorem z69 {l : Lt Cf} (hr : l.Rng) (h : lrF l = true) : rLt (q92 l, false) = (l, ([], false)) := by
 obtain ⟨h1, h2, h3, h4, h5⟩ := qh1 h
 unfold rLt q92
 rw [z68 h]
 have e := z02 hr [] (qbx l.k) l.bare0 (qbe l.k).1 h5 (qlr l.k) fun c _ => qtt rfl rfl rfl _
 rw [List.append_nil] at e
 show rdL (qbx l.k) _ = _
 rw [e, <- zaa h4]
end Go.Aw
