import Derived.Test.YtmicojcojlgefaaGreatZ29C29N
namespace Go.Aw
open Go
open Go.Proofs.Tryz (prog)
set_option linter.all false
set_option maxHeartbeats 8000000
set_option maxRecDepth 8000
end Go.Aw
namespace Go.Aw
open Go
open Go.Proofs.Tryz (prog)
set_option linter.all false
set_option maxHeartbeats 8000000
set_option maxRecDepth 8000
theorem qxe {ch : List Int} : ∀ (ys : List Int) (k : Nat), qy1 ch ys k = true -> ∀ y ∈ ys, srv y = true
 | [], _, _, y, hy => by cases hy
 | x :: ys, k, h, y, hy => by
  simp only [qy1, Bool.and_eq_true] at h
  rcases List.mem_cons.1 hy with rfl | hy
  ·exact h.1.1
  ·exact qxe (ch := ch) ys (k + 1) h.2 y hy
theorem quu {c : Cf} (h : c.right = true) : ∀ y ∈ c.ch, 0 <= y /\ y < 8 := fun y hy => by
 have h1 : qy1 c.ch c.ch 0 = true := by
  simp only [Cf.right, Bool.and_eq_true] at h
  exact h.2
 have := qxe (ch := c.ch) _ _ h1 y hy
 simp only [srv, Bool.and_eq_true, Bool.not_eq_true', decide_eq_true_eq, decide_eq_false_iff_not] at this
 omega
structure LtS (me : Int) (g : Lt Cf) : Prop where
 r : lrF g = true
 fk : g.fk = 3
 fn : g.fn = me
 tk : g.tk ≠ 3
 s : g.Small
 t : g.t.Fine
theorem z43 {k n : Int} (h : 0 <= n) (h2 : n < z3l k) : qqi k n = true := by simp only [qqi, Bool.and_eq_true, decide_eq_true_eq]; exact ⟨h, h2⟩
theorem zLs : ∀ (fk fn tk tn k cl sq : Int) (v : Bs) (t : Tx), t.Fine -> ({ zL with fk := fk, fn := fn, tk := tk, tn := tn, k := k, cl := cl, sq := sq, v := v, t := t } : Lt Cf).Small := fun _ _ _ _ _ _ _ _ t ht =>
 ⟨(show (0 : Nat) < 9223372036854775808 by decide), (show (0 : Nat) < 9223372036854775808 by decide), (show (0 : Nat) < 9223372036854775808 by decide), (by have := ht.r; show t.rs.length < 9223372036854775808; omega), (by have := ht.w; show t.ws.length < 9223372036854775808; omega), fun _ h => (by cases h), fun _ h => (by cases h)⟩
theorem z4y {c : Cl} {o : Cp} {t : Int} (hk : c.Ok) (ho : o.Fine /\ qut o = true /\ 1 <= c.sq) (ht : 0 <= t) : ∀ g ∈ qp8 c o t, LtS c.me g := by
 have hme := hk.me
 have hma := hk.ma
 have a3 : qqi 3 c.me = true := z43 hme.1 (show c.me < 6 from hme.2)
 have hf : LtS c.me (fsL c o t) := by
  unfold fsL
  by_cases h1 : o.k = 1
  ·rw [if_pos h1]
   have hmay := ho.2.1
   unfold qut at hmay
   rw [if_pos h1] at hmay
   have hkl : o.key.length <= 32 := by
    simp only [qdh, Bool.and_eq_true, decide_eq_true_eq] at hmay; omega
   obtain ⟨cf, xx, r1, r2, r3⟩ := qwe hk.l o.key t
   have hr := quu (hk.l.c _ cf r1).1 xx (List.mem_of_getElem? r2)
   have a2 : qqi 2 (z78 c.l o.key t) = true := by rw [r3]; exact z43 hr.1 (show xx < 8 from hr.2)
   exact ⟨z40 a3 a2 (by simp only [qp6, Bool.and_eq_true, decide_eq_true_eq]; omega) (by omega), rfl, rfl, (show (2 : Int) ≠ 3 by decide), zLs _ _ _ _ _ _ _ _ _ zTf, zTf⟩
  ·rw [if_neg h1]
   have hmay := ho.2.1
   unfold qut at hmay
   rw [if_neg h1] at hmay
   have htx : qgd (txn o c.me c.sq) = true := qwd hmay hme (by omega)
   have htf := qie ho.1 c.me c.sq
   obtain ⟨xx, cf, r1, r2, r3⟩ := qwg hk.l htx
   have hri := (hk.l.c _ cf r2).1
   have hlen := qdi hri
   have a2 : qqi 2 (zaw c.l (txn o c.me c.sq)) = true := by
    rw [r3]
    unfold Cf.at
    rw [if_pos ⟨hri, by omega, by omega⟩]
    obtain ⟨y, hy⟩ : ∃ y, cf.ch[(0 : Int).toNat]? = some y := ⟨_, List.getElem?_eq_getElem (by show 0 < _; omega)⟩
    rw [hy]
    have := quu hri y (List.mem_of_getElem? hy)
    exact z43 this.1 (show y < 8 from this.2)
   exact ⟨z41 a3 a2 htx, rfl, rfl, (show (2 : Int) ≠ 3 by decide), zLs _ _ _ _ _ 0 0 [] _ htf, htf⟩
 intro g hg
 unfold qp8 at hg
 rcases List.mem_cons.1 hg with rfl | hg
 ·exact hf
 split at hg
 ·simp only [List.mem_singleton] at hg
  subst hg
  have b1 := Int.lt_tmod_of_pos (t.tdiv 3) (show (0 : Int) < c.ma by omega)
  have b2 := Int.tmod_lt_of_pos (t.tdiv 3) (show (0 : Int) < c.ma by omega)
  have b3 : 0 <= (t.tdiv 3).tmod c.ma := Int.tmod_nonneg _ (by rw [Int.tdiv_eq_ediv_of_nonneg ht]; omega)
  have a1 : qqi 1 ((t.tdiv 3).tmod c.ma) = true := z43 b3 (show _ < (5 : Int) by omega)
  exact ⟨z42 a3 a1, rfl, rfl, (show (1 : Int) ≠ 3 by decide), zLs _ _ _ _ _ 0 0 [] _ zTf, zTf⟩
 ·cases hg
end Go.Aw
