import Derived.Test.YteiamcnjlpbihaaGreatDoorQ17T
namespace Go.Aw
open Go
open Go.Proofs.Tryz (prog)
set_option linter.all false
set_option maxHeartbeats 8000000
set_option maxRecDepth 8000
theorem z99 {R : Z1} (hR : ExtR R) {T : Tab} {l : List UInt8} {m : W} {p : Nat} (hl : l.length <= 100000) (hp : p + 31 < 8 * l.length) : ∀ (d j : Nat), j + d = 32 -> ∀ (v : AV) (T1 : Tab), Own T 1 v l.length (O5 (q3e l p m j)) T1 ->
  (∀ v T1, Own T 1 v l.length (O5 (q3e l p m 32)) T1 -> R (.exit 0) [(2, wv m), (9, v), (10, .i .i64 p), (11, .i .i64 32), (52, .b false)] [] T1) ->
  AW prog q2q R [(2, wv m), (9, v), (10, .i .i64 p), (11, .i .i64 j)] [] T1 := by
 intro d
 induction d with
 | zero =>
  intro j hj v T1 ho h2
  have : j = 32 := by omega
  subst this
  obtain ⟨p1, p2, p3, p4, p5, p6⟩ := ho.form
  refine U1 hR ?_
  unfold q2d
  simp -implicitDefEqProofs -dsimp only [go_sem, seval, show ((32 : Nat) : Int) = 32 from rfl, p1, p2, p3, p4, p5, p6]
  exact h2 v T1 ho
 | succ d ih =>
  intro j hj v T1 ho h2
  have hlt : (j : Int) < 32 := by omega
  have hws : IntKind.i64.wrap ((j : Int) + 1) = ((j + 1 : Nat) : Int) := N6 (by omega)
  have hju : IntKind.u64.wrap (j : Int) = (j : Int) := IntWalk.u64_in _ (by omega)
  obtain ⟨id, rfl, hid, rfl⟩ := ho.ne (by omega)
  have hbit := zgq m j (by omega)
  have hj0 : ((j : Int) < 0) = False := eq_false (by omega)
  refine O4 (l := q2q) rfl hR ?_
  unfold q2d
  rcases hb : m.getLsbD j with _ | _
  ·rw [hb] at hbit
   have e : q3e l p m (j + 1) = q3e l p m j := by simp only [q3e]; rw [if_neg (by rw [hb]; simp)]
   simp -implicitDefEqProofs -dsimp only [go_sem, seval, hlt, hju, Int.natCast_nonneg, Int.toNat_natCast, hj0, hbit, hws]
   exact ih (j + 1) (by omega) _ _ (by rw [e]; exact ho) h2
  ·rw [hb] at hbit
   have e : q3e l p m (j + 1) = qz5 (q3e l p m j) (p + j) := by simp only [q3e]; rw [if_pos hb]
   have wpj : IntKind.i64.wrap ((p : Int) + j) = ((p + j : Nat) : Int) := (q13 (by unfold I64; omega)).trans (by omega)
   simp -implicitDefEqProofs -dsimp only [go_sem, seval, hlt, hju, Int.natCast_nonneg, Int.toNat_natCast, hj0, hbit, hws, wpj]
   have wq : IntKind.i64.wrap (((p + j : Nat) : Int).tdiv 8) = (((p + j) / 8 : Nat) : Int) := by
    rw [Int.tdiv_eq_ediv_of_nonneg (by omega)]; exact (q13 (by unfold I64; omega)).trans (by omega)
   have wr : ((p + j : Nat) : Int).tmod 8 = (((p + j) % 8 : Nat) : Int) := by
    rw [Int.tmod_eq_emod_of_nonneg (by omega)]; omega
   have wru : IntKind.u64.wrap ((((p + j) % 8 : Nat) : Int)) = (((p + j) % 8 : Nat) : Int) := IntWalk.u64_in _ (by omega)
   have hr0 : ((((p + j) % 8 : Nat) : Int) < 0) = False := eq_false (by omega)
   have hlt2 : (p + j) / 8 < l.length := by omega
   obtain ⟨a, ha⟩ : ∃ a, (q3e l p m j)[(p + j) / 8]? = some a := ⟨_, List.getElem?_eq_getElem (by rw [q4x]; exact hlt2)⟩
   have hget : (O5 (q3e l p m j))[(p + j) / 8]? = some (.i .u8 (a.toNat : Int)) := by simp [O5, ha]
   have ht : (T.put id (.row 1 (O5 (q3e l p m j)))) id = .row 1 (O5 (q3e l p m j)) := Tab.put_same ..
   simp -implicitDefEqProofs -dsimp only [go_sem, seval, hlt, hju, Int.natCast_nonneg, Int.toNat_natCast, hj0, hbit, hws, wpj, wq, wr, wru, hr0, Int.ofNat_lt, hlt2, ht, hget, zhx a _ (Nat.mod_lt (p + j) (by decide))]
   have hlen : (p + j) / 8 + 1 <= (O5 (q3e l p m j)).length := by rw [q0q, q4x]; omega
   refine q2m ht rfl rfl (by simpa using hlen) ?_
   refine J1 ?_
   rw [Tab.put_put]
   simp -implicitDefEqProofs -dsimp only [go_sem, seval, hws]
   refine ih (j + 1) (by omega) _ _ ?_ h2
   have e5 : O5 (q3e l p m (j + 1)) = q1y (O5 (q3e l p m j)) ((p + j) / 8) [.i .u8 ((qwd a ((p + j) % 8)).toNat : Int)] := by
    rw [e, qz5, ha]
    have hk : (p + j) / 8 < (q3e l p m j).length := by rw [q4x]; exact hlt2
    simp only [O5, List.map_set, q1y, List.length_cons, List.length_nil, Nat.zero_add]
    rw [List.set_eq_take_append_cons_drop, if_pos (by simpa using hk)]; simp
   rw [e5]
   refine ⟨?_, .inr ⟨id, rfl, hid, rfl⟩⟩
   rw [qhm (by simpa using hlen), q0q, q4x, Nat.mul_one]
theorem z9a {b : Bs} (h : opE b ≠ none) : ∃ e, loE b = some e /\ ¬ e.code = 0 := by
 unfold loE
 rcases hb : opE b with _ | e
 ·exact absurd hb h
 ·exact ⟨_, rfl, show ¬ e.code = 0 from z3g hb⟩
theorem qon (l : Lt Rf) (h : l.Arg) (a : Nat) (m : W) (ha : a < 65536) : PCalls prog q6b [.agg l.rc, .i .u16 a, wv m] (.b true) := by
 refine K6 U7 qb5 (by simp) fun T => ?_
 have hf := h.fine
 have hr := h.rng
 have hs := hf.small
 have c1 := z4t l h.wide
 have c2 := z1j l.ours hf
 have c3 := qxe l.ours hs hf.t hr
 have c4 := z1f l.ours.plain h.ref
 rw [z4v _ fun c hc => (hf.cl c hc).2] at c4
 have cA := qz1
 unfold q6d
 rcases hk : lrF l.ours with _ | _
 ·rw [hk] at c4
  rw [z2p, if_neg (by rw [hk]; decide)] at c3
  generalize l.ours.plain = w at *
  generalize l.ours = o at *
  simp -implicitDefEqProofs -dsimp only [go_sem, seval, ↓J0 _ _ q54]
  refine cpn c1 ?_
  simp -implicitDefEqProofs -dsimp only [go_sem, seval, ↓J0 _ _ qfd]
  refine cpn c3 ?_
  simp -implicitDefEqProofs -dsimp only [go_sem, seval, decide_true, decide_false, ↓O9, Z3, true_and, ↓J0 _ _ q54]
  refine cpn c1 ?_
  simp -implicitDefEqProofs -dsimp only [go_sem, seval, ↓J0 _ _ qa7]
  refine cpn c2 ?_
  simp -implicitDefEqProofs -dsimp only [go_sem, seval, ↓J0 _ _ qa9]
  refine cpn c4 ?_
  simp -implicitDefEqProofs -dsimp only [go_sem, seval, decide_true, decide_false, N4, ↓O9, Z3, true_and, ↓J0 _ _ q76]
  refine cpn cA ?_
  simp -implicitDefEqProofs -dsimp only [go_sem, seval]
  exact J9 rfl
 rw [hk] at c4
 rw [z2p, if_pos hk] at c3
 have hl := qok hr hk
 have hfl := qrk (qg3 l.ours)
 have htn := fun (p : Nat) (hm : m ≠ 0#32) (hp : p + 31 < 8 * (frm (qg3 l.ours)).length) => z9a (z6t (q := qg3 l.ours) (m := m) (p := p) hm hp)
 have d8 : decide (((frm (qg3 l.ours)).length : Int) < 8) = false := decide_eq_false (by omega)
 have hF : 8 <= (frm (qg3 l.ours)).length /\ (frm (qg3 l.ours)).length <= 66000 := by omega
 clear hl hfl
 generalize frm (qg3 l.ours) = F at *
 generalize l.ours.plain = w at *
 generalize l.ours = o at *
 simp -implicitDefEqProofs -dsimp only [go_sem, seval, ↓J0 _ _ q54]
 refine cpn c1 ?_
 simp -implicitDefEqProofs -dsimp only [go_sem, seval, ↓J0 _ _ qfd]
 refine cpn c3 ?_
 by_cases hm : m = 0#32
 ·have dm : decide ((m.toNat : Int) = 0) = true := by rw [hm]; decide
  simp -implicitDefEqProofs -dsimp only [go_sem, seval, dm, decide_true, decide_false, ↓O9, Z3, true_and, ↓J0 _ _ q54]
  refine cpn c1 ?_
  simp -implicitDefEqProofs -dsimp only [go_sem, seval, ↓J0 _ _ qa7]
  refine cpn c2 ?_
  simp -implicitDefEqProofs -dsimp only [go_sem, seval, ↓J0 _ _ qa9]
  refine cpn c4 ?_
  simp -implicitDefEqProofs -dsimp only [go_sem, seval, decide_true, decide_false, N4, ↓O9, Z3, true_and, ↓J0 _ _ q76]
  refine cpn cA ?_
  simp -implicitDefEqProofs -dsimp only [go_sem, seval]
  exact J9 rfl
 have dm : decide ((m.toNat : Int) = 0) = false := decide_eq_false (fun h => hm (BitVec.eq_of_toNat_eq (by simp; omega)))
 have wa : IntKind.i64.wrap (a : Int) = a := q13 (by unfold I64; omega)
 obtain ⟨n, hn⟩ : ∃ n : Nat, n = F.length := ⟨_, rfl⟩
 have w8 : IntKind.i64.wrap (8 * (F.length : Int)) = ((8 * n : Nat) : Int) := (q13 (by unfold I64; omega)).trans (by omega)
 have w31 : IntKind.i64.wrap (((8 * n : Nat) : Int) - 31) = ((8 * n - 31 : Nat) : Int) := (q13 (by unfold I64; omega)).trans (by omega)
 have wt : ((a : Int)).tmod ((8 * n - 31 : Nat) : Int) = ((a % (8 * n - 31) : Nat) : Int) := by rw [Int.tmod_eq_emod_of_nonneg (by omega)]; norm_cast
 have z31 : (((8 * n - 31 : Nat) : Int) = 0) = False := eq_false (by omega)
 simp -implicitDefEqProofs -dsimp only [go_sem, seval, dm, d8, decide_true, decide_false, ↓O9, Z3, true_and]
 refine (Own.nil T 1).app (m := F.length) (q93 _ _) rfl (by omega) (by omega) fun v T1 ho => J1 ?_
 rw [Nat.zero_add, List.nil_append] at ho
 obtain ⟨id, rfl, hid, e2⟩ := ho.ne (by omega)
 simp -implicitDefEqProofs -dsimp only [go_sem, seval, wa, w8, w31, wt, z31]
 have hp : a % (8 * n - 31) + 31 < 8 * F.length := by have := Nat.mod_lt a (show 0 < 8 * n - 31 by omega); omega
 refine z99 (T := T) (l := F) (p := a % (8 * n - 31)) (by repeat' (first | exact N8 _ _ | assumption | apply N7 | apply K8 | apply V0)) (by omega) hp 32 0 rfl _ T1 ho (fun v T2 ho2 => ?_)
 obtain ⟨p1, p2, p3, p4, p5, p6⟩ := ho2.form
 obtain ⟨er, hop, hoc⟩ := htn (a % (8 * n - 31)) hm hp
 have cO := fun cap => z5z (q3e F (a % (8 * n - 31)) m 32) cap (by rw [q4x]; omega)
 rw [hop] at cO
 simp only [bts, q4x] at cO
 generalize loA (q3e F (a % (8 * n - 31)) m 32) = A at *
 have hcode : decide (qd8 (some er) = 0) = false := decide_eq_false hoc
 generalize qd8 (some er) = C at *
 simp -implicitDefEqProofs -dsimp only [go_sem, seval, p1, p2, p3, p4, p5, p6, ↓J0 _ _ qqt]
 refine CallK.give0 ho2 rfl (fun q => cO q T) (fun v T' h => ?_)
 obtain ⟨rfl, rfl⟩ := h
 refine J1 ?_
 simp -implicitDefEqProofs -dsimp only [go_sem, seval, hcode, ↓O9, Z3, true_and, decide_true, Bool.not_false, ↓J0 _ _ q76]
 refine cpn cA ?_
 simp -implicitDefEqProofs -dsimp only [go_sem, seval]
 exact J9 rfl
end Go.Aw
