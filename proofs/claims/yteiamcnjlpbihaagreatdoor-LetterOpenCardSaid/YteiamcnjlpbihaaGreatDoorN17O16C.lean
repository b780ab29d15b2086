import Derived.Test.YteiamcnjlpbihaaGreatDoorN17S12A
import Derived.Test.YteiamcnjlpbihaaGreatDoorN17T16J
import Derived.Test.YteiamcnjlpbihaaGreatDoorN17E12B
import Derived.Test.YteiamcnjlpbihaaGreatDoorN17E12D
import Derived.Test.YteiamcnjlpbihaaGreatDoorAwD
namespace Go.Aw
open Go
open Go.Proofs.Tryz (prog)
set_option linter.all false
set_option maxHeartbeats 4000000
theorem qvx {T : Tab} {id : Nat} {s : RS} (h : T id = q9a s) : ACalls prog q3c [.ptr id 0] T (fun v T' => v = .b (!s.2 && decide (s.1 = [])) /\ T' = T) := by
 refine Z3 U3 qll (by simp) ?_
 have hr : T id = .row 2 [bts s.1 none, .b s.2] := h
 have d : decide ((s.1.length : Int) = 0) = decide (s.1 = []) := decide_eq_decide.2 (by rw [<- List.length_eq_zero_iff]; omega)
 unfold qcz
 simp -implicitDefEqProofs -dsimp only [go_sem, seval, ↓J0 _ _ Y2]
 refine can (qig h) ?_
 rcases hb : s.2 with _ | _
 ·simp -implicitDefEqProofs -dsimp only [go_sem, seval, hb, hr, bts, d]
  exact J9 rfl
 ·simp -implicitDefEqProofs -dsimp only [go_sem, seval, hb]
  exact J9 rfl
end Go.Aw
namespace Go.Aw
open Go
open Go.Proofs.Tryz (prog)
set_option linter.all false
set_option maxHeartbeats 4000000
def qwi (m : Int × Bool) : List UInt8 := enc m.1.toNat ++ [qiw m.2]
def lnN (ln : Int) : Nat := if ln < 0 then 8 else ln.toNat
def qii (w : Rf) : List UInt8 := enc w.ep.toNat ++ enc w.sh.toNat ++ enc w.l.length ++ w.l.flatMap qwi ++ enc (lnN w.ln)
def qgv (s : RS) : (Int × Bool) × RS := ((((K2 7 s).1 : Nat), decide ((K2 1 (K2 7 s).2).1 = 1)), (K2 1 (K2 7 s).2).2)
def rCf (s : RS) : Cf × RS :=
 let e := K2 18446744073709551615 s
 let h := K2 3 e.2
 let n := K2 8 h.2
 let ms := Y5 qgv n.1 n.2
 let ln := K2 8 ms.2
 (⟨e.1, h.1, ms.1.map (·.1), ms.1.map (·.2), if ln.1 = 8 then -1 else ln.1⟩, ln.2)
theorem z9h {s : RS} (h : (qgv s).2.2 = false) : s.2 = false /\ s.1 = qwi (qgv s).1 ++ (qgv s).2.1 := by
 unfold qgv at h ⊢
 simp only at h ⊢
 obtain ⟨h1, h2, _⟩ := V6 h
 obtain ⟨h3, h4, _⟩ := V6 h1
 refine ⟨h3, ?_⟩
 rw [h4, h2, z5k (q1d 1 _)]
 simp [qwi]
theorem qui (fu : List Bool) : ∀ (l : List Int) (k : Nat), k + l.length = fu.length -> (qd8 fu l k).map (·.2) = fu.drop k
 | [], k, h => by rw [List.drop_eq_nil_of_le (by simpa using Nat.le_of_eq h.symm)]; rfl
 | y :: ys, k, h => by
  simp only [List.length_cons] at h
  have hk : k < fu.length := by omega
  rw [List.drop_eq_getElem_cons hk]
  simp only [qd8, List.map_cons, List.getElem?_eq_getElem hk, Option.getD_some]
  rw [qui fu ys (k + 1) (by omega)]
theorem qyl (ms : List (Int × Bool)) : ∀ (l : List (Int × Bool)) (k : Nat), ms.drop k = l -> qd8 (ms.map (·.2)) (l.map (·.1)) k = l
 | [], k, _ => rfl
 | y :: ys, k, h => by
  obtain ⟨h1, h2, h3⟩ := U6 h
  simp only [List.map_cons, qd8, List.getElem?_map, h2, Option.map_some, Option.getD_some]
  rw [qyl ms ys (k + 1) h3]
structure Cf.Ok (c : Cf) : Prop where
 ep : 0 <= c.ep /\ c.ep < 18446744073709551616
 sh : 0 <= c.sh /\ c.sh < 4
 ch : c.ch.length <= 8
 fu : c.fu.length = c.ch.length
 ms : ∀ k ∈ c.ch, 0 <= k /\ k < 8
 ln : c.ln = -1 \/ (0 <= c.ln /\ c.ln < 8)
theorem Cf.ok_of {c : Cf} (h : c.right = true) (he : 0 <= c.ep /\ c.ep < 18446744073709551616) : c.Ok := by
 simp only [Cf.right, Bool.and_eq_true, Bool.not_eq_true', decide_eq_false_iff_not, Bool.not_eq_false', decide_eq_true_eq, Bool.and_eq_false_iff, Bool.or_eq_false_iff, srv] at h
 obtain ⟨⟨⟨⟨⟨⟨⟨⟨h1, h2⟩, h3⟩, h4⟩, h5⟩, h6⟩, h7⟩, h8⟩, h9⟩ := h
 refine ⟨he, by omega, by omega, by omega, fun k hk => z0p c.ch 0 h9 k hk, ?_⟩
 rcases h8 with h | h
 ·exact .inl h
 ·exact .inr (by simpa using h.1)
theorem zcu {s : RS} (h : (rCf s).2.2 = false) : s.2 = false /\ s.1 = qii (rCf s).1.plain ++ (rCf s).2.1 := by
 unfold rCf at h ⊢
 simp only at h ⊢
 obtain ⟨h1, h2, _⟩ := V6 h
 obtain ⟨h4, h5, h6⟩ := qml (fun s => z9h) _ _ h1
 obtain ⟨h7, h8, _⟩ := V6 h4
 obtain ⟨h9, h10, _⟩ := V6 h7
 obtain ⟨h11, h12, _⟩ := V6 h9
 refine ⟨h11, ?_⟩
 have hle := q1d 8 (Y5 qgv (K2 8 (K2 3 (K2 18446744073709551615 s).2).2).1 (K2 8 (K2 3 (K2 18446744073709551615 s).2).2).2).2
 generalize hq : K2 8 (Y5 qgv (K2 8 (K2 3 (K2 18446744073709551615 s).2).2).1 (K2 8 (K2 3 (K2 18446744073709551615 s).2).2).2).2 = q at *
 generalize hp : Y5 qgv (K2 8 (K2 3 (K2 18446744073709551615 s).2).2).1 (K2 8 (K2 3 (K2 18446744073709551615 s).2).2).2 = p at *
 have e1 : lnN (if q.1 = 8 then -1 else (q.1 : Int)) = q.1 := by
  unfold lnN
  by_cases h8 : q.1 = 8
  ·rw [if_pos h8, if_pos (by decide), h8]
  ·rw [if_neg h8, if_neg (by omega)]; omega
 have e2 : qd8 (p.1.map (·.2)) (p.1.map (·.1)) 0 = p.1 := qyl p.1 p.1 0 rfl
 unfold qii Cf.plain
 simp only [e1, e2, Int.toNat_natCast, h6, List.append_assoc]
 rw [<- h2, <- h5, <- h8, <- h10, <- h12]
theorem qvy (s : RS) : (qgv s).2.1.length <= s.1.length := Nat.le_trans (U2 _ _) (U2 _ _)
theorem zcv (s : RS) : (rCf s).2.1.length <= s.1.length :=
 Nat.le_trans (U2 _ _) (Nat.le_trans (q9w qvy _ _) (Nat.le_trans (U2 _ _) (Nat.le_trans (U2 _ _) (U2 _ _))))
end Go.Aw
namespace Go.Aw
open Go
open Go.Proofs.Tryz (prog)
set_option linter.all false
set_option maxHeartbeats 4000000
theorem qj5 {m : Int × Bool} (h : 0 <= m.1 /\ m.1 < 8) : (qwi m).length <= 11 := by
 have := K5 (m := m.1.toNat) (by omega)
 simp only [qwi, List.length_append, List.length_cons, List.length_nil]; omega
theorem zcw {R : Z1} (hR : ExtR R) {T : Tab} {c : Cf} {k1 k2 : Option Nat} (h : c.Ok) : ∀ (ys : List (Int × Bool)) (k : Nat), c.plain.l.drop k = ys -> k <= c.ch.length -> ∀ (b : List UInt8) (q : Option Nat), b.length <= 1001000 + 100 * k ->
  (∀ q, R (.exit 0) [(3, .lp 3 0), (5, bts (b ++ ys.flatMap qwi) q), (31, .fz c.ch.length (qfq c.ch) k1), (32, .i .i64 c.ch.length), (33, .i .i64 c.ch.length), (34, .b false)] [(3, c.cells k1 k2)] T) ->
  AW prog qga R [(3, .lp 3 0), (5, bts b q), (31, .fz c.ch.length (qfq c.ch) k1), (32, .i .i64 c.ch.length), (33, .i .i64 k)] [(3, c.cells k1 k2)] T := by
 obtain ⟨hep, hsh, hch, hfu, hms, hln⟩ := h
 have hl : c.plain.l.length = c.ch.length := c.plain_len
 intro ys
 induction ys with
 | nil =>
  intro k hk hle b q hb h2
  have hk' := Q7 hk (by omega)
  rw [hl] at hk'
  refine Q5 hR ?_
  unfold qi4
  simp -implicitDefEqProofs -dsimp only [go_sem, seval, hk', Int.lt_irrefl]
  rw [hk'] at h2
  simpa only [List.flatMap_nil, List.append_nil] using h2 q
 | cons y ys ih =>
  intro k hk hle b q hb h2
  obtain ⟨hlt, hy, hk'⟩ := U6 hk
  rw [hl] at hlt
  have hy1 : c.ch[k]? = some y.1 := by
   have := congrArg (fun l : List Int => l[k]?) c.plain_fst
   simp only [List.getElem?_map, hy, Option.map_some] at this
   exact this.symm
  have hy2 : c.fu[k]? = some y.2 := by
   have := congrArg (fun l : List Bool => l[k]?) (show c.plain.l.map (·.2) = c.fu from qui c.fu c.ch 0 (by omega))
   simp only [List.getElem?_map, hy, Option.map_some] at this
   exact this.symm
  have hm := hms y.1 (List.mem_of_getElem? hy1)
  obtain ⟨m, hmm⟩ := Int.eq_ofNat_of_zero_le hm.1
  have h1 := K5 (m := m) (by omega)
  have hkf : k < c.fu.length := by omega
  have e : ∀ x, b ++ enc m ++ [qiw y.2] = x -> b ++ qwi y = x := fun x hx => by rw [<- hx]; simp [qwi, hmm]
  have fin : ∀ q, AW prog qga R [(3, .lp 3 0), (5, bts (b ++ enc m ++ [qiw y.2]) q), (31, .fz c.ch.length (qfq c.ch) k1), (32, .i .i64 c.ch.length), (33, .i .i64 ((k + 1 : Nat) : Int))] [(3, c.cells k1 k2)] T := fun q => by
   rw [<- e _ rfl]
   refine ih (k + 1) hk' hlt _ q (by have := qj5 hm; simp; omega) fun q => ?_
   simpa only [List.flatMap_cons, List.append_assoc] using h2 q
  obtain ⟨n, f⟩ := y
  simp only at hmm hm hy1 hy2 e fin
  refine O0 (l := qga) rfl hR ?_
  unfold qi4
  simp only [Cf.cells] at fin ⊢
  cases f
  all_goals
   simp -implicitDefEqProofs -dsimp only [go_sem, seval, Int.ofNat_lt, hlt, hkf, Int.natCast_nonneg, Int.toNat_natCast, qof, qv6, hy1, hy2, hmm, q0r (n := m) (by omega), ↓J0 _ _ U1]
   refine cpn (q0h b q m (by omega) (by omega)) ?_
   simp -implicitDefEqProofs -dsimp only [go_sem, seval, ↓J0 _ _ U1]
  ·refine cpn (q0h (b ++ enc m) none 0 (by simp; omega) (by omega)) ?_
   simp -implicitDefEqProofs -dsimp only [go_sem, seval]
   rw [N4 (by omega), show enc 0 = [qiw false] from (qv9 false).symm]
   exact fin none
  ·refine cpn (q0h (b ++ enc m) none 1 (by simp; omega) (by omega)) ?_
   simp -implicitDefEqProofs -dsimp only [go_sem, seval]
   rw [N4 (by omega), show enc 1 = [qiw true] from (qv9 true).symm]
   exact fin none
theorem zcx (b : List UInt8) (q : Option Nat) (c : Cf) (k1 k2 : Option Nat) (hb : b.length <= 1000000) (hl : Len c.ch.length) (he : 0 <= c.ep /\ c.ep < 18446744073709551616) : PCalls prog qiy [bts b q, .agg (c.cells k1 k2)] (bts (if c.right = true then b ++ qii c.plain else b) none) := by
 refine K7 U3 z33 (by simp) fun T => ?_
 have c1 := qgr c k1 k2 hl
 simp only [Cf.cells] at c1
 unfold qub
 simp -implicitDefEqProofs -dsimp only [go_sem, seval, Cf.cells, ↓J0 _ _ q0m]
 refine cpn (qo0 b q (by omega)) ?_
 simp -implicitDefEqProofs -dsimp only [go_sem, seval, ↓J0 _ _ qi8]
 refine cpn c1 ?_
 rcases hr : c.right with _ | _
 ·simp -implicitDefEqProofs -dsimp only [go_sem, seval, hr]
  exact J9 rfl
 have hok := Cf.ok_of hr he
 obtain ⟨ep, hep⟩ := Int.eq_ofNat_of_zero_le hok.ep.1
 obtain ⟨sh, hsh⟩ := Int.eq_ofNat_of_zero_le hok.sh.1
 have x1 := hok.ep
 have x2 := hok.sh
 have x3 := hok.ch
 have x4 := hok.ln
 have l1 := K5 (m := ep) (by omega)
 have l2 := K5 (m := sh) (by omega)
 have l3 := K5 (m := c.ch.length) (by omega)
 have hpl : c.plain.l.length = c.ch.length := c.plain_len
 have hmem : ∀ m ∈ c.plain.l, 0 <= m.1 /\ m.1 < 8 := fun m hm => by
  have : m.1 ∈ c.ch := by rw [<- c.plain_fst]; exact List.mem_map_of_mem hm
  exact hok.ms _ this
 have l5 := q2x (g := qwi) c.plain.l fun m hm => qj5 (hmem m hm)
 simp -implicitDefEqProofs -dsimp only [go_sem, seval, hr, hep, hsh, q0r (n := sh) (by omega), ↓J0 _ _ U1]
 refine cpn (q0h b none ep (by omega) (by omega)) ?_
 simp -implicitDefEqProofs -dsimp only [go_sem, seval, ↓J0 _ _ U1]
 refine cpn (q0h (b ++ enc ep) none sh (by simp; omega) (by omega)) ?_
 simp -implicitDefEqProofs -dsimp only [go_sem, seval, q0r (n := c.ch.length) (by omega), ↓J0 _ _ U1]
 refine cpn (q0h (b ++ enc ep ++ enc sh) none c.ch.length (by simp; omega) (by omega)) ?_
 rw [<- hep, <- hsh]
 simp -implicitDefEqProofs -dsimp only [go_sem, seval]
 refine zcw (T := T) (k1 := k1) (k2 := k2) (by repeat' (first | exact N2 _ _ | assumption | apply N1 | apply K9 | apply Q3)) hok c.plain.l 0 rfl (by omega) _ none (by simp; omega) (fun q => ?_)
 have e9 : b ++ enc ep ++ enc sh ++ enc c.ch.length ++ c.plain.l.flatMap qwi ++ enc (lnN c.ln) = b ++ qii c.plain := by
  have : qii c.plain = enc c.ep.toNat ++ enc c.sh.toNat ++ enc c.plain.l.length ++ c.plain.l.flatMap qwi ++ enc (lnN c.ln) := rfl
  rw [this, hpl, hep, hsh]; simp
 rcases hn : decide (c.ln = -1) with _ | _
 ·have hn' := of_decide_eq_false hn
  obtain ⟨ln, hln⟩ := Int.eq_ofNat_of_zero_le (show 0 <= c.ln by omega)
  have e8 : lnN c.ln = ln := by unfold lnN; rw [if_neg (by omega)]; omega
  simp -implicitDefEqProofs -dsimp only [go_sem, seval, Cf.cells, hn]
  rw [hln]
  simp -implicitDefEqProofs -dsimp only [go_sem, seval, q0r (n := ln) (by omega), ↓J0 _ _ U1]
  refine cpn (q0h _ q ln (by simp only [List.length_append]; omega) (by omega)) ?_
  simp -implicitDefEqProofs -dsimp only [go_sem, seval]
  rw [<- e8, e9]
  exact J9 rfl
 ·have hn' := of_decide_eq_true hn
  have e8 : lnN c.ln = 8 := by unfold lnN; rw [if_pos (by omega)]
  have u8 : IntKind.u64.wrap 8 = ((8 : Nat) : Int) := by decide +kernel
  simp -implicitDefEqProofs -dsimp only [go_sem, seval, Cf.cells, hn, u8, ↓J0 _ _ U1]
  refine cpn (q0h _ q 8 (by simp only [List.length_append]; omega) (by omega)) ?_
  simp -implicitDefEqProofs -dsimp only [go_sem, seval]
  rw [<- e8, e9]
  exact J9 rfl
end Go.Aw
