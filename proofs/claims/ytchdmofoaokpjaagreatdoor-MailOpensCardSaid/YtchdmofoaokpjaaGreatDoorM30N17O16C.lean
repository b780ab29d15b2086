import Derived.Test.YtchdmofoaokpjaaGreatDoorM30N17E12B
import Derived.Test.YtchdmofoaokpjaaGreatDoorM30N17T16J
import Derived.Test.YtchdmofoaokpjaaGreatDoorM30N17E12D
import Derived.Test.YtchdmofoaokpjaaGreatDoorAwD
namespace Go.Aw
open Go
open Go.Proofs.Tryz (prog)
set_option linter.all false
set_option maxHeartbeats 4000000
theorem qos {T : Tab} {id : Nat} {s : RS} (h : T id = q69 s) : ACalls prog q21 [.ptr id 0] T (fun v T' => v = .b (!s.2 && decide (s.1 = [])) /\ T' = T) := by
 refine U7 U1 qf3 (by simp) ?_
 have hr : T id = .row 2 [bts s.1 none, .b s.2] := h
 have d : decide ((s.1.length : Int) = 0) = decide (s.1 = []) := decide_eq_decide.2 (by rw [<- List.length_eq_zero_iff]; omega)
 unfold q8w
 simp -implicitDefEqProofs -dsimp only [go_sem, seval, ↓J0 _ _ U4]
 refine can (qd7 h) ?_
 rcases hb : s.2 with _ | _
 ·simp -implicitDefEqProofs -dsimp only [go_sem, seval, hb, hr, bts, d]
  exact J9 rfl
 ·simp -implicitDefEqProofs -dsimp only [go_sem, seval, hb]
  exact J9 rfl
end Go.Aw
namespace Go.Aw
open Go
open Go.Proofs.Tryz (prog)
set_option linter.all false
set_option maxHeartbeats 4000000
def qrc (m : Int × Bool) : List UInt8 := enc m.1.toNat ++ [qvm m.2]
def lnN (ln : Int) : Nat := if ln < 0 then 8 else ln.toNat
def qot (w : Rf) : List UInt8 := enc w.ep.toNat ++ enc w.sh.toNat ++ enc w.l.length ++ w.l.flatMap qrc ++ enc (lnN w.ln)
def qdm (s : RS) : (Int × Bool) × RS := ((((K3 7 s).1 : Nat), decide ((K3 1 (K3 7 s).2).1 = 1)), (K3 1 (K3 7 s).2).2)
def rCf (s : RS) : Cf × RS :=
 let e := K3 18446744073709551615 s
 let h := K3 3 e.2
 let n := K3 8 h.2
 let ms := Y1 qdm n.1 n.2
 let ln := K3 8 ms.2
 (⟨e.1, h.1, ms.1.map (·.1), ms.1.map (·.2), if ln.1 = 8 then -1 else ln.1⟩, ln.2)
theorem z2n {m : Int × Bool} (h : 0 <= m.1 /\ m.1 < 8) (rest : List UInt8) : qdm (qrc m ++ rest, false) = (m, (rest, false)) := by
 have e : qrc m ++ rest = enc m.1.toNat ++ (enc (if m.2 = true then 1 else 0) ++ rest) := by simp [qrc, qhb]
 unfold qdm
 rw [e, Q9 (by omega) (by omega)]
 simp only
 rw [Q9 (by split <;> omega) (by split <;> omega)]
 obtain ⟨k, b⟩ := m
 simp only at h ⊢
 rw [show ((k.toNat : Nat) : Int) = k by omega]
 cases b <;> rfl
theorem qho (fu : List Bool) : ∀ (l : List Int) (k : Nat), k + l.length = fu.length -> (qin fu l k).map (·.2) = fu.drop k
 | [], k, h => by rw [List.drop_eq_nil_of_le (by simpa using Nat.le_of_eq h.symm)]; rfl
 | y :: ys, k, h => by
  simp only [List.length_cons] at h
  have hk : k < fu.length := by omega
  rw [List.drop_eq_getElem_cons hk]
  simp only [qin, List.map_cons, List.getElem?_eq_getElem hk, Option.getD_some]
  rw [qho fu ys (k + 1) (by omega)]
structure Cf.Ok (c : Cf) : Prop where
 ep : 0 <= c.ep /\ c.ep < 18446744073709551616
 sh : 0 <= c.sh /\ c.sh < 4
 ch : c.ch.length <= 8
 fu : c.fu.length = c.ch.length
 ms : ∀ k ∈ c.ch, 0 <= k /\ k < 8
 ln : c.ln = -1 \/ (0 <= c.ln /\ c.ln < 8)
theorem Cf.ok_of {c : Cf} (h : c.right = true) (he : 0 <= c.ep /\ c.ep < 18446744073709551616) : c.Ok := by
 simp only [Cf.right, Bool.and_eq_true, Bool.not_eq_true', decide_eq_false_iff_not, Bool.not_eq_false', decide_eq_true_eq, Bool.and_eq_false_iff, Bool.or_eq_false_iff, srv] at h
 obtain ⟨⟨⟨⟨⟨⟨⟨⟨h1, h2⟩, h3⟩, h4⟩, h5⟩, h6⟩, h7⟩, h8⟩, h9⟩ := h
 refine ⟨he, by omega, by omega, by omega, fun k hk => qz4 c.ch 0 h9 k hk, ?_⟩
 rcases h8 with h | h
 ·exact .inl h
 ·exact .inr (by simpa using h.1)
theorem z5w {c : Cf} (h : c.Ok) (rest : List UInt8) : rCf (qot c.plain ++ rest, false) = (c, (rest, false)) := by
 obtain ⟨hep, hsh, hch, hfu, hms, hln⟩ := h
 have hl : c.plain.l.length = c.ch.length := c.plain_len
 have e : qot c.plain ++ rest = enc c.ep.toNat ++ (enc c.sh.toNat ++ (enc c.plain.l.length ++ (c.plain.l.flatMap qrc ++ (enc (lnN c.ln) ++ rest)))) := by
  show enc c.ep.toNat ++ enc c.sh.toNat ++ enc c.plain.l.length ++ c.plain.l.flatMap qrc ++ enc (lnN c.ln) ++ rest = _
  simp
 have hl8 : lnN c.ln <= 8 := by unfold lnN; split <;> omega
 have hmem : ∀ m ∈ c.plain.l, 0 <= m.1 /\ m.1 < 8 := fun m hm => by
  have : m.1 ∈ c.ch := by rw [<- c.plain_fst]; exact List.mem_map_of_mem hm
  exact hms _ this
 unfold rCf
 rw [e, Q9 (by omega) (by omega)]
 simp only [Q9 (show c.sh.toNat <= 3 by omega) (by omega)]
 rw [Q9 (by omega) (by omega)]
 simp only
 rw [qci (g := qrc) (ok := fun m => 0 <= m.1 /\ m.1 < 8) (fun x rest h => z2n h rest) c.plain.l _ hmem]
 simp only
 rw [Q9 hl8 (by omega), c.plain_fst]
 have e2 : c.plain.l.map (·.2) = c.fu := qho c.fu c.ch 0 (by omega)
 rw [e2]
 obtain ⟨ep, sh, ch, fu, ln⟩ := c
 simp only at hep hsh hln ⊢
 rw [show ((ep.toNat : Nat) : Int) = ep by omega, show ((sh.toNat : Nat) : Int) = sh by omega]
 rcases hln with rfl | hln
 ·rfl
 ·have : lnN ln = ln.toNat := by unfold lnN; rw [if_neg (by omega)]
  rw [this, if_neg (by omega), show ((ln.toNat : Nat) : Int) = ln by omega]
theorem qou (s : RS) : (qdm s).2.1.length <= s.1.length := Nat.le_trans (O7 _ _) (O7 _ _)
theorem z5x (s : RS) : (rCf s).2.1.length <= s.1.length :=
 Nat.le_trans (O7 _ _) (Nat.le_trans (q6p qou _ _) (Nat.le_trans (O7 _ _) (Nat.le_trans (O7 _ _) (O7 _ _))))
end Go.Aw
namespace Go.Aw
open Go
open Go.Proofs.Tryz (prog)
set_option linter.all false
set_option maxHeartbeats 4000000
theorem qov {m : Int × Bool} (h : 0 <= m.1 /\ m.1 < 8) : (qrc m).length <= 11 := by
 have := K5 (m := m.1.toNat) (by omega)
 simp only [qrc, List.length_append, List.length_cons, List.length_nil]; omega
theorem z5y {R : G9} (hR : ExtR R) {T : Tab} {c : Cf} {k1 k2 : Option Nat} (h : c.Ok) : ∀ (ys : List (Int × Bool)) (k : Nat), c.plain.l.drop k = ys -> k <= c.ch.length -> ∀ (b : List UInt8) (q : Option Nat), b.length <= 1001000 + 100 * k ->
  (∀ q, R (.exit 0) [(3, .lp 3 0), (5, bts (b ++ ys.flatMap qrc) q), (31, .fz c.ch.length (qdp c.ch) k1), (32, .i .i64 c.ch.length), (33, .i .i64 c.ch.length), (34, .b false)] [(3, c.cells k1 k2)] T) ->
  AW prog qb6 R [(3, .lp 3 0), (5, bts b q), (31, .fz c.ch.length (qdp c.ch) k1), (32, .i .i64 c.ch.length), (33, .i .i64 k)] [(3, c.cells k1 k2)] T := by
 obtain ⟨hep, hsh, hch, hfu, hms, hln⟩ := h
 have hl : c.plain.l.length = c.ch.length := c.plain_len
 intro ys
 induction ys with
 | nil =>
  intro k hk hle b q hb h2
  have hk' := V6 hk (by omega)
  rw [hl] at hk'
  refine V1 hR ?_
  unfold qcu
  simp -implicitDefEqProofs -dsimp only [go_sem, seval, hk', Int.lt_irrefl]
  rw [hk'] at h2
  simpa only [List.flatMap_nil, List.append_nil] using h2 q
 | cons y ys ih =>
  intro k hk hle b q hb h2
  obtain ⟨hlt, hy, hk'⟩ := Y6 hk
  rw [hl] at hlt
  have hy1 : c.ch[k]? = some y.1 := by
   have := congrArg (fun l : List Int => l[k]?) c.plain_fst
   simp only [List.getElem?_map, hy, Option.map_some] at this
   exact this.symm
  have hy2 : c.fu[k]? = some y.2 := by
   have := congrArg (fun l : List Bool => l[k]?) (show c.plain.l.map (·.2) = c.fu from qho c.fu c.ch 0 (by omega))
   simp only [List.getElem?_map, hy, Option.map_some] at this
   exact this.symm
  have hm := hms y.1 (List.mem_of_getElem? hy1)
  obtain ⟨m, hmm⟩ := Int.eq_ofNat_of_zero_le hm.1
  have h1 := K5 (m := m) (by omega)
  have hkf : k < c.fu.length := by omega
  have e : ∀ x, b ++ enc m ++ [qvm y.2] = x -> b ++ qrc y = x := fun x hx => by rw [<- hx]; simp [qrc, hmm]
  have fin : ∀ q, AW prog qb6 R [(3, .lp 3 0), (5, bts (b ++ enc m ++ [qvm y.2]) q), (31, .fz c.ch.length (qdp c.ch) k1), (32, .i .i64 c.ch.length), (33, .i .i64 ((k + 1 : Nat) : Int))] [(3, c.cells k1 k2)] T := fun q => by
   rw [<- e _ rfl]
   refine ih (k + 1) hk' hlt _ q (by have := qov hm; simp; omega) fun q => ?_
   simpa only [List.flatMap_cons, List.append_assoc] using h2 q
  obtain ⟨n, f⟩ := y
  simp only at hmm hm hy1 hy2 e fin
  refine Q1 (l := qb6) rfl hR ?_
  unfold qcu
  simp only [Cf.cells] at fin ⊢
  cases f
  all_goals
   simp -implicitDefEqProofs -dsimp only [go_sem, seval, Int.ofNat_lt, hlt, hkf, Int.natCast_nonneg, Int.toNat_natCast, qo5, qub, hy1, hy2, hmm, q0q (n := m) (by omega), ↓J0 _ _ O4]
   refine cpn (I4 b q m (by omega) (by omega)) ?_
   simp -implicitDefEqProofs -dsimp only [go_sem, seval, ↓J0 _ _ O4]
  ·refine cpn (I4 (b ++ enc m) none 0 (by simp; omega) (by omega)) ?_
   simp -implicitDefEqProofs -dsimp only [go_sem, seval]
   rw [O8 (by omega), show enc 0 = [qvm false] from (qhb false).symm]
   exact fin none
  ·refine cpn (I4 (b ++ enc m) none 1 (by simp; omega) (by omega)) ?_
   simp -implicitDefEqProofs -dsimp only [go_sem, seval]
   rw [O8 (by omega), show enc 1 = [qvm true] from (qhb true).symm]
   exact fin none
theorem z5z (b : List UInt8) (q : Option Nat) (c : Cf) (k1 k2 : Option Nat) (hb : b.length <= 1000000) (hl : Len c.ch.length) (he : 0 <= c.ep /\ c.ep < 18446744073709551616) : PCalls prog qdj [bts b q, .agg (c.cells k1 k2)] (bts (if c.right = true then b ++ qot c.plain else b) none) := by
 refine K6 U1 qvs (by simp) fun T => ?_
 have c1 := qbn c k1 k2 hl
 simp only [Cf.cells] at c1
 unfold qnd
 simp -implicitDefEqProofs -dsimp only [go_sem, seval, Cf.cells, ↓J0 _ _ Z5]
 refine cpn (qgu b q (by omega)) ?_
 simp -implicitDefEqProofs -dsimp only [go_sem, seval, ↓J0 _ _ qd0]
 refine cpn c1 ?_
 rcases hr : c.right with _ | _
 ·simp -implicitDefEqProofs -dsimp only [go_sem, seval, hr]
  exact J9 rfl
 have hok := Cf.ok_of hr he
 obtain ⟨ep, hep⟩ := Int.eq_ofNat_of_zero_le hok.ep.1
 obtain ⟨sh, hsh⟩ := Int.eq_ofNat_of_zero_le hok.sh.1
 have x1 := hok.ep
 have x2 := hok.sh
 have x3 := hok.ch
 have x4 := hok.ln
 have l1 := K5 (m := ep) (by omega)
 have l2 := K5 (m := sh) (by omega)
 have l3 := K5 (m := c.ch.length) (by omega)
 have hpl : c.plain.l.length = c.ch.length := c.plain_len
 have hmem : ∀ m ∈ c.plain.l, 0 <= m.1 /\ m.1 < 8 := fun m hm => by
  have : m.1 ∈ c.ch := by rw [<- c.plain_fst]; exact List.mem_map_of_mem hm
  exact hok.ms _ this
 have l5 := q5i (g := qrc) c.plain.l fun m hm => qov (hmem m hm)
 simp -implicitDefEqProofs -dsimp only [go_sem, seval, hr, hep, hsh, q0q (n := sh) (by omega), ↓J0 _ _ O4]
 refine cpn (I4 b none ep (by omega) (by omega)) ?_
 simp -implicitDefEqProofs -dsimp only [go_sem, seval, ↓J0 _ _ O4]
 refine cpn (I4 (b ++ enc ep) none sh (by simp; omega) (by omega)) ?_
 simp -implicitDefEqProofs -dsimp only [go_sem, seval, q0q (n := c.ch.length) (by omega), ↓J0 _ _ O4]
 refine cpn (I4 (b ++ enc ep ++ enc sh) none c.ch.length (by simp; omega) (by omega)) ?_
 rw [<- hep, <- hsh]
 simp -implicitDefEqProofs -dsimp only [go_sem, seval]
 refine z5y (T := T) (k1 := k1) (k2 := k2) (by repeat' (first | exact O6 _ _ | assumption | apply O5 | apply N4 | apply V8)) hok c.plain.l 0 rfl (by omega) _ none (by simp; omega) (fun q => ?_)
 have e9 : b ++ enc ep ++ enc sh ++ enc c.ch.length ++ c.plain.l.flatMap qrc ++ enc (lnN c.ln) = b ++ qot c.plain := by
  have : qot c.plain = enc c.ep.toNat ++ enc c.sh.toNat ++ enc c.plain.l.length ++ c.plain.l.flatMap qrc ++ enc (lnN c.ln) := rfl
  rw [this, hpl, hep, hsh]; simp
 rcases hn : decide (c.ln = -1) with _ | _
 ·have hn' := of_decide_eq_false hn
  obtain ⟨ln, hln⟩ := Int.eq_ofNat_of_zero_le (show 0 <= c.ln by omega)
  have e8 : lnN c.ln = ln := by unfold lnN; rw [if_neg (by omega)]; omega
  simp -implicitDefEqProofs -dsimp only [go_sem, seval, Cf.cells, hn]
  rw [hln]
  simp -implicitDefEqProofs -dsimp only [go_sem, seval, q0q (n := ln) (by omega), ↓J0 _ _ O4]
  refine cpn (I4 _ q ln (by simp only [List.length_append]; omega) (by omega)) ?_
  simp -implicitDefEqProofs -dsimp only [go_sem, seval]
  rw [<- e8, e9]
  exact J9 rfl
 ·have hn' := of_decide_eq_true hn
  have e8 : lnN c.ln = 8 := by unfold lnN; rw [if_pos (by omega)]
  have u8 : IntKind.u64.wrap 8 = ((8 : Nat) : Int) := by decide +kernel
  simp -implicitDefEqProofs -dsimp only [go_sem, seval, Cf.cells, hn, u8, ↓J0 _ _ O4]
  refine cpn (I4 _ q 8 (by simp only [List.length_append]; omega) (by omega)) ?_
  simp -implicitDefEqProofs -dsimp only [go_sem, seval]
  rw [<- e8, e9]
  exact J9 rfl
end Go.Aw
