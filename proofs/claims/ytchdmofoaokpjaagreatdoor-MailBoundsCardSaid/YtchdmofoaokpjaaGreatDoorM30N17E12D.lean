import Derived.Test.YtchdmofoaokpjaaGreatDoorM30Cs
import Derived.Test.YtchdmofoaokpjaaGreatDoorM30N17E12B
namespace Go.Aw
open Go
open Go.Proofs.Tryz (prog)
open Go.Proofs
set_option linter.all false
set_option maxHeartbeats 4000000
abbrev z7r : TypeId := 26
abbrev z7s : TypeId := 167
abbrev z3f : TypeId := 147
def q4k (w : List UInt8) (e : AV) : AV := .ifc z7s (.fptr [.s w, e])
def qk3 (e : Int) : AV := .ifc z7r (.i .i64 e)
inductive Er where
 | num (n : Int)
 | flt (w : List UInt8) (e : Er)
def Er.av : Er -> AV
 | .num n => qk3 n
 | .flt w e => q4k w e.av
def Er.code : Er -> Int
 | .num n => n
 | .flt _ e => e.code
theorem Er.chain {X : Cx} {w : World} : ∀ (e : Er) (v : Value), vr X w e.av v -> ∃ k, Chain w v e.code k
 | .num n, v, h => by
  simp only [Er.av, qk3, vr] at h
  obtain ⟨u, rfl, rfl⟩ := h
  exact ⟨0, .num n⟩
 | .flt t e, v, h => by
  simp only [Er.av, q4k, vr, vrs] at h
  obtain ⟨u, ⟨us, a, ⟨u1, us1, rfl, h1, u2, us2, rfl, h2, rfl⟩, rfl, hs, hf⟩, rfl⟩ := h
  obtain ⟨k, hc⟩ := Er.chain e u2 h2
  refine ⟨k + 1, .flt a u2 _ k ?_ hc⟩
  rcases hf with hf | ⟨_, _, hf⟩
  ·cases hf
  ·exact hf 1 u2 rfl
theorem qrj {T : Tab} {id : Nat} {old : Int} (e : Er) (hT : T id = .row 1 [.i .i64 old]) : ACalls prog qde [e.av, .ifc z3f (.ptr id 0)] T (fun v T' => v = .b true /\ T' = T.put id (.row 1 [.i .i64 e.code])) := by
 intro X lam w cargs hr hv
 simp only [vrs] at hv
 obtain ⟨v1, us1, rfl, h1, v2, us2, rfl, h2, rfl⟩ := hv
 simp only [vr] at h2
 obtain ⟨u, ⟨hid, rfl⟩, rfl⟩ := h2
 obtain ⟨k, hc⟩ := e.chain v1 h1
 obtain ⟨cur, ee, us, g1, g2, g3, g4, g5, g6, g7⟩ := hr.row id 1 _ hT
 simp only [vrs] at g2
 obtain ⟨u0, us0, rfl, g2, rfl⟩ := g2
 simp only [vr] at g2
 subst g2
 have hcur := g4 0 _ rfl
 simp only [Nat.add_zero] at hcur ⊢
 have ht : w.cell? ⟨(X.β id).blk, (X.β id).base, none⟩ = some (.int .i64 old) := by
  simp [World.cell?, g1, hcur]
 have hf : w.frozen? ⟨(X.β id).blk, (X.β id).base, none⟩ = false := by
  simp [World.frozen?, g1]
 have hg := (hr.glob _ (List.mem_singleton.2 rfl)).2
 refine (z0d _ _ e.code k v1 w hc ht hf hg).mono ?_
 rintro ev w' ⟨rfl, rfl⟩
 have hb : (X.β id).blk < w.heap.size := World.block_lt_of_cell? _ _ ht
 have h0 : SR X T w X lam [] [] T { tmps := #[], defers := [] } w := ⟨hr, .refl X T w, fun l c hc => by simp [q18] at hc, fun s x hs => by simp [q18] at hs, rfl⟩
 have h4 := (((h0.grow (World.grownBy_alloc w (.cells #[.pointer (some ⟨(X.β id).blk, (X.β id).base, none⟩)] 147) none)).grow (World.grownBy_alloc _ (.cells #[.pointer (some ⟨1, 147, none⟩), .pointer (some ⟨w.heap.size, 0, none⟩), .int .u64 150] 182) none)).grow
  (World.grownBy_alloc _ (.cells #[.pointer (some ⟨1, 147, none⟩), .pointer (some ⟨w.heap.size, 0, none⟩), .int .u64 150] 182) none)).grow (World.grownBy_alloc _ (.cells #[.int .i64 e.code] 26) none)
 obtain ⟨w', hw, hs⟩ := h4.storeRow (P := prog) (o := 0) (xs := [.i .i64 e.code]) (vs := [.int .i64 e.code]) hT (by simp) (by simp [vrs, vr]) (by simp [Value.oneCell'])
 have hcell : ((qi3 ⟨w.heap.size, 0, none⟩ (asW ⟨(X.β id).blk, (X.β id).base, none⟩ w)).alloc (.cells #[.int .i64 e.code] 26)).cell? ⟨(X.β id).blk, (X.β id).base, none⟩ = some (.int .i64 old) := by
  rw [World.cell?_alloc_lt _ _ _ (by simp; omega), World.cell?_alloc_lt _ _ _ (by simp; omega), World.cell?_alloc_lt _ _ _ (by simp; omega), World.cell?_alloc_lt _ _ _ hb]; exact ht
 have hfro : ((qi3 ⟨w.heap.size, 0, none⟩ (asW ⟨(X.β id).blk, (X.β id).base, none⟩ w)).alloc (.cells #[.int .i64 e.code] 26)).frozen? ⟨(X.β id).blk, (X.β id).base, none⟩ = false := by
  rw [World.frozen?_alloc_old _ _ _ (by simp; omega), World.frozen?_alloc_old _ _ _ (by simp; omega), World.frozen?_alloc_old _ _ _ (by simp; omega), World.frozen?_alloc_old _ _ _ (Nat.ne_of_lt hb)]; exact hf
 have hw2 : (storeCells ⟨(X.β id).blk, (X.β id).base + 0, none⟩ [.int .i64 e.code]).run prog ((qi3 ⟨w.heap.size, 0, none⟩ (asW ⟨(X.β id).blk, (X.β id).base, none⟩ w)).alloc (.cells #[.int .i64 e.code] 26))
   = .ok () (((qi3 ⟨w.heap.size, 0, none⟩ (asW ⟨(X.β id).blk, (X.β id).base, none⟩ w)).alloc (.cells #[.int .i64 e.code] 26)).setCell ⟨(X.β id).blk, (X.β id).base, none⟩ (.int .i64 e.code)) := by
  simp only [Nat.add_zero, storeCells, Sem.run_bind, Addr.add]
  simp only [if_true]
  rw [run_store prog _ _ _ _ (by rfl)]
  simp only [hcell, hfro]
  rfl
 have hww : w' = (((qi3 ⟨w.heap.size, 0, none⟩ (asW ⟨(X.β id).blk, (X.β id).base, none⟩ w)).alloc (.cells #[.int .i64 e.code] 26)).setCell ⟨(X.β id).blk, (X.β id).base, none⟩ (.int .i64 e.code)) := by
  have := hw.symm.trans hw2
  injection this
 subst hww
 exact ⟨_, .b true, _, X, lam, rfl, ⟨rfl, rfl⟩, by simp [vr], hs.rel, hs.step⟩
end Go.Aw
namespace Go.Aw
open Go
open Go.Proofs.Tryz (prog)
set_option linter.all false
set_option maxHeartbeats 4000000
theorem qg7 (w : List UInt8) (e : Int) : PCalls prog q0b [.s w, .i .i64 e] (if e = 0 then .nilifc else q4k w (qk3 e)) := by
 refine K6 U1 qqp (by simp) fun T => ?_
 unfold qj9
 by_cases h : e = 0
 ·subst h
  simp -implicitDefEqProofs -dsimp only [go_sem, seval, decide_true]
  exact J9 rfl
 ·have d : decide (e = 0) = false := decide_eq_false h
  simp -implicitDefEqProofs -dsimp only [go_sem, seval, d, h]
  intro id hid
  refine J1 ?_
  simp -implicitDefEqProofs -dsimp only [go_sem, seval]
  refine ⟨[id], T, _, by simp, by simp [Tab.put_same], fun j => ?_, ?_, rfl, rfl⟩
  ·simp only [qe7]
   rw [Tab.put_put, Tab.put_self hid]; exact .inr (.inl rfl)
  ·simp only [qm9, qaw, qc5, List.mem_singleton, if_true, Tab.put_same, List.drop_zero]
   exact .refl _
theorem qxl (b : Bool) : PCalls prog q6s [.b b] (.i .u64 (if b = true then (1 : Nat) else 0 : Nat)) := by
 refine K6 U1 qow (by simp) fun T => ?_
 unfold qgy
 cases b <;> (simp -implicitDefEqProofs -dsimp only [go_sem, seval]; exact J9 rfl)
theorem qut {R : q02} (hR : ExtR R) {T : Tab} {xs : List Rd} {cap : Option Nat} {tc : List AV} (hl : xs.length <= 8) (hs : ∀ r ∈ xs, r.k.length <= 32 /\ 0 <= r.n /\ r.n < 18446744073709551616) : ∀ (ys : List Rd) (k : Nat), xs.drop k = ys -> k <= xs.length -> ∀ (b : List UInt8) (c : Option Nat), b.length <= 1001000 + 100 * k ->
  (∀ c, R (.exit 0) [(1, bts (b ++ ys.flatMap qbz) c), (2, .lp 2 0), (24, .fz xs.length (xs.flatMap rdC) cap), (25, .i .i64 xs.length), (26, .i .i64 xs.length), (27, .b false)] [(2, tc)] T) ->
  AW prog q67 R [(1, bts b c), (2, .lp 2 0), (24, .fz xs.length (xs.flatMap rdC) cap), (25, .i .i64 xs.length), (26, .i .i64 k)] [(2, tc)] T := by
 intro ys
 induction ys with
 | nil =>
  intro k hk hle b c hb h2
  have hk' := G7 hk hle
  refine Y2 hR ?_
  unfold q5h
  simp -implicitDefEqProofs -dsimp only [go_sem, seval, hk', Int.lt_irrefl]
  rw [hk'] at h2
  simpa only [List.flatMap_nil, List.append_nil] using h2 c
 | cons y ys ih =>
  intro k hk hle b c hb h2
  obtain ⟨hlt, hy, hk'⟩ := I2 hk
  have hc := q16 qnc hy
  have hc5 : k * 2 + 2 <= (xs.flatMap rdC).length := by rw [U7 qnc]; omega
  obtain ⟨q1, q2, q3⟩ := hs y (List.mem_of_getElem? hy)
  obtain ⟨m, hm⟩ := Int.eq_ofNat_of_zero_le q2
  have h1 := K5 (m := y.k.length) (by omega)
  have h3 := K5 (m := m) (by omega)
  refine Q8 (l := q67) rfl hR ?_
  unfold q5h
  simp -implicitDefEqProofs -dsimp only [go_sem, seval, Int.ofNat_lt, hlt, Int.natCast_nonneg, Int.toNat_natCast, hc, hc5, rdC, List.cons_append, List.nil_append, ↓J0 _ _ q5r]
  refine cpn (qcf b c y.k (by omega) (by omega)) ?_
  simp -implicitDefEqProofs -dsimp only [go_sem, seval, hm, ↓J0 _ _ O4]
  refine cpn (I0 (b ++ qbw y.k) none m (by simp [qbw]; omega) (by omega)) ?_
  simp -implicitDefEqProofs -dsimp only [go_sem, seval]
  rw [Q9 (by omega)]
  have e : b ++ qbw y.k ++ enc m = b ++ qbz y := by simp [qbz, hm]
  rw [e]
  refine ih (k + 1) hk' hlt (b ++ qbz y) none (by simp [qbz, qbw, hm]; omega) fun c => ?_
  simpa only [List.flatMap_cons, List.append_assoc] using h2 c
theorem quu {R : q02} (hR : ExtR R) {T : Tab} {xs : List Wt} {cap : Option Nat} (hl : xs.length <= 8) (hs : ∀ w ∈ xs, w.k.length <= 32 /\ w.v.length <= 64) : ∀ (ys : List Wt) (k : Nat), xs.drop k = ys -> k <= xs.length -> ∀ (b : List UInt8) (c : Option Nat), b.length <= 1002000 + 200 * k ->
  (∀ c, R (.exit 2) [(1, bts (b ++ ys.flatMap qcz) c), (45, .fz xs.length (xs.flatMap wtC) cap), (46, .i .i64 xs.length), (47, .i .i64 xs.length), (48, .b false)] [] T) ->
  AW prog q68 R [(1, bts b c), (45, .fz xs.length (xs.flatMap wtC) cap), (46, .i .i64 xs.length), (47, .i .i64 k)] [] T := by
 intro ys
 induction ys with
 | nil =>
  intro k hk hle b c hb h2
  have hk' := G7 hk hle
  refine Y2 hR ?_
  unfold q5i
  simp -implicitDefEqProofs -dsimp only [go_sem, seval, hk', Int.lt_irrefl]
  rw [hk'] at h2
  simpa only [List.flatMap_nil, List.append_nil] using h2 c
 | cons y ys ih =>
  intro k hk hle b c hb h2
  obtain ⟨hlt, hy, hk'⟩ := I2 hk
  have hc := q16 qg1 hy
  have hc5 : k * 3 + 3 <= (xs.flatMap wtC).length := by rw [U7 qg1]; omega
  obtain ⟨q1, q2⟩ := hs y (List.mem_of_getElem? hy)
  have h1 := K5 (m := y.k.length) (by omega)
  have h3 := K5 (m := y.v.length) (by omega)
  refine Q8 (l := q68) rfl hR ?_
  unfold q5i
  simp -implicitDefEqProofs -dsimp only [go_sem, seval, Int.ofNat_lt, hlt, Int.natCast_nonneg, Int.toNat_natCast, hc, hc5, wtC, List.cons_append, List.nil_append, ↓J0 _ _ q5r]
  refine cpn (qcf b c y.k (by omega) (by omega)) ?_
  simp -implicitDefEqProofs -dsimp only [go_sem, seval, ↓J0 _ _ q5r]
  refine cpn (qcf (b ++ qbw y.k) none y.v (by simp [qbw]; omega) (by omega)) ?_
  simp -implicitDefEqProofs -dsimp only [go_sem, seval, ↓J0 _ _ qgz]
  refine cpn (qxl y.g) ?_
  simp -implicitDefEqProofs -dsimp only [go_sem, seval, ↓J0 _ _ O4]
  refine cpn (I0 (b ++ qbw y.k ++ qbw y.v) none _ (by simp [qbw]; omega) (by split <;> omega)) ?_
  simp -implicitDefEqProofs -dsimp only [go_sem, seval]
  rw [Q9 (by omega), enc_bit']
  have e : b ++ qbw y.k ++ qbw y.v ++ [qu1 y.g] = b ++ qcz y := by simp [qcz]
  rw [e]
  refine ih (k + 1) hk' hlt (b ++ qcz y) none (by simp [qcz, qbw]; omega) fun c => ?_
  simpa only [List.flatMap_cons, List.append_assoc] using h2 c
theorem qpi {r : Rd} (h : r.k.length <= 32 /\ 0 <= r.n /\ r.n < 18446744073709551616) : (qbz r).length <= 52 := by
 have h1 := K5 (m := r.k.length) (by omega)
 have h2 := K5 (m := r.n.toNat) (by omega)
 simp only [qbz, qbw, List.length_append]; omega
theorem qpj {w : Wt} (h : w.k.length <= 32 /\ w.v.length <= 64) : (qcz w).length <= 117 := by
 have h1 := K5 (m := w.k.length) (by omega)
 have h2 := K5 (m := w.v.length) (by omega)
 simp only [qcz, qbw, List.length_append, List.length_cons, List.length_nil]; omega
theorem qpk (t : Tx) (k1 k2 : Option Nat) (b : List UInt8) (c : Option Nat) (h : t.Good) (hb : b.length <= 1000000) : PCalls prog q2y [.agg (t.cells k1 k2), bts b c] (bts (b ++ qfg t) none) := by
 refine K6 U1 qfz (by simp) fun T => ?_
 obtain ⟨hcl, hsq, hr, hw, hrr, hww⟩ := h
 obtain ⟨cl, hclm⟩ := Int.eq_ofNat_of_zero_le hcl.1
 obtain ⟨sq, hsqm⟩ := Int.eq_ofNat_of_zero_le (show 0 <= t.sq by omega)
 have l1 := K5 (m := cl) (by omega)
 have l2 := K5 (m := sq) (by omega)
 have l3 := K5 (m := t.rs.length) (by omega)
 have l4 := K5 (m := t.ws.length) (by omega)
 have l5 := q4q (g := qbz) t.rs fun r hr => qpi (hrr r hr)
 have l6 := q4q (g := qcz) t.ws fun r hr => qpj (hww r hr)
 have c1 := qt5 b c cl sq hb (by omega) (by omega)
 unfold q9f
 simp -implicitDefEqProofs -dsimp only [go_sem, seval, Tx.cells, hclm, hsqm, ↓J0 _ _ qf3]
 refine cpn c1 ?_
 simp -implicitDefEqProofs -dsimp only [go_sem, seval, ↓J0 _ _ qgz]
 refine cpn (qxl t.pl) ?_
 simp -implicitDefEqProofs -dsimp only [go_sem, seval, ↓J0 _ _ O4]
 refine cpn (I0 (b ++ enc cl ++ enc sq) none _ (by simp; omega) (by split <;> omega)) ?_
 rw [enc_bit']
 simp -implicitDefEqProofs -dsimp only [go_sem, seval, q0m (n := t.rs.length) (by omega), ↓J0 _ _ O4]
 refine cpn (I0 (b ++ enc cl ++ enc sq ++ [qu1 t.pl]) none t.rs.length (by simp; omega) (by omega)) ?_
 simp -implicitDefEqProofs -dsimp only [go_sem, seval]
 refine qut (T := T) (by repeat' (first | exact Q2 _ _ | assumption | apply Q1 | apply N7 | apply Z0)) hr hrr t.rs 0 rfl (by omega) _ none (by simp; omega) (fun c => ?_)
 simp -implicitDefEqProofs -dsimp only [go_sem, seval, q0m (n := t.ws.length) (by omega), ↓J0 _ _ O4]
 refine cpn (I0 (b ++ enc cl ++ enc sq ++ [qu1 t.pl] ++ enc t.rs.length ++ t.rs.flatMap qbz) c t.ws.length (by simp only [List.length_append, List.length_cons, List.length_nil]; omega) (by omega)) ?_
 simp -implicitDefEqProofs -dsimp only [go_sem, seval]
 refine quu (T := T) (by repeat' (first | exact Q2 _ _ | assumption | apply Q1 | apply N7 | apply Z0)) hw hww t.ws 0 rfl (by omega) _ none (by simp only [List.length_append, List.length_cons, List.length_nil]; omega) (fun c => ?_)
 simp -implicitDefEqProofs -dsimp only [go_sem, seval]
 refine q74 ?_ rfl
 have e : b ++ enc cl ++ enc sq ++ [qu1 t.pl] ++ enc t.rs.length ++ t.rs.flatMap qbz ++ enc t.ws.length ++ t.ws.flatMap qcz = b ++ qfg t := by simp [qfg, hclm, hsqm]
 rw [e]
 exact .fz
end Go.Aw
namespace Go.Aw
open Go
open Go.Proofs.Tryz (prog)
set_option linter.all false
set_option maxHeartbeats 4000000
end Go.Aw
