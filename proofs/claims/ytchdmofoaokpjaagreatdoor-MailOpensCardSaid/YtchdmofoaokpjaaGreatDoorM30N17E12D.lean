import Derived.Test.YtchdmofoaokpjaaGreatDoorM30Cs
import Derived.Test.YtchdmofoaokpjaaGreatDoorM30N17E12B
namespace Go.Aw
open Go
open Go.Proofs.Tryz (prog)
open Go.Proofs
set_option linter.all false
set_option maxHeartbeats 4000000
abbrev za9 : TypeId := 26
abbrev zaa : TypeId := 167
abbrev z5v : TypeId := 147
def q56 (w : List UInt8) (e : AV) : AV := .ifc zaa (.fptr [.s w, e])
def qlg (e : Int) : AV := .ifc za9 (.i .i64 e)
inductive Er where
 | num (n : Int)
 | flt (w : List UInt8) (e : Er)
def Er.av : Er -> AV
 | .num n => qlg n
 | .flt w e => q56 w e.av
def Er.code : Er -> Int
 | .num n => n
 | .flt _ e => e.code
theorem Er.chain {X : Cx} {w : World} : ∀ (e : Er) (v : Value), vr X w e.av v -> ∃ k, Chain w v e.code k
 | .num n, v, h => by
  simp only [Er.av, qlg, vr] at h
  obtain ⟨u, rfl, rfl⟩ := h
  exact ⟨0, .num n⟩
 | .flt t e, v, h => by
  simp only [Er.av, q56, vr, vrs] at h
  obtain ⟨u, ⟨us, a, ⟨u1, us1, rfl, h1, u2, us2, rfl, h2, rfl⟩, rfl, hs, hf⟩, rfl⟩ := h
  obtain ⟨k, hc⟩ := Er.chain e u2 h2
  refine ⟨k + 1, .flt a u2 _ k ?_ hc⟩
  rcases hf with hf | ⟨_, _, hf⟩
  ·cases hf
  ·exact hf 1 u2 rfl
theorem qsw {T : Tab} {id : Nat} {old : Int} (e : Er) (hT : T id = .row 1 [.i .i64 old]) : ACalls prog qem [e.av, .ifc z5v (.ptr id 0)] T (fun v T' => v = .b true /\ T' = T.put id (.row 1 [.i .i64 e.code])) := by
 intro X lam w cargs hr hv
 simp only [vrs] at hv
 obtain ⟨v1, us1, rfl, h1, v2, us2, rfl, h2, rfl⟩ := hv
 simp only [vr] at h2
 obtain ⟨u, ⟨hid, rfl⟩, rfl⟩ := h2
 obtain ⟨k, hc⟩ := e.chain v1 h1
 obtain ⟨cur, ee, us, g1, g2, g3, g4, g5, g6, g7⟩ := hr.row id 1 _ hT
 simp only [vrs] at g2
 obtain ⟨u0, us0, rfl, g2, rfl⟩ := g2
 simp only [vr] at g2
 subst g2
 have hcur := g4 0 _ rfl
 simp only [Nat.add_zero] at hcur ⊢
 have ht : w.cell? ⟨(X.β id).blk, (X.β id).base, none⟩ = some (.int .i64 old) := by
  simp [World.cell?, g1, hcur]
 have hf : w.frozen? ⟨(X.β id).blk, (X.β id).base, none⟩ = false := by
  simp [World.frozen?, g1]
 have hg := (hr.glob _ (List.mem_singleton.2 rfl)).2
 refine (z2m _ _ e.code k v1 w hc ht hf hg).mono ?_
 rintro ev w' ⟨rfl, rfl⟩
 have hb : (X.β id).blk < w.heap.size := World.block_lt_of_cell? _ _ ht
 have h0 : SR X T w X lam [] [] T { tmps := #[], defers := [] } w := ⟨hr, .refl X T w, fun l c hc => by simp [q10] at hc, fun s x hs => by simp [q10] at hs, rfl⟩
 have h4 := (((h0.grow (World.grownBy_alloc w (.cells #[.pointer (some ⟨(X.β id).blk, (X.β id).base, none⟩)] 147) none)).grow (World.grownBy_alloc _ (.cells #[.pointer (some ⟨1, 147, none⟩), .pointer (some ⟨w.heap.size, 0, none⟩), .int .u64 150] 182) none)).grow
  (World.grownBy_alloc _ (.cells #[.pointer (some ⟨1, 147, none⟩), .pointer (some ⟨w.heap.size, 0, none⟩), .int .u64 150] 182) none)).grow (World.grownBy_alloc _ (.cells #[.int .i64 e.code] 26) none)
 obtain ⟨w', hw, hs⟩ := h4.storeRow (P := prog) (o := 0) (xs := [.i .i64 e.code]) (vs := [.int .i64 e.code]) hT (by simp) (by simp [vrs, vr]) (by simp [Value.oneCell'])
 have hcell : ((qje ⟨w.heap.size, 0, none⟩ (asW ⟨(X.β id).blk, (X.β id).base, none⟩ w)).alloc (.cells #[.int .i64 e.code] 26)).cell? ⟨(X.β id).blk, (X.β id).base, none⟩ = some (.int .i64 old) := by
  rw [World.cell?_alloc_lt _ _ _ (by simp; omega), World.cell?_alloc_lt _ _ _ (by simp; omega), World.cell?_alloc_lt _ _ _ (by simp; omega), World.cell?_alloc_lt _ _ _ hb]; exact ht
 have hfro : ((qje ⟨w.heap.size, 0, none⟩ (asW ⟨(X.β id).blk, (X.β id).base, none⟩ w)).alloc (.cells #[.int .i64 e.code] 26)).frozen? ⟨(X.β id).blk, (X.β id).base, none⟩ = false := by
  rw [World.frozen?_alloc_old _ _ _ (by simp; omega), World.frozen?_alloc_old _ _ _ (by simp; omega), World.frozen?_alloc_old _ _ _ (by simp; omega), World.frozen?_alloc_old _ _ _ (Nat.ne_of_lt hb)]; exact hf
 have hw2 : (storeCells ⟨(X.β id).blk, (X.β id).base + 0, none⟩ [.int .i64 e.code]).run prog ((qje ⟨w.heap.size, 0, none⟩ (asW ⟨(X.β id).blk, (X.β id).base, none⟩ w)).alloc (.cells #[.int .i64 e.code] 26))
   = .ok () (((qje ⟨w.heap.size, 0, none⟩ (asW ⟨(X.β id).blk, (X.β id).base, none⟩ w)).alloc (.cells #[.int .i64 e.code] 26)).setCell ⟨(X.β id).blk, (X.β id).base, none⟩ (.int .i64 e.code)) := by
  simp only [Nat.add_zero, storeCells, Sem.run_bind, Addr.add]
  simp only [if_true]
  rw [run_store prog _ _ _ _ (by rfl)]
  simp only [hcell, hfro]
  rfl
 have hww : w' = (((qje ⟨w.heap.size, 0, none⟩ (asW ⟨(X.β id).blk, (X.β id).base, none⟩ w)).alloc (.cells #[.int .i64 e.code] 26)).setCell ⟨(X.β id).blk, (X.β id).base, none⟩ (.int .i64 e.code)) := by
  have := hw.symm.trans hw2
  injection this
 subst hww
 exact ⟨_, .b true, _, X, lam, rfl, ⟨rfl, rfl⟩, by simp [vr], hs.rel, hs.step⟩
end Go.Aw
namespace Go.Aw
open Go
open Go.Proofs.Tryz (prog)
set_option linter.all false
set_option maxHeartbeats 4000000
theorem qhn (w : List UInt8) (e : Int) : PCalls prog q0d [.s w, .i .i64 e] (if e = 0 then .nilifc else q56 w (qlg e)) := by
 refine K6 U1 qs2 (by simp) fun T => ?_
 unfold qkl
 by_cases h : e = 0
 ·subst h
  simp -implicitDefEqProofs -dsimp only [go_sem, seval, decide_true]
  exact J9 rfl
 ·have d : decide (e = 0) = false := decide_eq_false h
  simp -implicitDefEqProofs -dsimp only [go_sem, seval, d, h]
  intro id hid
  refine J1 ?_
  simp -implicitDefEqProofs -dsimp only [go_sem, seval]
  refine ⟨[id], T, _, by simp, by simp [Tab.put_same], fun j => ?_, ?_, rfl, rfl⟩
  ·simp only [qfo]
   rw [Tab.put_put, Tab.put_self hid]; exact .inr (.inl rfl)
  ·simp only [qm5, q99, qc6, List.mem_singleton, if_true, Tab.put_same, List.drop_zero]
   exact .refl _
theorem qzd (b : Bool) : PCalls prog q7k [.b b] (.i .u64 (if b = true then (1 : Nat) else 0 : Nat)) := by
 refine K6 U1 qq6 (by simp) fun T => ?_
 unfold qic
 cases b <;> (simp -implicitDefEqProofs -dsimp only [go_sem, seval]; exact J9 rfl)
theorem qwe {R : G9} (hR : ExtR R) {T : Tab} {xs : List Rd} {cap : Option Nat} {tc : List AV} (hl : xs.length <= 8) (hs : ∀ r ∈ xs, r.k.length <= 32 /\ 0 <= r.n /\ r.n < 18446744073709551616) : ∀ (ys : List Rd) (k : Nat), xs.drop k = ys -> k <= xs.length -> ∀ (b : List UInt8) (c : Option Nat), b.length <= 1001000 + 100 * k ->
  (∀ c, R (.exit 0) [(1, bts (b ++ ys.flatMap qd8) c), (2, .lp 2 0), (24, .fz xs.length (xs.flatMap rdC) cap), (25, .i .i64 xs.length), (26, .i .i64 xs.length), (27, .b false)] [(2, tc)] T) ->
  AW prog q6y R [(1, bts b c), (2, .lp 2 0), (24, .fz xs.length (xs.flatMap rdC) cap), (25, .i .i64 xs.length), (26, .i .i64 k)] [(2, tc)] T := by
 intro ys
 induction ys with
 | nil =>
  intro k hk hle b c hb h2
  have hk' := V6 hk hle
  refine V1 hR ?_
  unfold q66
  simp -implicitDefEqProofs -dsimp only [go_sem, seval, hk', Int.lt_irrefl]
  rw [hk'] at h2
  simpa only [List.flatMap_nil, List.append_nil] using h2 c
 | cons y ys ih =>
  intro k hk hle b c hb h2
  obtain ⟨hlt, hy, hk'⟩ := Y6 hk
  have hc := q08 qhh hy
  have hc5 : k * 2 + 2 <= (xs.flatMap rdC).length := by rw [Q5 qhh]; omega
  obtain ⟨q1, q2, q3⟩ := hs y (List.mem_of_getElem? hy)
  obtain ⟨m, hm⟩ := Int.eq_ofNat_of_zero_le q2
  have h1 := K5 (m := y.k.length) (by omega)
  have h3 := K5 (m := m) (by omega)
  refine Q1 (l := q6y) rfl hR ?_
  unfold q66
  simp -implicitDefEqProofs -dsimp only [go_sem, seval, Int.ofNat_lt, hlt, Int.natCast_nonneg, Int.toNat_natCast, hc, hc5, rdC, List.cons_append, List.nil_append, ↓J0 _ _ q6h]
  refine cpn (qdl b c y.k (by omega) (by omega)) ?_
  simp -implicitDefEqProofs -dsimp only [go_sem, seval, hm, ↓J0 _ _ O4]
  refine cpn (I4 (b ++ qd5 y.k) none m (by simp [qd5]; omega) (by omega)) ?_
  simp -implicitDefEqProofs -dsimp only [go_sem, seval]
  rw [O8 (by omega)]
  have e : b ++ qd5 y.k ++ enc m = b ++ qd8 y := by simp [qd8, hm]
  rw [e]
  refine ih (k + 1) hk' hlt (b ++ qd8 y) none (by simp [qd8, qd5, hm]; omega) fun c => ?_
  simpa only [List.flatMap_cons, List.append_assoc] using h2 c
theorem qwf {R : G9} (hR : ExtR R) {T : Tab} {xs : List Wt} {cap : Option Nat} (hl : xs.length <= 8) (hs : ∀ w ∈ xs, w.k.length <= 32 /\ w.v.length <= 64) : ∀ (ys : List Wt) (k : Nat), xs.drop k = ys -> k <= xs.length -> ∀ (b : List UInt8) (c : Option Nat), b.length <= 1002000 + 200 * k ->
  (∀ c, R (.exit 2) [(1, bts (b ++ ys.flatMap qe6) c), (45, .fz xs.length (xs.flatMap wtC) cap), (46, .i .i64 xs.length), (47, .i .i64 xs.length), (48, .b false)] [] T) ->
  AW prog q6z R [(1, bts b c), (45, .fz xs.length (xs.flatMap wtC) cap), (46, .i .i64 xs.length), (47, .i .i64 k)] [] T := by
 intro ys
 induction ys with
 | nil =>
  intro k hk hle b c hb h2
  have hk' := V6 hk hle
  refine V1 hR ?_
  unfold q67
  simp -implicitDefEqProofs -dsimp only [go_sem, seval, hk', Int.lt_irrefl]
  rw [hk'] at h2
  simpa only [List.flatMap_nil, List.append_nil] using h2 c
 | cons y ys ih =>
  intro k hk hle b c hb h2
  obtain ⟨hlt, hy, hk'⟩ := Y6 hk
  have hc := q08 qd4 hy
  have hc5 : k * 3 + 3 <= (xs.flatMap wtC).length := by rw [Q5 qd4]; omega
  obtain ⟨q1, q2⟩ := hs y (List.mem_of_getElem? hy)
  have h1 := K5 (m := y.k.length) (by omega)
  have h3 := K5 (m := y.v.length) (by omega)
  refine Q1 (l := q6z) rfl hR ?_
  unfold q67
  simp -implicitDefEqProofs -dsimp only [go_sem, seval, Int.ofNat_lt, hlt, Int.natCast_nonneg, Int.toNat_natCast, hc, hc5, wtC, List.cons_append, List.nil_append, ↓J0 _ _ q6h]
  refine cpn (qdl b c y.k (by omega) (by omega)) ?_
  simp -implicitDefEqProofs -dsimp only [go_sem, seval, ↓J0 _ _ q6h]
  refine cpn (qdl (b ++ qd5 y.k) none y.v (by simp [qd5]; omega) (by omega)) ?_
  simp -implicitDefEqProofs -dsimp only [go_sem, seval, ↓J0 _ _ qid]
  refine cpn (qzd y.g) ?_
  simp -implicitDefEqProofs -dsimp only [go_sem, seval, ↓J0 _ _ O4]
  refine cpn (I4 (b ++ qd5 y.k ++ qd5 y.v) none _ (by simp [qd5]; omega) (by split <;> omega)) ?_
  simp -implicitDefEqProofs -dsimp only [go_sem, seval]
  rw [O8 (by omega), enc_bit']
  have e : b ++ qd5 y.k ++ qd5 y.v ++ [qvm y.g] = b ++ qe6 y := by simp [qe6]
  rw [e]
  refine ih (k + 1) hk' hlt (b ++ qe6 y) none (by simp [qe6, qd5]; omega) fun c => ?_
  simpa only [List.flatMap_cons, List.append_assoc] using h2 c
theorem qqv {r : Rd} (h : r.k.length <= 32 /\ 0 <= r.n /\ r.n < 18446744073709551616) : (qd8 r).length <= 52 := by
 have h1 := K5 (m := r.k.length) (by omega)
 have h2 := K5 (m := r.n.toNat) (by omega)
 simp only [qd8, qd5, List.length_append]; omega
theorem qqw {w : Wt} (h : w.k.length <= 32 /\ w.v.length <= 64) : (qe6 w).length <= 117 := by
 have h1 := K5 (m := w.k.length) (by omega)
 have h2 := K5 (m := w.v.length) (by omega)
 simp only [qe6, qd5, List.length_append, List.length_cons, List.length_nil]; omega
theorem qqx (t : Tx) (k1 k2 : Option Nat) (b : List UInt8) (c : Option Nat) (h : t.Good) (hb : b.length <= 1000000) : PCalls prog q36 [.agg (t.cells k1 k2), bts b c] (bts (b ++ qgv t) none) := by
 refine K6 U1 qhf (by simp) fun T => ?_
 obtain ⟨hcl, hsq, hr, hw, hrr, hww⟩ := h
 obtain ⟨cl, hclm⟩ := Int.eq_ofNat_of_zero_le hcl.1
 obtain ⟨sq, hsqm⟩ := Int.eq_ofNat_of_zero_le (show 0 <= t.sq by omega)
 have l1 := K5 (m := cl) (by omega)
 have l2 := K5 (m := sq) (by omega)
 have l3 := K5 (m := t.rs.length) (by omega)
 have l4 := K5 (m := t.ws.length) (by omega)
 have l5 := q5i (g := qd8) t.rs fun r hr => qqv (hrr r hr)
 have l6 := q5i (g := qe6) t.ws fun r hr => qqw (hww r hr)
 have c1 := quj b c cl sq hb (by omega) (by omega)
 unfold qaj
 simp -implicitDefEqProofs -dsimp only [go_sem, seval, Tx.cells, hclm, hsqm, ↓J0 _ _ qgh]
 refine cpn c1 ?_
 simp -implicitDefEqProofs -dsimp only [go_sem, seval, ↓J0 _ _ qid]
 refine cpn (qzd t.pl) ?_
 simp -implicitDefEqProofs -dsimp only [go_sem, seval, ↓J0 _ _ O4]
 refine cpn (I4 (b ++ enc cl ++ enc sq) none _ (by simp; omega) (by split <;> omega)) ?_
 rw [enc_bit']
 simp -implicitDefEqProofs -dsimp only [go_sem, seval, q0q (n := t.rs.length) (by omega), ↓J0 _ _ O4]
 refine cpn (I4 (b ++ enc cl ++ enc sq ++ [qvm t.pl]) none t.rs.length (by simp; omega) (by omega)) ?_
 simp -implicitDefEqProofs -dsimp only [go_sem, seval]
 refine qwe (T := T) (by repeat' (first | exact O6 _ _ | assumption | apply O5 | apply N4 | apply V8)) hr hrr t.rs 0 rfl (by omega) _ none (by simp; omega) (fun c => ?_)
 simp -implicitDefEqProofs -dsimp only [go_sem, seval, q0q (n := t.ws.length) (by omega), ↓J0 _ _ O4]
 refine cpn (I4 (b ++ enc cl ++ enc sq ++ [qvm t.pl] ++ enc t.rs.length ++ t.rs.flatMap qd8) c t.ws.length (by simp only [List.length_append, List.length_cons, List.length_nil]; omega) (by omega)) ?_
 simp -implicitDefEqProofs -dsimp only [go_sem, seval]
 refine qwf (T := T) (by repeat' (first | exact O6 _ _ | assumption | apply O5 | apply N4 | apply V8)) hw hww t.ws 0 rfl (by omega) _ none (by simp only [List.length_append, List.length_cons, List.length_nil]; omega) (fun c => ?_)
 simp -implicitDefEqProofs -dsimp only [go_sem, seval]
 refine q82 ?_ rfl
 have e : b ++ enc cl ++ enc sq ++ [qvm t.pl] ++ enc t.rs.length ++ t.rs.flatMap qd8 ++ enc t.ws.length ++ t.ws.flatMap qe6 = b ++ qgv t := by simp [qgv, hclm, hsqm]
 rw [e]
 exact .fz
end Go.Aw
namespace Go.Aw
open Go
open Go.Proofs.Tryz (prog)
set_option linter.all false
set_option maxHeartbeats 4000000
end Go.Aw
