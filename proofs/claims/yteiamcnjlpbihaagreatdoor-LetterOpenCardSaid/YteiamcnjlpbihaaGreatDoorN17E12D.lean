import Derived.Test.YteiamcnjlpbihaaGreatDoorN17Cs
import Derived.Test.YteiamcnjlpbihaaGreatDoorN17E12B
namespace Go.Aw
open Go
open Go.Proofs.Tryz (prog)
open Go.Proofs
set_option linter.all false
set_option maxHeartbeats 4000000
abbrev zhc : TypeId := 36
abbrev zhd : TypeId := 169
abbrev zct : TypeId := 148
def q85 (w : List UInt8) (e : AV) : AV := .ifc zhd (.fptr [.s w, e])
def qs9 (e : Int) : AV := .ifc zhc (.i .i64 e)
inductive Er where
 | num (n : Int)
 | flt (w : List UInt8) (e : Er)
def Er.av : Er -> AV
 | .num n => qs9 n
 | .flt w e => q85 w e.av
def Er.code : Er -> Int
 | .num n => n
 | .flt _ e => e.code
theorem Er.chain {X : Cx} {w : World} : ∀ (e : Er) (v : Value), vr X w e.av v -> ∃ k, Chain w v e.code k
 | .num n, v, h => by
  simp only [Er.av, qs9, vr] at h
  obtain ⟨u, rfl, rfl⟩ := h
  exact ⟨0, .num n⟩
 | .flt t e, v, h => by
  simp only [Er.av, q85, vr, vrs] at h
  obtain ⟨u, ⟨us, a, ⟨u1, us1, rfl, h1, u2, us2, rfl, h2, rfl⟩, rfl, hs, hf⟩, rfl⟩ := h
  obtain ⟨k, hc⟩ := Er.chain e u2 h2
  refine ⟨k + 1, .flt a u2 _ k ?_ hc⟩
  rcases hf with hf | ⟨_, _, hf⟩
  ·cases hf
  ·exact hf 1 u2 rfl
theorem z0s {T : Tab} {id : Nat} {old : Int} (e : Er) (hT : T id = .row 1 [.i .i64 old]) : ACalls prog qkx [e.av, .ifc zct (.ptr id 0)] T (fun v T' => v = .b true /\ T' = T.put id (.row 1 [.i .i64 e.code])) := by
 intro X lam w cargs hr hv
 simp only [vrs] at hv
 obtain ⟨v1, us1, rfl, h1, v2, us2, rfl, h2, rfl⟩ := hv
 simp only [vr] at h2
 obtain ⟨u, ⟨hid, rfl⟩, rfl⟩ := h2
 obtain ⟨k, hc⟩ := e.chain v1 h1
 obtain ⟨cur, ee, us, g1, g2, g3, g4, g5, g6, g7⟩ := hr.row id 1 _ hT
 simp only [vrs] at g2
 obtain ⟨u0, us0, rfl, g2, rfl⟩ := g2
 simp only [vr] at g2
 subst g2
 have hcur := g4 0 _ rfl
 simp only [Nat.add_zero] at hcur ⊢
 have ht : w.cell? ⟨(X.β id).blk, (X.β id).base, none⟩ = some (.int .i64 old) := by
  simp [World.cell?, g1, hcur]
 have hf : w.frozen? ⟨(X.β id).blk, (X.β id).base, none⟩ = false := by
  simp [World.frozen?, g1]
 have hg := (hr.glob _ (List.mem_singleton.2 rfl)).2
 refine (z9g _ _ e.code k v1 w hc ht hf hg).mono ?_
 rintro ev w' ⟨rfl, rfl⟩
 have hb : (X.β id).blk < w.heap.size := World.block_lt_of_cell? _ _ ht
 have h0 : SR X T w X lam [] [] T { tmps := #[], defers := [] } w := ⟨hr, .refl X T w, fun l c hc => by simp [q2d] at hc, fun s x hs => by simp [q2d] at hs, rfl⟩
 have h4 := (((h0.grow (World.grownBy_alloc w (.cells #[.pointer (some ⟨(X.β id).blk, (X.β id).base, none⟩)] 148) none)).grow (World.grownBy_alloc _ (.cells #[.pointer (some ⟨1, 148, none⟩), .pointer (some ⟨w.heap.size, 0, none⟩), .int .u64 150] 184) none)).grow
  (World.grownBy_alloc _ (.cells #[.pointer (some ⟨1, 148, none⟩), .pointer (some ⟨w.heap.size, 0, none⟩), .int .u64 150] 184) none)).grow (World.grownBy_alloc _ (.cells #[.int .i64 e.code] 36) none)
 obtain ⟨w', hw, hs⟩ := h4.storeRow (P := prog) (o := 0) (xs := [.i .i64 e.code]) (vs := [.int .i64 e.code]) hT (by simp) (by simp [vrs, vr]) (by simp [Value.oneCell'])
 have hcell : ((qqa ⟨w.heap.size, 0, none⟩ (asW ⟨(X.β id).blk, (X.β id).base, none⟩ w)).alloc (.cells #[.int .i64 e.code] 36)).cell? ⟨(X.β id).blk, (X.β id).base, none⟩ = some (.int .i64 old) := by
  rw [World.cell?_alloc_lt _ _ _ (by simp; omega), World.cell?_alloc_lt _ _ _ (by simp; omega), World.cell?_alloc_lt _ _ _ (by simp; omega), World.cell?_alloc_lt _ _ _ hb]; exact ht
 have hfro : ((qqa ⟨w.heap.size, 0, none⟩ (asW ⟨(X.β id).blk, (X.β id).base, none⟩ w)).alloc (.cells #[.int .i64 e.code] 36)).frozen? ⟨(X.β id).blk, (X.β id).base, none⟩ = false := by
  rw [World.frozen?_alloc_old _ _ _ (by simp; omega), World.frozen?_alloc_old _ _ _ (by simp; omega), World.frozen?_alloc_old _ _ _ (by simp; omega), World.frozen?_alloc_old _ _ _ (Nat.ne_of_lt hb)]; exact hf
 have hw2 : (storeCells ⟨(X.β id).blk, (X.β id).base + 0, none⟩ [.int .i64 e.code]).run prog ((qqa ⟨w.heap.size, 0, none⟩ (asW ⟨(X.β id).blk, (X.β id).base, none⟩ w)).alloc (.cells #[.int .i64 e.code] 36))
   = .ok () (((qqa ⟨w.heap.size, 0, none⟩ (asW ⟨(X.β id).blk, (X.β id).base, none⟩ w)).alloc (.cells #[.int .i64 e.code] 36)).setCell ⟨(X.β id).blk, (X.β id).base, none⟩ (.int .i64 e.code)) := by
  simp only [Nat.add_zero, storeCells, Sem.run_bind, Addr.add]
  simp only [if_true]
  rw [run_store prog _ _ _ _ (by rfl)]
  simp only [hcell, hfro]
  rfl
 have hww : w' = (((qqa ⟨w.heap.size, 0, none⟩ (asW ⟨(X.β id).blk, (X.β id).base, none⟩ w)).alloc (.cells #[.int .i64 e.code] 36)).setCell ⟨(X.β id).blk, (X.β id).base, none⟩ (.int .i64 e.code)) := by
  have := hw.symm.trans hw2
  injection this
 subst hww
 exact ⟨_, .b true, _, X, lam, rfl, ⟨rfl, rfl⟩, by simp [vr], hs.rel, hs.step⟩
end Go.Aw
namespace Go.Aw
open Go
open Go.Proofs.Tryz (prog)
set_option linter.all false
set_option maxHeartbeats 4000000
theorem qou (w : List UInt8) (e : Int) : PCalls prog q13 [.s w, .i .i64 e] (if e = 0 then .nilifc else q85 w (qs9 e)) := by
 refine K7 U3 qzx (by simp) fun T => ?_
 unfold qrd
 by_cases h : e = 0
 ·subst h
  simp -implicitDefEqProofs -dsimp only [go_sem, seval, decide_true]
  exact J9 rfl
 ·have d : decide (e = 0) = false := decide_eq_false h
  simp -implicitDefEqProofs -dsimp only [go_sem, seval, d, h]
  intro id hid
  refine J1 ?_
  simp -implicitDefEqProofs -dsimp only [go_sem, seval]
  refine ⟨[id], T, _, by simp, by simp [Tab.put_same], fun j => ?_, ?_, rfl, rfl⟩
  ·simp only [qm9]
   rw [Tab.put_put, Tab.put_self hid]; exact .inr (.inl rfl)
  ·simp only [qo7, qdf, qhg, List.mem_singleton, if_true, Tab.put_same, List.drop_zero]
   exact .refl _
theorem z6o (b : Bool) : PCalls prog qb4 [.b b] (.i .u64 (if b = true then (1 : Nat) else 0 : Nat)) := by
 refine K7 U3 qxl (by simp) fun T => ?_
 unfold qpf
 cases b <;> (simp -implicitDefEqProofs -dsimp only [go_sem, seval]; exact J9 rfl)
theorem z3q {R : Z1} (hR : ExtR R) {T : Tab} {xs : List Rd} {cap : Option Nat} {tc : List AV} (hl : xs.length <= 8) (hs : ∀ r ∈ xs, r.k.length <= 32 /\ 0 <= r.n /\ r.n < 18446744073709551616) : ∀ (ys : List Rd) (k : Nat), xs.drop k = ys -> k <= xs.length -> ∀ (b : List UInt8) (c : Option Nat), b.length <= 1001000 + 100 * k ->
  (∀ c, R (.exit 0) [(1, bts (b ++ ys.flatMap qem) c), (2, .lp 2 0), (24, .fz xs.length (xs.flatMap rdC) cap), (25, .i .i64 xs.length), (26, .i .i64 xs.length), (27, .b false)] [(2, tc)] T) ->
  AW prog qa8 R [(1, bts b c), (2, .lp 2 0), (24, .fz xs.length (xs.flatMap rdC) cap), (25, .i .i64 xs.length), (26, .i .i64 k)] [(2, tc)] T := by
 intro ys
 induction ys with
 | nil =>
  intro k hk hle b c hb h2
  have hk' := Q7 hk hle
  refine Q5 hR ?_
  unfold q95
  simp -implicitDefEqProofs -dsimp only [go_sem, seval, hk', Int.lt_irrefl]
  rw [hk'] at h2
  simpa only [List.flatMap_nil, List.append_nil] using h2 c
 | cons y ys ih =>
  intro k hk hle b c hb h2
  obtain ⟨hlt, hy, hk'⟩ := U6 hk
  have hc := Z5 q99 hy
  have hc5 : k * 2 + 2 <= (xs.flatMap rdC).length := by rw [O1 q99]; omega
  obtain ⟨q1, q2, q3⟩ := hs y (List.mem_of_getElem? hy)
  obtain ⟨m, hm⟩ := Int.eq_ofNat_of_zero_le q2
  have h1 := K5 (m := y.k.length) (by omega)
  have h3 := K5 (m := m) (by omega)
  refine O0 (l := qa8) rfl hR ?_
  unfold q95
  simp -implicitDefEqProofs -dsimp only [go_sem, seval, Int.ofNat_lt, hlt, Int.natCast_nonneg, Int.toNat_natCast, hc, hc5, rdC, List.cons_append, List.nil_append, ↓J0 _ _ q9j]
  refine cpn (qj2 b c y.k (by omega) (by omega)) ?_
  simp -implicitDefEqProofs -dsimp only [go_sem, seval, hm, ↓J0 _ _ U1]
  refine cpn (q0h (b ++ q76 y.k) none m (by simp [q76]; omega) (by omega)) ?_
  simp -implicitDefEqProofs -dsimp only [go_sem, seval]
  rw [N4 (by omega)]
  have e : b ++ q76 y.k ++ enc m = b ++ qem y := by simp [qem, hm]
  rw [e]
  refine ih (k + 1) hk' hlt (b ++ qem y) none (by simp [qem, q76, hm]; omega) fun c => ?_
  simpa only [List.flatMap_cons, List.append_assoc] using h2 c
theorem z3r {R : Z1} (hR : ExtR R) {T : Tab} {xs : List Wt} {cap : Option Nat} (hl : xs.length <= 8) (hs : ∀ w ∈ xs, w.k.length <= 32 /\ w.v.length <= 64) : ∀ (ys : List Wt) (k : Nat), xs.drop k = ys -> k <= xs.length -> ∀ (b : List UInt8) (c : Option Nat), b.length <= 1002000 + 200 * k ->
  (∀ c, R (.exit 2) [(1, bts (b ++ ys.flatMap qgt) c), (45, .fz xs.length (xs.flatMap wtC) cap), (46, .i .i64 xs.length), (47, .i .i64 xs.length), (48, .b false)] [] T) ->
  AW prog qa9 R [(1, bts b c), (45, .fz xs.length (xs.flatMap wtC) cap), (46, .i .i64 xs.length), (47, .i .i64 k)] [] T := by
 intro ys
 induction ys with
 | nil =>
  intro k hk hle b c hb h2
  have hk' := Q7 hk hle
  refine Q5 hR ?_
  unfold q96
  simp -implicitDefEqProofs -dsimp only [go_sem, seval, hk', Int.lt_irrefl]
  rw [hk'] at h2
  simpa only [List.flatMap_nil, List.append_nil] using h2 c
 | cons y ys ih =>
  intro k hk hle b c hb h2
  obtain ⟨hlt, hy, hk'⟩ := U6 hk
  have hc := Z5 q7s hy
  have hc5 : k * 3 + 3 <= (xs.flatMap wtC).length := by rw [O1 q7s]; omega
  obtain ⟨q1, q2⟩ := hs y (List.mem_of_getElem? hy)
  have h1 := K5 (m := y.k.length) (by omega)
  have h3 := K5 (m := y.v.length) (by omega)
  refine O0 (l := qa9) rfl hR ?_
  unfold q96
  simp -implicitDefEqProofs -dsimp only [go_sem, seval, Int.ofNat_lt, hlt, Int.natCast_nonneg, Int.toNat_natCast, hc, hc5, wtC, List.cons_append, List.nil_append, ↓J0 _ _ q9j]
  refine cpn (qj2 b c y.k (by omega) (by omega)) ?_
  simp -implicitDefEqProofs -dsimp only [go_sem, seval, ↓J0 _ _ q9j]
  refine cpn (qj2 (b ++ q76 y.k) none y.v (by simp [q76]; omega) (by omega)) ?_
  simp -implicitDefEqProofs -dsimp only [go_sem, seval, ↓J0 _ _ qpg]
  refine cpn (z6o y.g) ?_
  simp -implicitDefEqProofs -dsimp only [go_sem, seval, ↓J0 _ _ U1]
  refine cpn (q0h (b ++ q76 y.k ++ q76 y.v) none _ (by simp [q76]; omega) (by split <;> omega)) ?_
  simp -implicitDefEqProofs -dsimp only [go_sem, seval]
  rw [N4 (by omega), enc_bit']
  have e : b ++ q76 y.k ++ q76 y.v ++ [qiw y.g] = b ++ qgt y := by simp [qgt]
  rw [e]
  refine ih (k + 1) hk' hlt (b ++ qgt y) none (by simp [qgt, q76]; omega) fun c => ?_
  simpa only [List.flatMap_cons, List.append_assoc] using h2 c
theorem qsa {r : Rd} (h : r.k.length <= 32 /\ 0 <= r.n /\ r.n < 18446744073709551616) : (qem r).length <= 52 := by
 have h1 := K5 (m := r.k.length) (by omega)
 have h2 := K5 (m := r.n.toNat) (by omega)
 simp only [qem, q76, List.length_append]; omega
theorem qyj {w : Wt} (h : w.k.length <= 32 /\ w.v.length <= 64) : (qgt w).length <= 117 := by
 have h1 := K5 (m := w.k.length) (by omega)
 have h2 := K5 (m := w.v.length) (by omega)
 simp only [qgt, q76, List.length_append, List.length_cons, List.length_nil]; omega
theorem qyk (t : Tx) (k1 k2 : Option Nat) (b : List UInt8) (c : Option Nat) (h : t.Good) (hb : b.length <= 1000000) : PCalls prog q4z [.agg (t.cells k1 k2), bts b c] (bts (b ++ qay t) none) := by
 refine K7 U3 qol (by simp) fun T => ?_
 obtain ⟨hcl, hsq, hr, hw, hrr, hww⟩ := h
 obtain ⟨cl, hclm⟩ := Int.eq_ofNat_of_zero_le hcl.1
 obtain ⟨sq, hsqm⟩ := Int.eq_ofNat_of_zero_le (show 0 <= t.sq by omega)
 have l1 := K5 (m := cl) (by omega)
 have l2 := K5 (m := sq) (by omega)
 have l3 := K5 (m := t.rs.length) (by omega)
 have l4 := K5 (m := t.ws.length) (by omega)
 have l5 := q2x (g := qem) t.rs fun r hr => qsa (hrr r hr)
 have l6 := q2x (g := qgt) t.ws fun r hr => qyj (hww r hr)
 have c1 := z1s b c cl sq hb (by omega) (by omega)
 unfold qf7
 simp -implicitDefEqProofs -dsimp only [go_sem, seval, Tx.cells, hclm, hsqm, ↓J0 _ _ qnl]
 refine cpn c1 ?_
 simp -implicitDefEqProofs -dsimp only [go_sem, seval, ↓J0 _ _ qpg]
 refine cpn (z6o t.pl) ?_
 simp -implicitDefEqProofs -dsimp only [go_sem, seval, ↓J0 _ _ U1]
 refine cpn (q0h (b ++ enc cl ++ enc sq) none _ (by simp; omega) (by split <;> omega)) ?_
 rw [enc_bit']
 simp -implicitDefEqProofs -dsimp only [go_sem, seval, q0r (n := t.rs.length) (by omega), ↓J0 _ _ U1]
 refine cpn (q0h (b ++ enc cl ++ enc sq ++ [qiw t.pl]) none t.rs.length (by simp; omega) (by omega)) ?_
 simp -implicitDefEqProofs -dsimp only [go_sem, seval]
 refine z3q (T := T) (by repeat' (first | exact N2 _ _ | assumption | apply N1 | apply K9 | apply Q3)) hr hrr t.rs 0 rfl (by omega) _ none (by simp; omega) (fun c => ?_)
 simp -implicitDefEqProofs -dsimp only [go_sem, seval, q0r (n := t.ws.length) (by omega), ↓J0 _ _ U1]
 refine cpn (q0h (b ++ enc cl ++ enc sq ++ [qiw t.pl] ++ enc t.rs.length ++ t.rs.flatMap qem) c t.ws.length (by simp only [List.length_append, List.length_cons, List.length_nil]; omega) (by omega)) ?_
 simp -implicitDefEqProofs -dsimp only [go_sem, seval]
 refine z3r (T := T) (by repeat' (first | exact N2 _ _ | assumption | apply N1 | apply K9 | apply Q3)) hw hww t.ws 0 rfl (by omega) _ none (by simp only [List.length_append, List.length_cons, List.length_nil]; omega) (fun c => ?_)
 simp -implicitDefEqProofs -dsimp only [go_sem, seval]
 refine qev ?_ rfl
 have e : b ++ enc cl ++ enc sq ++ [qiw t.pl] ++ enc t.rs.length ++ t.rs.flatMap qem ++ enc t.ws.length ++ t.ws.flatMap qgt = b ++ qay t := by simp [qay, hclm, hsqm]
 rw [e]
 exact .fz
end Go.Aw
namespace Go.Aw
open Go
open Go.Proofs.Tryz (prog)
set_option linter.all false
set_option maxHeartbeats 4000000
theorem z6p (b : Bool) : PCalls prog q3y [.b b] (bts [qiw b] (some 1)) := by
 refine K7 U3 qnd (by simp) fun T => ?_
 unfold qdw
 cases b <;> (simp -implicitDefEqProofs -dsimp only [go_sem, seval]; exact J9 rfl)
theorem zaw (T : Tab) (cl sq : Nat) (hc : cl < 9223372036854775808) (hs : sq < 18446744073709551616) : ACalls prog q50 [.agg [.i .i64 cl, .i .u64 sq]] T (fun v T' => Own T 1 v (enc cl ++ enc sq).length (K8 (enc cl ++ enc sq)) T') := by
 refine Z3 U3 qon (by simp) ?_
 have l1 := K5 (m := cl) (by omega)
 have l2 := K5 (m := sq) (by omega)
 unfold qfb
 simp -implicitDefEqProofs -dsimp only [go_sem, seval, q0r (n := cl) (by omega), ↓J0 _ _ Y1]
 refine CallK.of (qj3 cl (by omega) T) (fun v T1 ho => J1 ?_)
 obtain ⟨p1, p2, p3, p4, p5, p6⟩ := ho.form
 simp -implicitDefEqProofs -dsimp only [go_sem, seval, p1, p2, p3, p4, p5, p6, ↓J0 _ _ Y1]
 refine cpn (qm3 sq hs) ?_
 simp -implicitDefEqProofs -dsimp only [go_sem, seval, p1, p2, p3, p4, p5, p6, bts]
 refine ho.app (m := (enc sq).length) (news := K8 (enc sq)) (by simp [G4, V4]) rfl (List.length_pos_iff.2 (z1n _)) (by omega) (by omega) fun v2 T3 ho => J1 ?_
 obtain ⟨p1, p2, p3, p4, p5, p6⟩ := ho.form
 simp -implicitDefEqProofs -dsimp only [go_sem, seval, p1, p2, p3, p4, p5, p6]
 rw [V5, <- List.length_append] at ho
 exact Own.fin ho (fun _ _ h => h)
theorem Own.appB {T T1 : Tab} {v : AV} {b m : List UInt8} {c : Option Nat} {K : AV -> Tab -> Prop} (h : Own T 1 v b.length (K8 b) T1) (hb : b.length + m.length <= 1000000000)
  (hk : ∀ v' T2, Own T 1 v' (b ++ m).length (K8 (b ++ m)) T2 -> K v' T2) : q1q 1 1 T1 v (bts m c) K := by
 refine h.app (m := m.length) (news := K8 m) (by simp [bts, G4, V4]) rfl (by omega) (by omega) fun v' T2 ho => hk v' T2 ?_
 rw [V5, <- List.length_append] at ho
 exact ho
theorem qih {n : Int} {b : UInt8} (h : n = b.toNat) : (AV.fz 1 [.i .u8 n] (some 1)) = bts [b] (some 1) := by subst h; rfl
theorem z0t {R : Z1} (hR : ExtR R) {T : Tab} {xs : List Rd} {cap : Option Nat} {tc : List AV} (hl : xs.length <= 8) (hs : ∀ r ∈ xs, r.k.length <= 32 /\ 0 <= r.n /\ r.n < 18446744073709551616) : ∀ (ys : List Rd) (k : Nat), xs.drop k = ys -> k <= xs.length -> ∀ (b : List UInt8) (v : AV) (T1 : Tab), b.length <= 1001000 + 100 * k -> Own T 1 v b.length (K8 b) T1 ->
  (∀ v T1, Own T 1 v (b ++ ys.flatMap qem).length (K8 (b ++ ys.flatMap qem)) T1 -> R (.exit 0) [(1, .lp 1 0), (3, v), (23, .fz xs.length (xs.flatMap rdC) cap), (24, .i .i64 xs.length), (25, .i .i64 xs.length), (26, .b false)] [(1, tc)] T1) ->
  AW prog q6q R [(1, .lp 1 0), (3, v), (23, .fz xs.length (xs.flatMap rdC) cap), (24, .i .i64 xs.length), (25, .i .i64 k)] [(1, tc)] T1 := by
 intro ys
 induction ys with
 | nil =>
  intro k hk hle b v T1 hb ho h2
  obtain ⟨p1, p2, p3, p4, p5, p6⟩ := ho.form
  have hk' := Q7 hk hle
  refine Q5 hR ?_
  unfold q5v
  simp -implicitDefEqProofs -dsimp only [go_sem, seval, hk', Int.lt_irrefl, p1, p2, p3, p4, p5, p6]
  rw [hk'] at h2
  simp only [List.flatMap_nil, List.append_nil] at h2
  exact h2 _ _ ho
 | cons y ys ih =>
  intro k hk hle b v T1 hb ho h2
  obtain ⟨p1, p2, p3, p4, p5, p6⟩ := ho.form
  obtain ⟨hlt, hy, hk'⟩ := U6 hk
  have hc := Z5 q99 hy
  have hc5 : k * 2 + 2 <= (xs.flatMap rdC).length := by rw [O1 q99]; omega
  obtain ⟨q1, q2, q3⟩ := hs y (List.mem_of_getElem? hy)
  obtain ⟨m, hm⟩ := Int.eq_ofNat_of_zero_le q2
  have h1 := K5 (m := y.k.length) (by omega)
  have h3 := K5 (m := m) (by omega)
  refine O0 (l := q6q) rfl hR ?_
  unfold q5v
  simp -implicitDefEqProofs -dsimp only [go_sem, seval, Int.ofNat_lt, hlt, Int.natCast_nonneg, Int.toNat_natCast, hc, hc5, rdC, List.cons_append, List.nil_append, p1, p2, p3, p4, p5, p6, ↓J0 _ _ q24]
  refine cpn (qj4 y.k (by omega)) ?_
  simp -implicitDefEqProofs -dsimp only [go_sem, seval, p1, p2, p3, p4, p5, p6]
  refine ho.appB (by simp [q76]; omega) fun v2 T2 ho => J1 ?_
  obtain ⟨p1, p2, p3, p4, p5, p6⟩ := ho.form
  simp -implicitDefEqProofs -dsimp only [go_sem, seval, p1, p2, p3, p4, p5, p6, hm, ↓J0 _ _ Y1]
  refine cpn (qm3 m (by omega)) ?_
  simp -implicitDefEqProofs -dsimp only [go_sem, seval, p1, p2, p3, p4, p5, p6]
  refine ho.appB (by simp [q76]; omega) fun v3 T3 ho => J1 ?_
  obtain ⟨p1, p2, p3, p4, p5, p6⟩ := ho.form
  simp -implicitDefEqProofs -dsimp only [go_sem, seval, p1, p2, p3, p4, p5, p6]
  rw [N4 (by omega)]
  have e : b ++ q76 y.k ++ enc m = b ++ qem y := by simp [qem, hm]
  rw [e] at ho
  refine ih (k + 1) hk' hlt _ _ _ (by simp [qem, q76, hm]; omega) ho fun v T1 ho => h2 v T1 ?_
  simpa only [List.flatMap_cons, List.append_assoc] using ho
theorem z0u {R : Z1} (hR : ExtR R) {T : Tab} {xs : List Wt} {cap : Option Nat} (hl : xs.length <= 8) (hs : ∀ w ∈ xs, w.k.length <= 32 /\ w.v.length <= 64) : ∀ (ys : List Wt) (k : Nat), xs.drop k = ys -> k <= xs.length -> ∀ (b : List UInt8) (v : AV) (T1 : Tab), b.length <= 1002000 + 200 * k -> Own T 1 v b.length (K8 b) T1 ->
  (∀ v T1, Own T 1 v (b ++ ys.flatMap qgt).length (K8 (b ++ ys.flatMap qgt)) T1 -> R (.exit 2) [(3, v), (48, .fz xs.length (xs.flatMap wtC) cap), (49, .i .i64 xs.length), (50, .i .i64 xs.length), (51, .b false)] [] T1) ->
  AW prog q6r R [(3, v), (48, .fz xs.length (xs.flatMap wtC) cap), (49, .i .i64 xs.length), (50, .i .i64 k)] [] T1 := by
 intro ys
 induction ys with
 | nil =>
  intro k hk hle b v T1 hb ho h2
  obtain ⟨p1, p2, p3, p4, p5, p6⟩ := ho.form
  have hk' := Q7 hk hle
  refine Q5 hR ?_
  unfold q5w
  simp -implicitDefEqProofs -dsimp only [go_sem, seval, hk', Int.lt_irrefl, p1, p2, p3, p4, p5, p6]
  rw [hk'] at h2
  simp only [List.flatMap_nil, List.append_nil] at h2
  exact h2 _ _ ho
 | cons y ys ih =>
  intro k hk hle b v T1 hb ho h2
  obtain ⟨p1, p2, p3, p4, p5, p6⟩ := ho.form
  obtain ⟨hlt, hy, hk'⟩ := U6 hk
  have hc := Z5 q7s hy
  have hc5 : k * 3 + 3 <= (xs.flatMap wtC).length := by rw [O1 q7s]; omega
  obtain ⟨q1, q2⟩ := hs y (List.mem_of_getElem? hy)
  have h1 := K5 (m := y.k.length) (by omega)
  have h3 := K5 (m := y.v.length) (by omega)
  refine O0 (l := q6r) rfl hR ?_
  unfold q5w
  simp -implicitDefEqProofs -dsimp only [go_sem, seval, Int.ofNat_lt, hlt, Int.natCast_nonneg, Int.toNat_natCast, hc, hc5, wtC, List.cons_append, List.nil_append, p1, p2, p3, p4, p5, p6, ↓J0 _ _ q24]
  refine cpn (qj4 y.k (by omega)) ?_
  simp -implicitDefEqProofs -dsimp only [go_sem, seval, p1, p2, p3, p4, p5, p6]
  refine ho.appB (by simp [q76]; omega) fun v2 T2 ho => J1 ?_
  obtain ⟨p1, p2, p3, p4, p5, p6⟩ := ho.form
  simp -implicitDefEqProofs -dsimp only [go_sem, seval, p1, p2, p3, p4, p5, p6, ↓J0 _ _ q24]
  refine cpn (qj4 y.v (by omega)) ?_
  simp -implicitDefEqProofs -dsimp only [go_sem, seval, p1, p2, p3, p4, p5, p6]
  refine ho.appB (by simp [q76]; omega) fun v3 T3 ho => J1 ?_
  obtain ⟨p1, p2, p3, p4, p5, p6⟩ := ho.form
  simp -implicitDefEqProofs -dsimp only [go_sem, seval, p1, p2, p3, p4, p5, p6, ↓J0 _ _ qdx]
  refine cpn (z6p y.g) ?_
  simp -implicitDefEqProofs -dsimp only [go_sem, seval, p1, p2, p3, p4, p5, p6]
  refine ho.appB (by simp [q76]; omega) fun v3 T3 ho => J1 ?_
  obtain ⟨p1, p2, p3, p4, p5, p6⟩ := ho.form
  simp -implicitDefEqProofs -dsimp only [go_sem, seval, p1, p2, p3, p4, p5, p6]
  rw [N4 (by omega)]
  have e : b ++ q76 y.k ++ q76 y.v ++ [qiw y.g] = b ++ qgt y := by simp [qgt]
  rw [e] at ho
  refine ih (k + 1) hk' hlt _ _ _ (by simp [qgt, q76]; omega) ho fun v T1 ho => h2 v T1 ?_
  simpa only [List.flatMap_cons, List.append_assoc] using ho
theorem qgu {n : Nat} (h : n < 128) : IntKind.u8.wrap (n : Int) = ((UInt8.ofNat n).toNat : Int) := by
 rw [qck, UInt8.toNat_ofNat_of_lt' (by show n < 256; omega)]; omega
theorem quh (t : Tx) (k1 k2 : Option Nat) (h : t.Good) (T : Tab) : ACalls prog q2i [.agg (t.cells k1 k2)] T (fun v T' => Own T 1 v (qay t).length (K8 (qay t)) T') := by
 refine Z3 U3 qhy (by simp) ?_
 obtain ⟨hcl, hsq, hr, hw, hrr, hww⟩ := h
 obtain ⟨cl, hclm⟩ := Int.eq_ofNat_of_zero_le hcl.1
 obtain ⟨sq, hsqm⟩ := Int.eq_ofNat_of_zero_le (show 0 <= t.sq by omega)
 have l1 := K5 (m := cl) (by omega)
 have l2 := K5 (m := sq) (by omega)
 have l5 := q2x (g := qem) t.rs fun r hr => qsa (hrr r hr)
 unfold qbd
 simp -implicitDefEqProofs -dsimp only [go_sem, seval, Tx.cells, hclm, hsqm, ↓J0 _ _ qfc]
 refine CallK.of (zaw T cl sq (by omega) (by omega)) (fun v T1 ho => J1 ?_)
 obtain ⟨p1, p2, p3, p4, p5, p6⟩ := ho.form
 simp -implicitDefEqProofs -dsimp only [go_sem, seval, p1, p2, p3, p4, p5, p6, ↓J0 _ _ qdx]
 refine cpn (z6p t.pl) ?_
 simp -implicitDefEqProofs -dsimp only [go_sem, seval, p1, p2, p3, p4, p5, p6]
 refine ho.appB (by simp; omega) fun v2 T2 ho => J1 ?_
 obtain ⟨p1, p2, p3, p4, p5, p6⟩ := ho.form
 simp -implicitDefEqProofs -dsimp only [go_sem, seval, p1, p2, p3, p4, p5, p6, qgu (n := t.rs.length) (by omega), qih (rfl : ((UInt8.ofNat t.rs.length).toNat : Int) = _)]
 refine ho.appB (by simp; omega) fun v2 T2 ho => J1 ?_
 obtain ⟨p1, p2, p3, p4, p5, p6⟩ := ho.form
 simp -implicitDefEqProofs -dsimp only [go_sem, seval, p1, p2, p3, p4, p5, p6]
 refine z0t (T := T) (by repeat' (first | exact N2 _ _ | assumption | apply N1 | apply K9 | apply Q3)) hr hrr t.rs 0 rfl (by omega) _ _ _ (by simp; omega) ho (fun v T1 ho => ?_)
 obtain ⟨p1, p2, p3, p4, p5, p6⟩ := ho.form
 simp -implicitDefEqProofs -dsimp only [go_sem, seval, p1, p2, p3, p4, p5, p6, qgu (n := t.ws.length) (by omega), qih (rfl : ((UInt8.ofNat t.ws.length).toNat : Int) = _)]
 refine ho.appB (by simp only [List.length_append, List.length_cons, List.length_nil]; omega) fun v2 T2 ho => J1 ?_
 obtain ⟨p1, p2, p3, p4, p5, p6⟩ := ho.form
 simp -implicitDefEqProofs -dsimp only [go_sem, seval, p1, p2, p3, p4, p5, p6]
 refine z0u (T := T) (by repeat' (first | exact N2 _ _ | assumption | apply N1 | apply K9 | apply Q3)) hw hww t.ws 0 rfl (by omega) _ _ _ (by simp only [List.length_append, List.length_cons, List.length_nil]; omega) ho (fun v T1 ho => ?_)
 obtain ⟨p1, p2, p3, p4, p5, p6⟩ := ho.form
 simp -implicitDefEqProofs -dsimp only [go_sem, seval, p1, p2, p3, p4, p5, p6]
 have e : enc cl ++ enc sq ++ [qiw t.pl] ++ [UInt8.ofNat t.rs.length] ++ t.rs.flatMap qem ++ [UInt8.ofNat t.ws.length] ++ t.ws.flatMap qgt = qay t := by
  rw [<- q06 (n := t.rs.length) (by omega), <- q06 (n := t.ws.length) (by omega)]
  simp [qay, hclm, hsqm]
 rw [e] at ho
 exact Own.fin ho (fun _ _ h => h)
end Go.Aw
